/- Code; but for regions whose order is drawn: the loop over slices.Backward. -/
import Derived.Test.YtcpmgjnlnaigbaaGreatDoorEvW
set_option linter.unusedVariables false
set_option linter.unusedSimpArgs false
namespace Go.Ev
open Go Go.RowKit

variable {P : Program} {E : Ren} {ρ : Env} {v : AV} {A A' : AH} {w : World} {t t' : Tp} {n : Nat} {a : Act}

theorem OR.locked {E : Ren} {κ : Nat} {cs : Cs} {g : Option (Nat × Nat)} {r : Bool} {o : Obj} (h : OR E κ (.cells cs g r) o) : OR E κ (.cells cs g true) o := by
  obtain ⟨arr, e, fr, h1, h2, h3, h4⟩ := h
  exact ⟨arr, e, fr, h1, h2, (fun h => by cases h), h4⟩

theorem seal_get {m : Nat} {A1 : AH} (h : sealA A m = some A1) : A1.next = A.next ∧ ∃ cs g r, A.get m = some (.cells cs g r) ∧ ∀ n, A1.get n = if n = m then some (.cells cs g true) else A.get n := by
  simp only [sealA, ob_some, onCells_some] at h
  obtain ⟨o, ho, cs, g, r, rfl, h⟩ := h
  cases h
  exact ⟨rfl, cs, g, r, ho, fun n => AH.get_set _ _ _ _ (AH.get_lt _ _ _ ho)⟩

theorem Stp.sealed (hM : MR E A w) {m : Nat} {A1 : AH} (h : sealA A m = some A1) : Stp E A w E A1 w := by
  obtain ⟨hnx, cs, g, r, hg, hget⟩ := seal_get h
  refine ⟨Ren.le_refl E, fun _ _ _ h => .inl h, ⟨rfl, rfl, rfl, Nat.le_refl _, fun _ _ _ => rfl⟩, ⟨fun n o ho => ?_, fun n k o p b κ κ' ho hp hl hl' he he' => ?_⟩, by omega, fun n o hlt ho hl => ?_⟩
  · rw [hget] at ho
    split at ho
    · rename_i e; subst e; cases ho
      obtain ⟨h1, b, κ, h2, ob', h3, h4⟩ := hM.blk n _ hg
      exact ⟨by omega, b, κ, h2, ob', h3, h4.locked⟩
    · obtain ⟨h1, h2⟩ := hM.blk n o ho
      exact ⟨by omega, h2⟩
  · rw [hget] at ho hp
    have hx : ∃ o', A.get n = some o' ∧ o'.live = true := by
      split at ho
      · rename_i e; subst e; exact ⟨_, hg, rfl⟩
      · exact ⟨o, ho, hl⟩
    have hy : ∃ o', A.get k = some o' ∧ o'.live = true := by
      split at hp
      · rename_i e; subst e; exact ⟨_, hg, rfl⟩
      · exact ⟨p, hp, hl'⟩
    obtain ⟨o1, h1, h2⟩ := hx
    obtain ⟨o2, h3, h4⟩ := hy
    exact hM.inj n k o1 o2 b κ κ' h1 h3 h2 h4 he he'
  · rw [hget] at ho
    split at ho
    · rename_i e; subst e; cases ho
      exact ⟨_, hg, rfl, (fun h => by cases h)⟩
    · exact ⟨o, ho, hl, fun h => h⟩

/-- a sealed block is nobody's to write -/
theorem seal_own (hM : MR E A w) {m b κ : Nat} {A1 : AH} (h : sealA A m = some A1) (he : E m = some (b, κ)) : ¬ Own E A1 b := by
  obtain ⟨hnx, cs, g, r, hg, hget⟩ := seal_get h
  rintro ⟨n, o, κ', h1, h2, h3, h4⟩
  have hM1 := (Stp.sealed hM h).mr
  have e : n = m := hM1.inj n m o (.cells cs g true) b κ' κ h1 (by rw [hget, if_pos rfl]) h2 rfl h4 he
  subst e
  rw [hget, if_pos rfl] at h1
  cases h1
  cases h3

theorem cellsFrom_spec {h : AH} {n : Nat} : ∀ k, cellsFrom h n k = true → ∀ j, j < k → isCellsA (h.get (n + j)) = true
  | 0, _, j, hj => by omega
  | k + 1, hc, j, hj => by
    have h' : bc (isCellsA (h.get (n + k))) (cellsFrom h n k) false = true := hc
    rw [bc_and] at h'
    by_cases e : j = k
    · subst e; exact h'.1
    · exact cellsFrom_spec k h'.2 j (by omega)
theorem onlyCells_spec {h0 h : AH} (hc : onlyCells h0 h = true) {n : Nat} (h1 : h0.next ≤ n) (h2 : n < h.next) {o : AObj} (ho : h.get n = some o) : isCellsA (some o) = true := by
  have := cellsFrom_spec _ hc (n - h0.next) (by omega)
  rw [show h0.next + (n - h0.next) = n by omega, ho] at this
  exact this
theorem onlyCells_self (h : AH) : onlyCells h h = true := by unfold onlyCells; rw [Nat.sub_self]; rfl

/-- what is owned behind the loop's beginning is cells -/
theorem own_cells {B X : AH} {E1 : Ren} {W : World} (hM : MR E B w) (s : Stp E B w E1 X W) (hc : onlyCells B X = true) {n b κ : Nat} {p : AObj} (h1 : X.get n = some p) (h2 : p.live = true) (h3 : E1 n = some (b, κ)) (hb : w.heap.size ≤ b) {o : Obj} (ho : W.heap[b]? = some o) : o.isCells = true := by
  obtain ⟨hlt, b', κ', he, o', hb', hor⟩ := s.mr.blk n p h1
  rw [h3] at he
  cases he
  rw [ho] at hb'
  cases hb'
  rcases Nat.lt_or_ge n B.next with hn | hn
  · obtain ⟨q, hq, hl, _⟩ := s.old n p hn h1 h2
    obtain ⟨_, b0, κ0, he0, o0, hb0, _⟩ := hM.blk n q hq
    have := s.le _ _ he0
    rw [h3] at this
    cases this
    have := (Array.getElem?_eq_some_iff.1 hb0).1
    omega
  · have := onlyCells_spec hc hn hlt h1
    cases p with
    | cells cs g r => obtain ⟨arr, e, fr, rfl, _⟩ := hor; rfl
    | map es c => cases this
    | mapIter m _ _ _ => cases this
    | dead => cases h2

theorem stp_robust {B X : AH} {E1 : Ren} {W W' : World} {row : Option Nat} (hM : MR E B w) (s : Stp E B w E1 X W) (hc : onlyCells B X = true) (hg : W.grownBy W' row)
    (hr : ∀ r, row = some r → w.heap.size ≤ r ∧ ∃ o : Obj, W.heap[r]? = some o ∧ o.isCells = false) : Stp E B w E1 X W' := by
  refine ⟨s.le, s.dom, ⟨hg.os.trans s.frm.os, hg.tape.trans s.frm.tape, hg.output.trans s.frm.output, Nat.le_trans s.frm.size hg.size, fun b hb hn => ?_⟩, ⟨fun n o ho => ?_, s.mr.inj⟩, s.nxt, s.old⟩
  · refine (hg.block b (Nat.lt_of_lt_of_le hb s.frm.size) fun e => ?_).trans (s.frm.block b hb hn)
    have := (hr b e.symm).1
    omega
  · obtain ⟨h1, b, κ, h2, o', h3, h4⟩ := s.mr.blk n o ho
    refine ⟨h1, b, κ, h2, ?_⟩
    have hlt := (Array.getElem?_eq_some_iff.1 h3).1
    by_cases e : some b = row
    · obtain ⟨h5, o2, h6, h7⟩ := hr b e.symm
      cases hl : o.live with
      | true =>
        have := own_cells hM s hc ho hl h2 h5 h6
        rw [this] at h7
        cases h7
      | false =>
        have hlt' : b < W'.heap.size := Nat.lt_of_lt_of_le hlt hg.size
        refine ⟨W'.heap[b], Array.getElem?_eq_getElem hlt', ?_⟩
        cases o with
        | dead => trivial
        | _ => cases hl
    · exact ⟨o', (hg.block b hlt e).trans h3, h4⟩

theorem stp_keeps {B X Y : AH} {E1 E2 : Ren} {W W' : World} (hM : MR E B w) (s : Stp E B w E1 X W) (hc : onlyCells B X = true) (s2 : Stp E1 X W E2 Y W') : KeepsFrom w.heap.size W W' :=
  ⟨s2.frm.size, fun k o hk ho hno => by
    rw [s2.frm.block k (Array.getElem?_eq_some_iff.1 ho).1 fun hown => ?_]
    · exact ho
    · obtain ⟨n, p, κ, h1, h2, _, h4⟩ := hown
      have := own_cells hM s hc h1 h2 h4 hk ho
      rw [this] at hno
      cases hno⟩

theorem rd_at (h : MR E A w) {n b κ o k : Nat} {cs : Cs} {g : Option (Nat × Nat)} {r : Bool} {l : List AV} (hg : A.get n = some (.cells cs g r)) (he : E n = some (b, κ)) (hl : rdCells cs o k = some l) :
    ∃ l' : List Value, VRL E l l' ∧ l'.length = k ∧ ∀ i, i < k → w.cell? ⟨b, o + i, none⟩ = l'[i]? := by
  obtain ⟨arr, e, fr, hb, h1, _, _⟩ := h.cells hg he
  obtain ⟨h3, h4⟩ := (rdCells_spec k cs o l).1 hl
  have h5 : ∀ i, i < k → ∃ v', arr[o + i]? = some v' := fun i hi => by
    have := h4 i hi
    rw [List.getElem?_eq_getElem (by omega)] at this
    obtain ⟨v', hv, _⟩ := h1 _ _ this
    exact ⟨v', hv⟩
  have hk : ((arr.toList.drop o).take k).length = k := by
    rw [List.length_take, List.length_drop, Array.length_toList]
    rcases Nat.eq_zero_or_pos k with h0 | h0
    · omega
    · obtain ⟨v', hv⟩ := h5 (k - 1) (by omega)
      have := (Array.getElem?_eq_some_iff.1 hv).1
      omega
  refine ⟨(arr.toList.drop o).take k, ?_, hk, fun i hi => ?_⟩
  · refine VRL.of_get (by rw [hk]; omega) (fun i v v' hv hv' => ?_)
    have hi : i < k := by have := (List.getElem?_eq_some_iff.1 hv).1; omega
    rw [List.getElem?_take, if_pos hi, List.getElem?_drop] at hv'
    obtain ⟨u, hu, hr⟩ := h1 (o + i) v ((h4 i hi).trans hv)
    have : arr[o + i]? = some v' := by simpa using hv'
    rw [hu] at this
    cases this
    exact hr
  · rw [cell_of hb, List.getElem?_take, if_pos hi, List.getElem?_drop]
    simp

/-- an element of a row -/
def elemV (z : Option Nat) (size : Nat) (cs : List Value) (i : Nat) : Value :=
  match z with
  | none => cs.getD (i * size) undef
  | some n => .agg ((cs.drop (i * size)).take n).toArray
theorem partA_elem {z : Option Nat} {size i : Nat} {cs : List AV} {cs' : List Value} {x : AV} (h : partA z cs (i * size) = some x) (hr : VRL E cs cs') : VR E x (elemV z size cs' i) := by
  cases z with
  | none =>
    have h' : getN cs (i * size) = some x := h
    rw [getN_eq] at h'
    obtain ⟨x', h1, h2⟩ := hr.get h'
    simp only [elemV, List.getD_eq_getElem?_getD, h1, Option.getD_some]
    exact h2
  | some n =>
    have h' : some (AV.agg (takeN n (dropN (i * size) cs))) = some x := h
    cases h'
    simp only [elemV, VR]
    rw [takeN_eq, dropN_eq]
    exact ⟨_, rfl, (hr.drop _).take _⟩

/-- what the iterators of slices.Backward do -/
def BackOk (P : Program) (gf : FuncId) (size : Nat) (z : Option Nat) : Prop :=
  (∀ args w, (callFunc gf args).run P w = .ok (.enter gf args) w) ∧
  ∀ (w : World) (Bs b o len cap : Nat) (aa : Option Addr) (cs : List Value), w.cell? ⟨Bs, 0, none⟩ = some (.slice aa len cap) → Bs < w.heap.size → b < w.heap.size → (0 < len → aa = some ⟨b, o, none⟩) → len ≤ 1099511627776 →
    cs.length = len * size → (∀ i, i < len * size → w.cell? ⟨b, o + i, none⟩ = cs[i]?) →
    SeqN Fence.wide 1 P gf #[.pointer (some ⟨Bs, 0, none⟩)] (fun k => #[.int .i64 ((len - 1 - k : Nat) : Int), elemV z size cs (len - 1 - k)]) (Kept [Bs, b]) len w
def BacksOk (P : Program) (back : Backs) : Prop := ∀ gf s, back gf = some s → BackOk P gf s.1 s.2

theorem two_some {ps : Array Tmp} {f : Nat → Nat → Out} {x : Ex × Tp × AH} (h : two ps f = some x) : ∃ p q, ps = #[p, q] ∧ f p q = some x := by
  unfold two at h
  split at h
  · rename_i p q hp
    exact ⟨p, q, by rw [← Array.toArray_toList (xs := ps), hp], h⟩
  · cases h
theorem backFn_some {back : Backs} {fn : Fn} {first cap : List AV} {f : Nat × Option Nat → Nat → Out} {x : Ex × Tp × AH} (h : backFn back fn first cap f = some x) :
    ∃ g b m, fn = .func g ∧ first = [] ∧ cap = [.ptr (some (m, 0))] ∧ back g = some b ∧ f b m = some x := by
  unfold backFn at h
  split at h
  · rename_i g c
    rw [ob_some] at h
    obtain ⟨b, hb, h⟩ := h
    rw [onPtr_some] at h
    obtain ⟨m, o, rfl, h⟩ := h
    rw [og_some, Nat.beq_eq] at h
    obtain ⟨rfl, h⟩ := h
    exact ⟨_, b, m, rfl, rfl, rfl, hb, h⟩
  · cases h

theorem backL_some {z : Option Nat} {size : Nat} {cells : List AV} : ∀ {n : Nat} {l : List (Nat × AV)}, backL z size cells n = some l → l.length = n ∧ ∀ k, k < n → ∃ x, l[k]? = some (n - 1 - k, x) ∧ partA z cells ((n - 1 - k) * size) = some x
  | 0, l, h => by
    have h' : some [] = some l := h
    cases h'
    exact ⟨rfl, fun k hk => by omega⟩
  | n + 1, l, h => by
    have h' : (ob (partA z cells (n * size)) fun x => om (backL z size cells n) fun l => (n, x) :: l) = some l := h
    rw [ob_some] at h'
    obtain ⟨x, hx, h'⟩ := h'
    rw [om_some] at h'
    obtain ⟨r, hr, rfl⟩ := h'
    obtain ⟨h1, h2⟩ := backL_some hr
    refine ⟨by simp [h1], fun k hk => ?_⟩
    cases k with
    | zero => exact ⟨x, by simp, by simpa using hx⟩
    | succ k =>
      obtain ⟨y, h3, h4⟩ := h2 k (by omega)
      refine ⟨y, ?_, ?_⟩
      · rw [List.getElem?_cons_succ, h3]; congr 2; omega
      · rw [show n + 1 - 1 - (k + 1) = n - 1 - k by omega]; exact h4

theorem isNormal_some {r : Out} {f : Tp → AH → Option AH} {x : AH} (h : isNormal r f = some x) : ∃ t1 A1, r = some (.normal, t1, A1) ∧ f t1 A1 = some x := by
  cases r with
  | none => cases h
  | some y =>
    obtain ⟨e, t1, A1⟩ := y
    cases e with
    | normal => exact ⟨t1, A1, rfl, h⟩
    | _ => cases h

theorem roundsA_some {p q : Nat} {ra rb : Body} {B : AH} : ∀ {l : List (Nat × AV)} {h h' : AH}, onlyCells B h = true → roundsA n p q ra rb B t l h = some h' →
    ∃ st : Nat → AH, st 0 = h ∧ st l.length = h' ∧ (∀ k, k ≤ l.length → onlyCells B (st k) = true) ∧ ∀ k x, l[k]? = some x → ∃ t1 t2 t3 t4 h1, putT n t (some p) (intN x.1) = some t1 ∧ putT n t1 (some q) x.2 = some t2 ∧ ra t2 (st k) = some (.normal, t3, h1) ∧ onlyCells B h1 = true ∧ rb t3 h1 = some (.normal, t4, st (k + 1))
  | [], h, h', hc, hh => by
    have e : some h = some h' := hh
    cases e
    exact ⟨fun _ => h, rfl, rfl, fun _ _ => hc, fun k x hx => by simp at hx⟩
  | x :: l, h, h', hc, hh => by
    have e : (ob (putT n t (some p) (intN x.1)) fun t1 => ob (putT n t1 (some q) x.2) fun t2 =>
      isNormal (ra t2 h) fun t3 h1 => og (onlyCells B h1) (isNormal (rb t3 h1) fun _ h2 => og (onlyCells B h2) (roundsA n p q ra rb B t l h2))) = some h' := hh
    simp only [ob_some] at e
    obtain ⟨t1, e1, t2, e2, e⟩ := e
    obtain ⟨t3, h1, e3, e⟩ := isNormal_some e
    rw [og_some] at e
    obtain ⟨e4, e⟩ := e
    obtain ⟨t4, h2, e5, e⟩ := isNormal_some e
    rw [og_some] at e
    obtain ⟨e6, e⟩ := e
    obtain ⟨st, s1, s2, s3, s4⟩ := roundsA_some e6 e
    refine ⟨fun k => match k with | 0 => h | k + 1 => st k, rfl, s2, fun k hk => ?_, fun k y hy => ?_⟩
    · cases k with
      | zero => exact hc
      | succ k => exact s3 k (by simpa using hk)
    · cases k with
      | zero =>
        simp at hy
        subst hy
        exact ⟨t1, t2, t3, t4, h1, e1, e2, e3, e4, by show _ = some (Ex.normal, t4, st 0); rw [s1]; exact e5⟩
      | succ k => exact s4 k y (by simpa using hy)

theorem rowOf_some (hM : MR E A w) {size len : Nat} {sv : AV} {sv' : Value} {pq : Option (Nat × Nat)} {cells : List AV} (h : rowOf A size sv = some (pq, len, cells)) (hv : VR E sv sv') (B0 : Nat) :
    ∃ (b o cap : Nat) (aa : Option Addr) (cs : List Value), sv' = .slice aa len cap ∧ (0 < len → aa = some ⟨b, o, none⟩) ∧ VRL E cells cs ∧ cs.length = len * size ∧ (∀ i, i < len * size → w.cell? ⟨b, o + i, none⟩ = cs[i]?) ∧
      ((pq = none ∧ b = B0) ∨ ∃ m κ, pq = some (m, o) ∧ E m = some (b, κ) ∧ ∃ obj, A.get m = some obj) := by
  have key : ∀ (m o : Nat) (cs : Cs) (g : Option (Nat × Nat)) (r : Bool) (l : List AV) (b κ cap : Nat), A.get m = some (.cells cs g r) → E m = some (b, κ) → rdCells cs o (len * size) = some l →
      ∃ (cs : List Value), VRL E l cs ∧ cs.length = len * size ∧ (∀ i, i < len * size → w.cell? ⟨b, o + i, none⟩ = cs[i]?) := fun m o cs g r l b κ cap h1 h2 h3 => rd_at hM h1 h2 h3
  unfold rowOf at h
  rcases onSl_some.1 h with ⟨a, n, c, rfl, h⟩ | ⟨m, o, n, eo, mc, rfl, h⟩ | ⟨rfl, h⟩
  · cases a with
    | none =>
      have h' : og (Nat.beq n 0) (some (none, 0, [])) = some (pq, len, cells) := h
      rw [og_some, Nat.beq_eq] at h'
      obtain ⟨rfl, h'⟩ := h'
      cases h'
      simp only [VR] at hv
      exact ⟨B0, 0, c, none, [], hv, fun h => by omega, by simp [VRL], by simp, fun i hi => by omega, .inl ⟨rfl, rfl⟩⟩
    | some q =>
      have h' : (ob (A.get q.1) fun o => onCells o fun cs _ _ => om (rdCells cs q.2 (n * size)) fun l => (some q, n, l)) = some (pq, len, cells) := h
      simp only [ob_some, onCells_some, om_some] at h'
      obtain ⟨_, hg, cs, g, r, rfl, l, hl, h'⟩ := h'
      cases h'
      simp only [VR] at hv
      obtain ⟨b, κ, he, hv⟩ := hv
      obtain ⟨cs', h1, h2, h3⟩ := key _ _ _ _ _ _ _ _ c hg he hl
      exact ⟨b, q.2, c, _, cs', hv, fun _ => rfl, h1, h2, h3, .inr ⟨q.1, κ, rfl, he, _, hg⟩⟩
  · have h' : (ob (A.get m) fun ob1 => onCells ob1 fun cs _ _ => om (rdCells cs o (n * size)) fun l => (some (m, o), n, l)) = some (pq, len, cells) := h
    simp only [ob_some, onCells_some, om_some] at h'
    obtain ⟨_, hg, cs, g, r, rfl, l, hl, h'⟩ := h'
    cases h'
    simp only [VR] at hv
    obtain ⟨b, κ, he, h4, h5, hv⟩ := hv
    obtain ⟨cs', h1, h2, h3⟩ := key _ _ _ _ _ _ _ _ 0 hg he hl
    exact ⟨b, o, κ - eo, _, cs', hv, fun _ => rfl, h1, h2, h3, .inr ⟨m, κ, rfl, he, _, hg⟩⟩
  · cases h
    simp only [VR] at hv
    obtain ⟨a, c, hv⟩ := hv
    exact ⟨B0, 0, c, _, [], hv, fun h => by omega, by simp [VRL], by simp, fun i hi => by omega, .inl ⟨rfl, rfl⟩⟩


theorem Fresh.of_next {B X : AH} (hF : Fresh E A X) (h : B.next = A.next) : Fresh E B X := fun n h1 h2 => hF n (by omega) h2

set_option maxHeartbeats 1000000 in
theorem range_ok {code : CodeFn} {call : CallFn} {back : Backs} (hcode : CodeOk P code) (hbk : BacksOk P back) {f : Operand} {ps : Array Tmp} {assign body : Code} : BodyOk P n (.rangeFunc f ps assign body) (cRange back f ps assign body P code call n) := by
  intro t A e t' A' h
  unfold cRange at h
  rw [og_some, bc_and] at h
  obtain ⟨⟨hrf1, hrf2⟩, h⟩ := h
  obtain ⟨p, q, hps, ha⟩ := two_some h
  clear h
  subst hps
  obtain ⟨fv, hfv, hb⟩ := ob_some.1 ha
  clear ha
  obtain ⟨fn, first, cap, hc1, hc⟩ := onFunc_some.1 hb
  clear hb
  subst hc1
  obtain ⟨gf, bk, m, hd1, hd2, hd3, hbkg, h⟩ := backFn_some hc
  clear hc
  subst hd1 hd2 hd3
  simp only [ob_some, og_some, om_some] at h
  obtain ⟨sv, hsv, ⟨pq, len, cells⟩, hrow, hlen, l, hl, A1, hA1, A2, hA2, A3, hA3, h⟩ := h
  cases h
  rw [Nat.ble_eq] at hlen
  simp only at hlen hl hA2
  obtain ⟨hll, hlx⟩ := backL_some hl
  obtain ⟨st, hs0, hsl, hsc, hst⟩ := roundsA_some (onlyCells_self A2) hA3
  obtain ⟨hn1, cs1, g1, r1, hg1, hget1⟩ := seal_get hA1
  have hn2 : A2.next = A1.next := by
    cases pq with
    | none => have h' : some A1 = some A2 := hA2; cases h'; rfl
    | some y => exact (seal_get hA2).1
  -- the names go up
  have hnx : ∀ k, k < l.length → (st k).next ≤ (st (k + 1)).next := fun k hk => by
    obtain ⟨x, hx, _⟩ := hlx k (by omega)
    obtain ⟨t1, t2, t3, t4, h1, _, _, e3, _, e5⟩ := hst k _ hx
    exact Nat.le_trans (hcode n assign _ _ _ _ _ e3).1 (hcode n body _ _ _ _ _ e5).1
  have hup : ∀ d k, k + d ≤ l.length → (st k).next ≤ (st (k + d)).next := fun d => by
    induction d with
    | zero => intro k _; exact Nat.le_refl _
    | succ d ih => intro k hk; exact Nat.le_trans (ih k (by omega)) (hnx (k + d) (by omega))
  have hto : ∀ k, k ≤ l.length → A.next ≤ (st k).next ∧ (st k).next ≤ A'.next := fun k hk => by
    have h1 := hup k 0 (by omega)
    have h2 := hup (l.length - k) k (by omega)
    rw [hs0] at h1
    rw [show k + (l.length - k) = l.length by omega, hsl] at h2
    simp only [Nat.zero_add] at h1
    omega
  refine ⟨by have := hto l.length (Nat.le_refl _); omega, fun r E a w Q mm hr hGl hM hT hF hQ => ?_⟩
  obtain rfl : r = none := hr.resolve_right (by simp [noRF])
  refine wpIn_fen (m := 2) ?_
  have hfx := hT.good hGl f _ hfv
  simp only [VR] at hfx
  obtain ⟨x', c', hfe, hx1, hx2⟩ := hfx
  have hx' : x' = #[] := by have := hx1.length; simpa using this
  subst hx'
  simp only [VRL] at hx2
  obtain ⟨y, s, hy, hy1, rfl⟩ := hx2
  simp only [VR] at hy1
  obtain ⟨Bs, κs, hEs, rfl⟩ := hy1
  have hc' : c' = #[.pointer (some ⟨Bs, 0, none⟩)] := by rw [← Array.toArray_toList (xs := c'), hy]
  subst hc'
  -- the slice
  obtain ⟨_, hg1', cs1', g1', r1', rfl', hsv2⟩ : ∃ o, A.get m = some o ∧ ∃ cs g r, o = .cells cs g r ∧ rdVar none cs 0 = some sv := by
    have h' : (ob (A.get m) fun ob1 => onCells ob1 fun cs _ _ => rdVar none cs 0) = some sv := hsv
    simp only [ob_some, onCells_some] at h'
    obtain ⟨o, ho, cs, g, r, e, h'⟩ := h'
    exact ⟨o, ho, cs, g, r, e, h'⟩
  subst rfl'
  have hsv3 : cs1'.get 0 = some sv := hsv2
  obtain ⟨arr, ety, fr, hbs, hval, _⟩ := hM.cells hg1' hEs
  obtain ⟨sv', hsv4, hsv5⟩ := hval 0 _ hsv3
  have hcs : w.cell? ⟨Bs, 0, none⟩ = some sv' := by rw [cell_of hbs]; exact hsv4
  have hBlt := (Array.getElem?_eq_some_iff.1 hbs).1
  obtain ⟨b, o, cap', aa, cs, rfl, haa, hcr, hcl, hcc, hpq⟩ := rowOf_some hM hrow hsv5 Bs
  have hblt : b < w.heap.size := by
    rcases hpq with ⟨_, rfl⟩ | ⟨m2, κ2, _, he, obj, ho⟩
    · exact hBlt
    · obtain ⟨_, b', κ', he', o', hb', _⟩ := hM.blk m2 obj ho
      rw [he] at he'
      cases he'
      exact (Array.getElem?_eq_some_iff.1 hb').1
  -- sealed
  have s1 := Stp.sealed hM hA1
  have hM1 := s1.mr
  have s2 : Stp E A1 w E A2 w := by
    cases pq with
    | none => have h' : some A1 = some A2 := hA2; cases h'; exact Stp.refl hM1
    | some y => exact Stp.sealed hM1 hA2
  have hF1 : Fresh E A A2 := fun n h1 h2 => by omega
  have s02 : Stp E A w E A2 w := s1.trans s2 hF1
  have hM2 := s2.mr
  have hno1 : ¬ Own E A2 Bs := fun h => seal_own hM hA1 hEs (s2.own_back (fun n h1 h2 => by omega) hBlt h)
  have hno2 : ¬ Own E A2 b := by
    rcases hpq with ⟨_, rfl⟩ | ⟨m2, κ2, rfl, he, obj, ho⟩
    · exact hno1
    · exact seal_own hM1 hA2 he
  have hF2 : Fresh E A2 A' := hF.of_next (by omega)
  have hFk : ∀ k, k ≤ l.length → Fresh E A2 (st k) := fun k hk => hF2.left (hto k hk).2
  have hbv := (hbk gf bk hbkg)
  have hkept : ∀ {k : Nat} {E1 E2 : Ren} {X : AH} {W W' : World}, k ≤ l.length → Stp E A2 w E1 X W → Fresh E A2 X → Stp E1 X W E2 (st k) W' ∨ True → True := fun _ _ _ _ => trivial
  have keep : ∀ {E1 E2 : Ren} {X Y : AH} {W W' : World}, Stp E A2 w E1 X W → Fresh E A2 X → Stp E1 X W E2 Y W' → Kept [Bs, b] W W' := fun {E1 E2 X Y W W'} u hu u2 j hj => by
    have hj' : j = Bs ∨ j = b := by simpa using hj
    have hjl : j < w.heap.size := by rcases hj' with rfl | rfl <;> assumption
    have hjo : ¬ Own E A2 j := by rcases hj' with rfl | rfl <;> assumption
    exact u2.frm.block j (Nat.lt_of_lt_of_le hjl u.frm.size) fun h => hjo (u.own_back hu hjl h)
  refine wpIn_rangeFunc_N (F := Fence.wide) (n := 2) rfl (by omega) (gf := gf) (lb := #[.pointer (some ⟨Bs, 0, none⟩)]) hfe trivial hbv.1
    (encs := fun k => #[.int .i64 ((len - 1 - k : Nat) : Int), elemV bk.2 bk.1 cs (len - 1 - k)]) (Kp := Kept [Bs, b]) (N := len) (w0 := w)
    (hbv.2 w Bs b o len cap' aa cs hcs hBlt hblt haa hlen hcl hcc) (Below.refl _ _) Kept.trans
    (fun W o o' _ _ => Kept.put (fun j hj => by
      have hj' : j = Bs ∨ j = b := by simpa using hj
      rcases hj' with rfl | rfl <;> omega)) (fun _ => rfl)
    (fun k W => k ≤ len ∧ ∃ Ek, Stp E A2 w Ek (st k) W)
    (fun k a' W => ∃ t3 t4 h1, body = body ∧ code n body t3 h1 = some (.normal, t4, st (k + 1)) ∧ onlyCells A2 h1 = true ∧ h1.next ≤ A'.next ∧ ∃ E1, Stp E A2 w E1 h1 W ∧ TR E1 t3 n a')
    ?own ?ownA ?start ?assign ?body ?done
  case own =>
    rintro k W W' row ⟨hk, Ek, s⟩ hg hr
    exact ⟨hk, Ek, stp_robust hM2 s (hsc k (by omega)) hg hr⟩
  case ownA =>
    rintro k a' _ W W' row ⟨t3, t4, h1, _, e1, e2, e3, E1, s, hT1⟩ hg hr
    exact ⟨t3, t4, h1, rfl, e1, e2, e3, E1, stp_robust hM2 s e2 hg hr, hT1⟩
  case start => exact ⟨Nat.zero_le _, E, by rw [hs0]; exact Stp.refl hM2⟩
  case assign =>
    rintro ls k W K ⟨hk, Ek, s⟩ hlt hK
    obtain ⟨x, hx, hpart⟩ := hlx k (by omega)
    obtain ⟨t1, t2, t3, t4, h1, e1, e2, e3, e4, e5⟩ := hst k _ hx
    have hTk := hT.mono s.le
    have hv1 : VR Ek (intN (len - 1 - k)) (.int .i64 ((len - 1 - k : Nat) : Int)) := by simp only [intN, VR]; rfl
    have hv2 : VR Ek x (elemV bk.2 bk.1 cs (len - 1 - k)) := VR.mono s.le _ _ (partA_elem hpart hcr)
    have hT2 := (hTk.put e1 hv1).put e2 hv2
    obtain ⟨hna, hpa⟩ := hcode n assign _ _ _ _ _ e3
    have hnb := (hcode n body _ _ _ _ _ e5).1
    have hk1 := (hto (k + 1) (by omega)).2
    have hFa : Fresh Ek (st k) h1 := (hF2.left (by omega : (st (k + 1)).next ≤ A'.next)).left hnb |>.right s
    have hz : ∀ u v : Value, ((#[p, q] : Array Tmp).zip #[u, v]).foldl (fun t (x : Tmp × Value) => t.setIfInBounds x.1 x.2) a.tmps = (a.tmps.setIfInBounds p u).setIfInBounds q v := fun u v => by
      simp [← Array.foldl_toList]
    show assign.wpIn (Fence.wide.inRound ls) (2 - 1 - 1) P (Exit.then K fun _ _ _ => False) { tmps := ((#[p, q] : Array Tmp).zip #[Value.int .i64 ((len - 1 - k : Nat) : Int), elemV bk.2 bk.1 cs (len - 1 - k)]).foldl (fun t (x : Tmp × Value) => t.setIfInBounds x.1 x.2) a.tmps, defers := [] } W
    rw [hz]
    refine hpa (some ls) Ek { tmps := ((a.tmps.setIfInBounds p (.int .i64 ((len - 1 - k : Nat) : Int))).setIfInBounds q (elemV bk.2 bk.1 cs (len - 1 - k))), defers := [] } W _ _ (.inr hrf1) (hGl.mono s.le) s.mr ⟨hT2.size, hT2.lim, hT2.val⟩ hFa fun E' a' W' s' hT' x' => ?_
    have hs' := s.trans s' ((hF2.left hk1).left hnb)
    exact hK a' W' (stp_keeps hM2 s (hsc k (by omega)) s') (keep s (hFk k (by omega)) s') ⟨t3, t4, h1, rfl, e5, e4, by omega, E', hs', hT'⟩
  case body =>
    rintro ls k a' W ⟨t3, t4, h1, _, e1, e2, e3, E1, s, hT1⟩ hlt
    obtain ⟨hnb, hpb⟩ := hcode n body _ _ _ _ _ e1
    have hk1 := (hto (k + 1) (by omega)).2
    have hFh : Fresh E A2 h1 := hF2.left e3
    have hFb : Fresh E1 h1 (st (k + 1)) := (hF2.left hk1).right s
    refine hpb (some ls) E1 a' W _ _ (.inr hrf2) (hGl.mono s.le) s.mr hT1 hFb fun E' a2 W' s' hT' x' => ?_
    exact ⟨stp_keeps hM2 s e2 s', keep s hFh s', by omega, E', s.trans s' (hF2.left hk1)⟩
  case done =>
    rintro D W hD ⟨_, Ek, s⟩ hdf
    rw [← hll, hsl] at s
    have hsA := s02.trans s hF
    exact hQ Ek _ W hsA ⟨(hT.mono hsA.le).size, hT.lim, (hT.mono hsA.le).val⟩ ⟨[D], rfl, by simp, fun m hm => by
      have : m = D := by simpa using hm
      subst this
      exact ⟨hD, hdf⟩⟩

theorem bx_f {α β : Type} (z : Bx α) (f : α → β) : Bx.rec (motive := fun _ => β) f z = f z.f := by cases z; rfl
theorem putB_f (n : Nat) (d : Option Nat) (t : Tp) (v : AV) : (putB n d).f t v = putT n t d v := by
  cases d with
  | none => rfl
  | some i =>
    show Bx.f (bc (Nat.ble (i + 1) n) (Bx.rec (motive := fun _ => Bx (Tp → AV → Option Tp)) (fun f => ⟨fun t v => some (f v t)⟩) (st3 AV i)) ⟨fun _ _ => none⟩) t v = og (Nat.ble (i + 1) n) (some (put3 t i v))
    unfold put3
    cases Nat.ble (i + 1) n <;> generalize st3 AV i = z <;> cases z <;> rfl

theorem ob_om {α β γ : Type} (x : Option α) (f : α → β) (g : β → Option γ) : ob (om x f) g = ob x fun a => g (f a) := by cases x <;> rfl
theorem ob_ob {α β γ : Type} (x : Option α) (f : α → Option β) (g : β → Option γ) : ob (ob x f) g = ob x fun a => ob (f a) g := by cases x <;> rfl
theorem ob_og {β γ : Type} (b : Bool) (x : Option β) (g : β → Option γ) : ob (og b x) g = og b (ob x g) := by cases b <;> rfl

theorem stepN_f {call : CallFn} {o : Oper} {k : Body} (p : Tp → AV → Option Tp) : (stepN P o p).f call t A k = ob (ob (opA P call (opd t) A o.op) fun x => om (p t x.1) fun t' => (t', x.2)) fun x => k x.1 x.2 := by
  unfold stepN opA
  cases cls P o.op with
  | pure =>
    show (Bx.rec (motive := fun _ => Bx StepF) (fun f => ⟨fun _ t h k => ob (f P (opd t)) fun v => ob (p t v) fun t' => k t' h⟩) (pureB o.op)).f call t A k = ob (ob (om (pureA o.op P (opd t)) fun v => (v, A)) fun x => om (p t x.1) fun t' => (t', x.2)) fun x => k x.1 x.2
    unfold pureA
    simp only [bx_f, ob_ob, ob_om]
  | read =>
    show (Bx.rec (motive := fun _ => Bx StepF) (fun f => ⟨fun _ t h k => ob (f P (opd t) h) fun v => ob (p t v) fun t' => k t' h⟩) (readB o.op)).f call t A k = ob (ob (om (readA o.op P (opd t) A) fun v => (v, A)) fun x => om (p t x.1) fun t' => (t', x.2)) fun x => k x.1 x.2
    unfold readA
    simp only [bx_f, ob_ob, ob_om]
  | make =>
    show (Bx.rec (motive := fun _ => Bx StepF) (fun f => ⟨fun _ t h k => ob (f P (opd t)) fun r => og h.has (ob (p t (r.2 h.next)) fun t' => k t' (h.push r.1))⟩) (makeB o.op)).f call t A k = ob (ob (ob (makeA o.op P (opd t)) fun r => og A.has (some (r.2 A.next, A.push r.1))) fun x => om (p t x.1) fun t' => (t', x.2)) fun x => k x.1 x.2
    unfold makeA
    simp only [bx_f, ob_ob, ob_om, ob_og]
    rfl
  | act =>
    show (Bx.rec (motive := fun _ => Bx StepF) (fun f => ⟨fun call t h k => ob (f P call (opd t) h) fun x => og (Nat.ble h.next x.2.next) (ob (p t x.1) fun t' => k t' x.2)⟩) (actB o.op)).f call t A k = ob (ob (ob (actA o.op P call (opd t) A) fun x => og (Nat.ble A.next x.2.next) (some x)) fun x => om (p t x.1) fun t' => (t', x.2)) fun x => k x.1 x.2
    unfold actA
    simp only [bx_f, ob_ob, ob_om, ob_og]
    rfl

theorem stepB_f {call : CallFn} {ops : Array Oper} {o : Oper} {k : Body} : (stepB P n ops o).f call t A k = ob (opsStep P call n ops o t A) fun x => k x.1 x.2 := by
  unfold stepB
  cases hg : o.guard with
  | some g => rfl
  | none =>
    have hw : wantA ops (opd t) none = some true := rfl
    unfold opsStep
    rw [hg, hw]
    show (Bx.rec (motive := fun _ => Bx StepF) (fun p => stepN P o p) (putB n o.dst)).f call t A k = ob (ob (opA P call (opd t) A o.op) fun x => om (putT n t o.dst x.1) fun t' => (t', x.2)) fun x => k x.1 x.2
    rw [bx_f, stepN_f]
    simp only [putB_f]

theorem regB_f {call : CallFn} {ops : Array Oper} : ∀ (l : List Oper) (t : Tp) (A : AH), (regB P n ops l).f call t A = om (opsA P call n ops l t A) fun x => (Ex.normal, x)
  | [], t, A => rfl
  | o :: l, t, A => by
    show Bx.f (Bx.rec (motive := fun _ => Bx (CallFn → Body)) (fun g => Bx.rec (motive := fun _ => Bx (CallFn → Body)) (fun f => ⟨fun call t h => f call t h (g call)⟩) (stepB P n ops o)) (regB P n ops l)) call t A = om (ob (opsStep P call n ops o t A) fun x => opsA P call n ops l x.1 x.2) fun x => (Ex.normal, x)
    simp only [bx_f]
    rw [stepB_f]
    have e : (fun x : Tp × AH => (regB P n ops l).f call x.1 x.2) = fun x => om (opsA P call n ops l x.1 x.2) fun x => (Ex.normal, x) := funext fun x => regB_f l x.1 x.2
    rw [e]
    cases opsStep P call n ops o t A <;> rfl

theorem code_ok {code : CodeFn} {call : CallFn} {back : Backs} (d : Nat) (hm : P.follows .mixedOrders = true) (hbk : BacksOk P back) (hcode : CodeOk P code) (hcall : CallOk P call) (hdraw : DrawOk P call) : CodeOk P (codeA P d back code call) := by
  intro n c
  cases c with
  | skip => exact still_ok (e := .normal) fun F m Q a w h => wpIn_skip h
  | label l => exact still_ok (e := .normal) fun F m Q a w h => wpIn_label h
  | exit id => exact still_ok (e := .exit id) fun F m Q a w h => wpIn_exit h
  | goto l => exact still_ok (e := .goto l) fun F m Q a w h => wpIn_goto h
  | ret => exact still_ok (e := .ret) fun F m Q a w h => wpIn_ret h
  | seq x y => exact seq_ok (hcode n x) (hcode n y)
  | cond x y z => exact cond_ok (hcode n y) (hcode n z)
  | block id b => exact block_ok (hcode n b)
  | loop b => exact loop_ok d (hcode n b)
  | scope b => exact scope_ok d (hcode n)
  | refuse _ => intro t A e t' A' h; cases h
  | rangeFunc f ps x y => exact range_ok (call := call) hcode hbk
  | region id ops draw =>
    intro t A e t' A' h
    cases draw with
    | false =>
      have h0 : Bx.rec (motive := fun _ => Out) (fun f => f call t A) (regB P n ops ops.toList) = some (e, t', A') := h
      rw [bx_f, regB_f] at h0
      have h' : om (opsA P call n ops ops.toList t A) (fun x => (Ex.normal, x)) = some (e, t', A') := h0
      rw [om_some] at h'
      obtain ⟨x, hx, h2⟩ := h'
      cases h2
      refine ⟨opsA_next hx, fun r E a w Q m hr hGl hM hT hF hQ => ?_⟩
      have h1 : wpOps P ops (NoOut Q) (List.range ops.size) a w := by
        refine ops_ok hcall _ _ E t A a w _ ?_ hx hGl hM hT hF fun E' a' w' s hT' hd => hQ E' a' w' s hT' (Ext.eq hd)
        apply List.ext_getElem?
        intro j
        rw [List.getElem?_map, List.getElem?_map]
        by_cases hj : j < ops.size
        · simp [hj]
        · simp [hj]
      cases r with
      | none => exact wpIn_wide.2 (wp_mono (wp_region h1) NoOut.imp)
      | some l => exact wpIn_mono (wpIn_region (wpOpsIn_of_wpOps l m (hr.resolve_left (by simp)) NoOut.no _ _ _ h1)) NoOut.imp
    | true =>
      have h' : om (drawA P call n ops t A) (fun x => (Ex.normal, x)) = some (e, t', A') := h
      rw [om_some] at h'
      obtain ⟨x, hx, h2⟩ := h'
      cases h2
      obtain ⟨hn, hp⟩ := hdraw ops n t A _ hx
      refine ⟨hn, fun r E a w Q m hr hGl hM hT hF hQ => ?_⟩
      have h1 := hp E a w (NoOut Q) hGl hM hT hF hQ
      cases r with
      | none => exact wpIn_wide.2 (wp_mono (wp_region_any hm h1) NoOut.imp)
      | some l => exact wpIn_mono (wpIn_region_any hm (wpAnyIn_of_wpAny l m (hr.resolve_left (by simp)) NoOut.no _ _ _ _ h1)) NoOut.imp
end Go.Ev
