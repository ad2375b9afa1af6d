/- Regions whose order is drawn: all; closed runs. -/
import Derived.Test.YtcpmgjnlnaigbaaGreatDoorEvU
set_option linter.unusedVariables false
set_option linter.unusedSimpArgs false
namespace Go.Ev
open Go

variable {D : List Deferred} {P : Program} {call : CallFn} {n : Nat} {ops : Array Oper} {bef : Array Nat} {order : List Nat} {A : AH} {t : Tp} {st : Nat → DSt}
variable {E0 E E' : Ren} {w0 w w' : World} {q x i : Nat} {C : Array Bool} {a : Act} {o : Oper}

theorem mask_spec2 {e : Edge} (hb : Region.binds .any e = true) : ∀ (l : List Edge) (s : Nat), e ∈ l ∨ s.testBit e.on = true → (l.foldl (fun s e => if Region.binds .any e then s ||| 2 ^ e.on ||| bef.getD e.on 0 else s) s).testBit e.on = true
  | [], s, h => h.resolve_left (by simp)
  | f :: l, s, h => by
    rw [List.foldl_cons]
    refine mask_spec2 hb l _ ?_
    rcases h with h | h
    · rcases List.mem_cons.1 h with rfl | h
      · right
        rw [if_pos hb, Nat.testBit_or, Nat.testBit_or, Nat.testBit_two_pow]
        simp
      · exact .inl h
    · right
      split
      · rw [Nat.testBit_or, Nat.testBit_or, h]; rfl
      · exact h

theorem waits_edge (h : drawOk P ops bef order = true) (ho : ops[i]? = some o) {e : Edge} (he : e ∈ o.after) (hb : Region.binds .any e = true) : Waits bef i e.on := by
  simp only [drawOk, Bool.and_eq_true, Nat.beq_eq, List.all_eq_true, List.mem_range] at h
  have := h.1.1.2 i (Array.getElem?_eq_some_iff.1 ho).1
  unfold maskOk at this
  rw [ho] at this
  simp only [Nat.beq_eq] at this
  unfold Waits
  rw [this, ← Array.foldl_toList]
  exact mask_spec2 hb _ 0 (.inl (by simpa using he))

mutual
theorem AV.beq_eq : ∀ (a b : AV), AV.beq a b = true → a = b
  | .bool _, b, h => by cases b <;> simp [AV.beq] at h; rw [h]
  | .int _ _, b, h => by cases b <;> simp [AV.beq] at h; rw [h.1, h.2]
  | .str _, b, h => by cases b <;> simp [AV.beq] at h; rw [h]
  | .ptr _, b, h => by cases b <;> simp [AV.beq] at h; rw [h]
  | .slice _ _ _, b, h => by cases b <;> simp [AV.beq] at h; rw [h.1.1, h.1.2, h.2]
  | .gslice _ _ _ _ _, b, h => by cases b <;> simp [AV.beq] at h; rw [h.1.1.1.1, h.1.1.1.2, h.1.1.2, h.1.2, h.2]
  | .eslice, b, h => by cases b <;> simp [AV.beq] at h; rfl
  | .map _, b, h => by cases b <;> simp [AV.beq] at h; rw [h]
  | .func f x c, b, h => by
    cases b <;> simp [AV.beq] at h
    rw [h.1.1, AV.beqL_eq x _ h.1.2, AV.beqL_eq c _ h.2]
  | .nilFunc, b, h => by cases b <;> simp [AV.beq] at h; rfl
  | .iface t v, b, h => by
    cases b <;> simp [AV.beq] at h
    rw [h.1, AV.beq_eq v _ h.2]
  | .nilIface, b, h => by cases b <;> simp [AV.beq] at h; rfl
  | .agg x, b, h => by
    cases b <;> simp [AV.beq] at h
    rw [AV.beqL_eq x _ h]
  | .tuple x, b, h => by
    cases b <;> simp [AV.beq] at h
    rw [AV.beqL_eq x _ h]
theorem AV.beqL_eq : ∀ (a b : List AV), AV.beqL a b = true → a = b
  | [], b, h => by cases b <;> simp [AV.beqL] at h; rfl
  | x :: r, b, h => by
    cases b <;> simp [AV.beqL] at h
    rw [AV.beq_eq x _ h.1, AV.beqL_eq r _ h.2]
end

theorem readAll_spec {ρ : Env} {o : Op} {anc : Nat} {v : AV} : ∀ {l : List (Nat × AH)}, readAll P ρ o anc v l = true → ∀ p ∈ l, anc.testBit p.1 = true ∨ readA o P ρ p.2 = some v
  | [], _, p, hp => by simp at hp
  | y :: l, h, p, hp => by
    have h' : bc (anc.testBit y.1) (readAll P ρ o anc v l) (Option.casesOn (motive := fun _ => Bool) (readA o P ρ y.2) false fun u => bc (AV.beq u v) (readAll P ρ o anc v l) false) = true := h
    have h2 : (anc.testBit y.1 = true ∨ readA o P ρ y.2 = some v) ∧ readAll P ρ o anc v l = true := by
      cases hb : anc.testBit y.1 with
      | true => rw [hb, bc_true] at h'; exact ⟨.inl rfl, h'⟩
      | false =>
        rw [hb, bc_false] at h'
        cases hr : readA o P ρ y.2 with
        | none => rw [hr] at h'; cases h'
        | some u =>
          rw [hr] at h'
          have h3 : bc (AV.beq u v) (readAll P ρ o anc v l) false = true := h'
          rw [bc_and] at h3
          exact ⟨.inr (by rw [AV.beq_eq _ _ h3.1]), h3.2⟩
    rcases List.mem_cons.1 hp with rfl | hp
    · exact h2.1
    · exact readAll_spec h2.2 p hp

theorem putT_lt {n : Nat} {t t' : Tp} {dst : Option Nat} {v : AV} (h : putT n t dst v = some t') : ∀ d, dst = some d → d < n := by
  rintro d rfl
  have h' : og (Nat.ble (d + 1) n) (some (put3 t d v)) = some t' := h
  rw [og_some, Nat.ble_eq] at h'
  omega
theorem putT_val {n : Nat} {t t' : Tp} {dst : Option Nat} {v : AV} (hlim : n ≤ 512) (h : putT n t dst v = some t') {R : AV → Prop} (hv : R v) : ∀ d, dst = some d → ∀ u, get3 t' d = some u → R u := by
  intro d hd u hu
  rw [putT_get hlim h, if_pos hd] at hu
  cases hu
  exact hv

theorem Inv.step (R : Run P call n ops bef order A t st) (hC : CallOk P call) (hGl : Glb E0) (hM0 : MR E0 A w0) (hF : Fresh E0 A (st ops.size).h) (hlim : n ≤ 512) (I : Inv P n ops bef order A st E0 w0 D q C E a w) (hr : i ∈ Region.ready .any ops C) {K : Act → World → Prop} {Q : Exit → Act → World → Prop}
    (hK : ∀ q' E' a' w', Inv P n ops bef order A st E0 w0 D q' (C.setIfInBounds i true) E' a' w' → K a' w') : wpOp P ops Q i K a w := by
  obtain ⟨hno, o, ho, hall⟩ := mem_ready.1 hr
  have hA : ∀ m o, A.get m = some o → m < A.next := fun m o h => (hM0.blk m o h).1
  have hlt : i < C.size := by
    rcases Nat.lt_or_ge i C.size with h | h
    · exact h
    · rw [Array.getD_eq_getD_getElem?, Array.getElem?_eq_none h] at hno; cases hno
  have hno' : C.getD i false = false := by
    rw [Array.getD_eq_getD_getElem?, Array.getElem?_eq_getElem hlt] at hno ⊢; exact hno
  obtain ⟨x, hx⟩ := R.sta.all i (Array.getElem?_eq_some_iff.1 ho).1
  have T : Turn ops bef order C x i o := ⟨hx, ho, hno', hlt, fun b hb => by
    obtain ⟨e, h1, h2, h3⟩ := R.sta.mask i o b ho hb
    have h4 := hall e h1 h2
    rcases h3 with rfl | h3
    · exact h4
    · exact I.closed _ _ h4 h3⟩
  have hqx : q ≤ x := by
    rcases Nat.lt_or_ge x q with h | h
    · have := I.pre x i h hx; rw [hno'] at this; cases this
    · exact h
  have hxl := R.pos_lt hx
  obtain ⟨o', ho', hs⟩ := R.step x i hx
  rw [ho] at ho'
  cases ho'
  have hGlE := hGl.mono I.le
  have hG := T.good R I hGlE
  have hwant : ∀ c, wantA ops (opdR (o.looksAt ops) (st x).t) o.guard = some c → Region.wanted o (yielded ops a.tmps) = c := fun c hc => want_ok (T.val R I) hc
  have atTurn : isAct P ops i = true → Inv P n ops bef order A st E0 w0 D x C E a w := fun ha =>
    I.absorbs R hA (Nat.le_of_lt hxl) (fun p j hp hj => T.wait j (R.sta.act x i p j hx ha hp hj)) (x - q) q (by omega)
  unfold wpOp
  simp only [ho]
  generalize hs1 : st (x + 1) = s1 at hs
  cases hs with
  | skip t' hw ht =>
    rw [hwant _ hw]
    simp only [Bool.false_eq_true, if_false]
    have hh : (st (x + 1)).h = (st x).h := by rw [hs1]
    have hg : (st (x + 1)).g = (st x).g := by rw [hs1]
    have hv : ∀ d, o.dst = some d → ∀ v, get3 (st (x + 1)).t d = some v → VR E v undef := by rw [hs1]; exact putT_val hlim ht (R := fun v => VR E v undef) (undef_ok E)
    cases ha : isAct P ops i with
    | true => exact hK _ _ _ _ (Inv.skipAct T R hlim (atTurn ha) hh hg (putT_lt ht) hv)
    | false => exact hK _ _ _ _ (I.still T R hlim hqx ha hh (putT_lt ht) hv)
  | pure v t' hw hc hv ht =>
    rw [hwant _ hw]
    simp only [if_true]
    obtain ⟨v', h1, h2⟩ := pure_ok hv hc hG
    have ha : isAct P ops i = false := by cases ha : isAct P ops i; rfl; rw [(isAct_iff ho).1 ha] at hc; cases hc
    refine .inl ?_
    unfold Oper.wp
    rw [h2 w]
    exact hK _ _ _ _ (I.still T R hlim hqx ha (by rw [hs1]) (putT_lt ht) (by rw [hs1]; exact putT_val hlim ht (R := fun v => VR E v v') h1))
  | read v t' hw hc hv hall' ht =>
    rw [hwant _ hw]
    simp only [if_true]
    have ha : isAct P ops i = false := by cases ha : isAct P ops i; rfl; rw [(isAct_iff ho).1 ha] at hc; cases hc
    have hread : readA o.op P (opdR (o.looksAt ops) (st x).t) (st q).g = some v := by
      rcases R.past hqx (Nat.le_of_lt hxl) with h | ⟨y, j, h1, h2, h3, h4⟩
      · rw [← h]; exact hv
      · rcases readAll_spec hall' _ h4 with h5 | h5
        · have h6 := I.post y j h1 h2 (T.wait j h5)
          rw [h3] at h6; cases h6
        · exact h5
    obtain ⟨v', h1, h2⟩ := read_ok hread hG I.mrg
    refine .inl ?_
    unfold Oper.wp
    rw [h2]
    exact hK _ _ _ _ (I.still T R hlim hqx ha (by rw [hs1]) (putT_lt ht) (by rw [hs1]; exact putT_val hlim ht (R := fun v => VR E v v') h1))
  | make r t' hw hc hv htop ht =>
    rw [hwant _ hw]
    simp only [if_true]
    have ha : isAct P ops i = false := by cases ha : isAct P ops i; rfl; rw [(isAct_iff ho).1 ha] at hc; cases hc
    obtain ⟨h1, h2, h3⟩ := make_ok hv hG
    obtain ⟨v', ob', κ, w', hrun, hw1, hw2, hw3, hw4, hor⟩ := h3 w
    refine .inl ?_
    unfold Oper.wp
    rw [hrun]
    obtain ⟨E'', I'⟩ := I.make T R hlim hF hqx ha (r := r.1) (by rw [hs1]) h1 h2 hw1 hw2 hw3 hw4 (fun E'' hle he => (hor E'' _ hle he).1) (v' := v') (putT_lt ht) (fun E'' hle he => by rw [hs1]; exact putT_val hlim ht (R := fun v => VR E'' v v') (hor E'' _ hle he).2)
    exact hK _ _ _ _ I'
  | act v A' t' hw hc hv hn ht =>
    rw [hwant _ hw]
    simp only [if_true]
    have ha : isAct P ops i = true := (isAct_iff ho).2 hc
    have I' := atTurn ha
    have hFx : Fresh E (st x).h (st (x + 1)).h := by
      intro m h1 h2
      have h0x := R.next (q := 0) (p := x) (Nat.zero_le _) (by omega)
      rw [R.st0] at h0x
      simp only at h0x
      have hfin := R.next (q := x + 1) (p := ops.size) (by omega) (Nat.le_refl _)
      cases hE : E m with
      | none => rfl
      | some y =>
        rcases I'.nam m y hE with h3 | h3 | ⟨p, h3, h4⟩
        · rw [hF m (by omega) (by omega)] at h3; cases h3
        · omega
        · have h5 := h3.1
          have h6 := h3.lt R
          have : p ≠ x := by
            rintro rfl
            obtain ⟨_, ⟨j, h7, h8⟩, _⟩ := h3
            rw [hx] at h7; cases h7; rw [hno'] at h8; cases h8
          have := R.next (q := x + 1) (p := p) (by omega) (by omega)
          omega
    have hA' : A' = (st (x + 1)).h := by rw [hs1]
    refine .inl (act_ok hC hv hGlE hG I'.mr (by rw [hA']; exact hFx) K Q fun E1 v' w1 s1' hv1 => ?_)
    rw [hA'] at s1'
    exact hK _ _ _ _ (I'.act T R hlim hF hFx s1' (by rw [hs1]) (putT_lt ht) (by rw [hs1]; exact putT_val hlim ht (R := fun v => VR E1 v v') hv1))

/-- how many have not come -/
def und (C : Array Bool) : Nat → Nat
  | 0 => 0
  | k + 1 => und C k + if C.getD k false = true then 0 else 1
theorem und_le (C : Array Bool) : ∀ k, und C k ≤ k
  | 0 => Nat.le_refl _
  | k + 1 => by have := und_le C k; unfold und; split <;> omega
theorem und_zero {C : Array Bool} : ∀ {k : Nat}, und C k = 0 → ∀ j, j < k → C.getD j false = true
  | 0, _, j, h => by omega
  | k + 1, h, j, hj => by
    unfold und at h
    split at h
    · rename_i hk
      by_cases hjk : j = k
      · subst hjk; exact hk
      · exact und_zero (by omega) j (by omega)
    · omega
theorem und_set {C : Array Bool} {i : Nat} (hi : i < C.size) (hno : C.getD i false = false) : ∀ k, und (C.setIfInBounds i true) k + (if i < k then 1 else 0) = und C k
  | 0 => by simp [und]
  | k + 1 => by
    have h1 := und_set hi hno k
    have h2 : und (C.setIfInBounds i true) (k + 1) = und (C.setIfInBounds i true) k + if (C.setIfInBounds i true).getD k false = true then 0 else 1 := rfl
    have h3 : und C (k + 1) = und C k + if C.getD k false = true then 0 else 1 := rfl
    rw [h2, h3, getD_set hi]
    by_cases hk : k = i
    · subst hk
      have h4 : (if k < k then 1 else 0) = 0 := if_neg (Nat.lt_irrefl k)
      have h5 : (if k < k + 1 then 1 else 0) = 1 := if_pos (Nat.lt_succ_self k)
      rw [h4] at h1
      rw [h5, hno]
      simp only [if_true, Bool.false_eq_true, if_false]
      omega
    · have h4 : (if i < k then 1 else 0) = (if i < k + 1 then 1 else 0) := by
        by_cases hik : i < k
        · rw [if_pos hik, if_pos (by omega)]
        · rw [if_neg hik, if_neg (by omega)]
      rw [h4] at h1
      rw [if_neg hk]
      omega

theorem inv_end (R : Run P call n ops bef order A t st) (hM0 : MR E0 A w0) (hlim : n ≤ 512) (I : Inv P n ops bef order A st E0 w0 D q C E a w) (hall : ∀ j, j < ops.size → C.getD j false = true) : Stp E0 A w0 E (st ops.size).h w ∧ TR E (st ops.size).t n a ∧ a.defers = D := by
  have hA : ∀ m o, A.get m = some o → m < A.next := fun m o h => (hM0.blk m o h).1
  have I' := I.absorbs R hA (Nat.le_refl _) (fun p j hp hj => hall j (R.sta.lt p j hj)) (ops.size - q) q (by have := I.qle; omega)
  have h0 := R.next (q := 0) (p := ops.size) (Nat.zero_le _) (Nat.le_refl _)
  rw [R.st0] at h0
  exact ⟨⟨I'.le, I'.dom, I'.frm, I'.mr, h0, I'.old⟩, ⟨I'.tsz, hlim, fun d v hv => I'.tmp d ops.size (Nat.le_refl _) (fun p' i' o' h1 h2 h3 => ⟨fun _ => R.pos_lt h1, fun _ => hall i' (R.sta.lt p' i' h1)⟩) v hv⟩, I'.dfr⟩

/-- if none is ready, all have come -/
theorem all_done (R : Run P call n ops bef order A t st) (hok : drawOk P ops bef order = true) (hsz : C.size = ops.size) (h : Region.ready .any ops C = []) : ∀ j, j < ops.size → C.getD j false = true := by
  have key : ∀ (p i : Nat), order[p]? = some i → C.getD i false = true := by
    intro p
    induction p using Nat.strongRecOn with
    | _ p ih =>
      intro i hi
      cases hc : C.getD i false with
      | true => rfl
      | false =>
        exfalso
        obtain ⟨o, ho, _⟩ := R.step p i hi
        have hlt := R.sta.lt p i hi
        have : i ∈ Region.ready .any ops C := mem_ready.2 ⟨by
          rw [Array.getD_eq_getD_getElem?, Array.getElem?_eq_getElem (by omega)] at hc ⊢; exact hc, o, ho, fun e he hb => by
          obtain ⟨p', h1, h2⟩ := R.sta.befLt p i e.on hi (waits_edge hok ho he hb)
          exact ih p' h1 e.on h2⟩
        rw [h] at this
        cases this
  intro j hj
  obtain ⟨p, hp⟩ := R.sta.all j hj
  exact key p j hp

theorem any_ok (R : Run P call n ops bef order A t st) (hok : drawOk P ops bef order = true) (hC : CallOk P call) (hGl : Glb E0) (hM0 : MR E0 A w0) (hF : Fresh E0 A (st ops.size).h) (hlim : n ≤ 512) {Q : Exit → Act → World → Prop} (hQ : ∀ E a w, Stp E0 A w0 E (st ops.size).h w → TR E (st ops.size).t n a → a.defers = D → Q .normal a w) :
    ∀ (fuel q : Nat) (C : Array Bool) (E : Ren) (a : Act) (w : World), Inv P n ops bef order A st E0 w0 D q C E a w → und C ops.size ≤ fuel → wpAny P .any ops Q fuel C a w
  | 0, q, C, E, a, w, I, hu => by
    have hall := und_zero (C := C) (k := ops.size) (by omega)
    obtain ⟨h1, h2, h2d⟩ := inv_end R hM0 hlim I hall
    refine ⟨?_, hQ E a w h1 h2 h2d⟩
    cases hr : Region.ready .any ops C with
    | nil => rfl
    | cons j r =>
      exfalso
      have hj : j ∈ Region.ready .any ops C := by rw [hr]; simp
      obtain ⟨h3, o, ho, _⟩ := mem_ready.1 hj
      have hlt := (Array.getElem?_eq_some_iff.1 ho).1
      have h4 := hall j hlt
      rw [Array.getD_eq_getD_getElem?, Array.getElem?_eq_getElem (by have := I.csz; omega)] at h3 h4
      simp only [Option.getD_some] at h3 h4
      rw [h3] at h4; cases h4
  | fuel + 1, q, C, E, a, w, I, hu => by
    refine ⟨fun hr => ?_, fun i hr => Inv.step R hC hGl hM0 hF hlim I hr fun q' E' a' w' I' => ?_⟩
    · obtain ⟨h1, h2, h2d⟩ := inv_end R hM0 hlim I (all_done R hok I.csz hr)
      exact hQ E a w h1 h2 h2d
    · refine any_ok R hok hC hGl hM0 hF hlim hQ fuel q' _ E' a' w' I' ?_
      obtain ⟨h3, o, ho, _⟩ := mem_ready.1 hr
      have hlt := (Array.getElem?_eq_some_iff.1 ho).1
      have hltC : i < C.size := by have := I.csz; omega
      have hno : C.getD i false = false := by
        rw [Array.getD_eq_getD_getElem?, Array.getElem?_eq_getElem hltC] at h3 ⊢; exact h3
      have := und_set hltC hno ops.size
      rw [if_pos hlt] at this
      omega

theorem draw_ok {call : CallFn} (hC : CallOk P call) : DrawOk P call := by
  intro ops n t A x h
  unfold drawA at h
  rw [og_some, om_some] at h
  obtain ⟨hok, s, hgo, rfl⟩ := h
  have hsta := static_ok hok
  obtain ⟨st, h0, h1, h2⟩ := drawGo_states _ _ _ hgo
  rw [hsta.len] at h1
  have R : Run P call n ops (Region.before ops) (drawOrder P ops (Region.before ops)) A t st := ⟨hsta, h0, fun p i hp => drawStep_some (h2 p i hp)⟩
  have hnx := R.next (q := 0) (p := ops.size) (Nat.zero_le _) (Nat.le_refl _)
  rw [h0, h1] at hnx
  refine ⟨hnx, fun E a w Q hGl hM hT hF hQ => ?_⟩
  have hM' : MR E A { w with drawn := w.drawn + 1 } := hM.heap rfl
  refine any_ok R hok hC hGl hM' (by rw [h1]; exact hF) hT.lim (fun E' a' w' hs hT' hd => ?_) ops.size 0 _ E a _ (inv_start R hM' hT rfl) (und_le _ _)
  rw [h1] at hs hT'
  exact hQ E' a' w' (hs.drawn rfl rfl rfl rfl) hT' (Ext.eq hd)

/-- a closed run: what the abstract machine answers, the call answers, and it leaves what was there -/
theorem closed {prims : Prims} (hN : P.funcs.all (fun fn => !(fn.name == "runtime.NumGoroutine")) = true) (hm : P.follows .mixedOrders = true) (hp : PrimsOk P prims) {d k : Nat} {f : FuncId} {v : AV} {A' : AH}
    (h : (evS P prims d k).call f [] heap0 = some (v, A')) (w : World) :
    Calls P f #[] w fun e w' => ∃ E' v', e = .returned v' ∧ VR E' v v' ∧ w'.os = w.os ∧ w'.tape = w.tape ∧ w'.output = w.output ∧ w.heap.size ≤ w'.heap.size ∧ ∀ b, b < w.heap.size → w'.heap[b]? = w.heap[b]? :=
  closed_run hN hm hp (fun _ hC => draw_ok hC) h w
end Go.Ev
