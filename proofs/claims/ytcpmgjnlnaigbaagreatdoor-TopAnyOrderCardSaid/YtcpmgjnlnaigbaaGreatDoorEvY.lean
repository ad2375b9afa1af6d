/- What is known of slices.Sorted over maps.Keys: the keys of a map, sorted, in a new slice. No program in sight. -/
import Derived.Test.YtcpmgjnlnaigbaaGreatDoorEvV
import Derived.Laws.AppendOwn
set_option linter.unusedVariables false
set_option linter.unusedSimpArgs false
noncomputable section
namespace Go.Ev
open Go Go.RowKit

def ltK (a b : AV) : Bool := match a, b with
  | .int _ a, .int _ b => ltI a b
  | .str a, .str b => ltS a b
  | _, _ => false
def insG {α : Type} (lt : α → α → Bool) (k : α) : List α → List α
  | [] => [k]
  | q :: r => bc (lt k q) (k :: q :: r) (q :: insG lt k r)
def sortG {α : Type} (lt : α → α → Bool) : List α → List α
  | [] => []
  | k :: r => insG lt k (sortG lt r)

theorem insG_map {α β : Type} {lt : α → α → Bool} {lt' : β → β → Bool} (f : α → β) (h : ∀ a b, lt' (f a) (f b) = lt a b) (k : α) : ∀ l : List α, insG lt' (f k) (l.map f) = (insG lt k l).map f
  | [] => rfl
  | q :: r => by
    show bc (lt' (f k) (f q)) (f k :: f q :: r.map f) (f q :: insG lt' (f k) (r.map f)) = (bc (lt k q) (k :: q :: r) (q :: insG lt k r)).map f
    rw [h, insG_map f h k r]
    cases lt k q <;> rfl
theorem sortG_map {α β : Type} {lt : α → α → Bool} {lt' : β → β → Bool} (f : α → β) (h : ∀ a b, lt' (f a) (f b) = lt a b) : ∀ l : List α, sortG lt' (l.map f) = (sortG lt l).map f
  | [] => rfl
  | k :: r => by
    show insG lt' (f k) (sortG lt' (r.map f)) = (insG lt k (sortG lt r)).map f
    rw [sortG_map f h r, insG_map f h]
theorem insG_perm {α : Type} (lt : α → α → Bool) (k : α) : ∀ l : List α, (insG lt k l).Perm (k :: l)
  | [] => .refl _
  | q :: r => by
    show (bc (lt k q) (k :: q :: r) (q :: insG lt k r)).Perm _
    cases lt k q with
    | true => exact .refl _
    | false => exact ((insG_perm lt k r).cons q).trans (.swap k q r)
theorem sortG_perm {α : Type} (lt : α → α → Bool) : ∀ l : List α, (sortG lt l).Perm l
  | [] => .refl _
  | k :: r => (insG_perm lt k _).trans ((sortG_perm lt r).cons k)
/-- the order is total: 'not less' is 'at most' -/
theorem insG_sorted {α : Type} {lt le : α → α → Bool} (h1 : ∀ a b, lt a b = true → le a b = true) (h2 : ∀ a b, lt a b = false → le b a = true) (ht : ∀ a b c, le a b = true → le b c = true → le a c = true) (k : α) :
    ∀ l : List α, l.Pairwise (fun a b => le a b = true) → (insG lt k l).Pairwise (fun a b => le a b = true)
  | [], _ => by simp [insG]
  | q :: r, h => by
    show (bc (lt k q) (k :: q :: r) (q :: insG lt k r)).Pairwise _
    rw [List.pairwise_cons] at h
    cases hk : lt k q with
    | true =>
      show (k :: q :: r).Pairwise _
      refine List.pairwise_cons.2 ⟨fun x hx => ?_, List.pairwise_cons.2 h⟩
      rcases List.mem_cons.1 hx with rfl | hx
      · exact h1 _ _ hk
      · exact ht _ _ _ (h1 _ _ hk) (h.1 x hx)
    | false =>
      show (q :: insG lt k r).Pairwise _
      refine List.pairwise_cons.2 ⟨fun x hx => ?_, insG_sorted h1 h2 ht k r h.2⟩
      rcases List.mem_cons.1 ((insG_perm lt k r).subset hx) with rfl | hx
      · exact h2 _ _ hk
      · exact h.1 x hx
theorem sortG_sorted {α : Type} {lt le : α → α → Bool} (h1 : ∀ a b, lt a b = true → le a b = true) (h2 : ∀ a b, lt a b = false → le b a = true) (ht : ∀ a b c, le a b = true → le b c = true → le a c = true) :
    ∀ l : List α, (sortG lt l).Pairwise (fun a b => le a b = true)
  | [] => .nil
  | k :: r => insG_sorted h1 h2 ht k _ (sortG_sorted h1 h2 ht r)

/-- one kind of keys: numbers or texts -/
structure KeyC (K : Type) where
  enc : K → Value
  abs : K → AV
  lt : K → K → Bool
  le : K → K → Bool
  lt_le : ∀ a b, lt a b = true → le a b = true
  not_lt : ∀ a b, lt a b = false → le b a = true
  trans : ∀ a b c, le a b = true → le b c = true → le a c = true
  anti : ∀ a b, le a b = true → le b a = true → a = b
  total : ∀ a b, (le a b || le b a) = true
  ltK : ∀ a b, ltK (abs a) (abs b) = lt a b
  vr : ∀ (E : Ren) (k : K), VR E (abs k) (enc k)
  self : ∀ k, keyEq (abs k) (abs k) = some true
  /-- which keys are in order -/
  fits : AV → Bool
  ok : K → Prop
  of : ∀ (E : Ren) (a : AV) (v : Value), fits a = true → VR E a v → ∃ k, a = abs k ∧ v = enc k ∧ ok k

theorem KeyC.sort_eq {K : Type} (C : KeyC K) {l m : List K} (h : m.Perm l) : m.mergeSort C.le = sortG C.lt l :=
  List.Perm.eq_of_pairwise (le := fun a b => C.le a b = true) (fun a b _ _ h1 h2 => C.anti a b h1 h2) (List.pairwise_mergeSort C.trans C.total m) (sortG_sorted C.lt_le C.not_lt C.trans l)
    ((List.mergeSort_perm m C.le).trans (h.trans (sortG_perm C.lt l).symm))

/-- what slices.Sorted comes to at the iterator of maps.Keys -/
def SortedOk (P : Program) {K : Type} (C : KeyC K) (fS fK : FuncId) : Prop :=
  Enters P fS ∧ ∀ (w : World) (Bm : Nat), Bm < w.heap.size →
    (w.cell? ⟨Bm, 0, none⟩ = some (.map none) → Calls P fS #[.func (.func fK) #[] #[.pointer (some ⟨Bm, 0, none⟩)]] w fun e w' => e = .returned (.slice none 0 0) ∧ Below w.heap.size w w') ∧
    ∀ (b : Nat) (arr : Array MapEntry) (clk : Nat) (ks : List K), w.cell? ⟨Bm, 0, none⟩ = some (.map (some b)) → w.heap[b]? = some (.map arr clk) → Born arr clk → arr.toList.map (·.key) = ks.map C.enc → ks.Nodup → (∀ k ∈ ks, C.ok k) → ks.length ≤ 16777216 →
      Calls P fS #[.func (.func fK) #[] #[.pointer (some ⟨Bm, 0, none⟩)]] w fun e w' => ∃ (v : Value) (ss : List K) (t : TypeId), e = .returned v ∧ ss.Perm ks ∧ w'.ownsRow w.heap.size t 1 v ss.length ((ss.mergeSort C.le).map C.enc) ∧ (v = .slice none 0 0 ↔ ss = []) ∧ Below w.heap.size w w'

def allFit (f : AV → Bool) (es : List (AV × AV)) : Bool := List.rec (motive := fun _ => Bool) true (fun p _ ih => bc (f p.1) ih false) es
def sortedRes (f : AV → Bool) (h : AH) (es : List (AV × AV)) : Option (AV × AH) :=
  og (bc (allFit f es) (Nat.ble (lenN es) 16777216) false) (List.casesOn (motive := fun _ => Option (AV × AH)) es (some (.slice none 0 0, h)) fun p r => appNew h 1 (lenN es) (sortG ltK (es.map (·.1))))
def sortedP (f : AV → Bool) (isKeys : FuncId → Bool) (l : List AV) (h : AH) : Option (AV × AH) :=
  match l with
  | [.func (.func g) [] [.ptr (some (b, 0))]] => og (isKeys g) (ob (rdAt none h b 0) fun v => onMap v fun m => Option.casesOn (motive := fun _ => Option (AV × AH)) m (some (.slice none 0 0, h)) fun n => ob (h.get n) fun o => onMapO o fun es _ => sortedRes f h es)
  | _ => none

theorem allFit_spec {f : AV → Bool} : ∀ {es : List (AV × AV)}, allFit f es = true → ∀ p ∈ es, f p.1 = true
  | [], _, p, hp => by cases hp
  | q :: r, h, p, hp => by
    have h' : bc (f q.1) (allFit f r) false = true := h
    rw [bc_and] at h'
    rcases List.mem_cons.1 hp with rfl | hp
    · exact h'.1
    · exact allFit_spec h'.2 p hp

variable {P : Program} {E : Ren} {A A' : AH} {w : World}

/-- nothing that was there has turned -/
theorem Stp.below {w' : World} (hM : MR E A w) (hb : Below w.heap.size w w') : Stp E A w E A w' := by
  refine ⟨Ren.le_refl E, fun _ _ _ h => .inl h, ⟨hb.os, hb.tape, hb.output, hb.size, fun b h _ => hb.block b h⟩, ⟨fun n o ho => ?_, hM.inj⟩, Nat.le_refl _, fun n o _ ho hl => ⟨o, ho, hl, id⟩⟩
  obtain ⟨h1, b, κ, h2, o', h3, h4⟩ := hM.blk n o ho
  exact ⟨h1, b, κ, h2, o', (hb.block b (Array.getElem?_eq_some_iff.1 h3).1).trans h3, h4⟩

/-- a new row -/
theorem Stp.row {w' : World} (hM : MR E A w) (hn : E A.next = none) (hb : Below w.heap.size w w') (htop : A.has = true) {g κ : Nat} {o : AObj} {ob' : Obj} (hg : w.heap.size ≤ g) (hh : w'.heap[g]? = some ob') (ho : OR (E.put A.next g κ) κ o ob') :
    Stp E A w (E.put A.next g κ) (A.push o) w' := by
  have hle := Ren.le_put hn g κ
  have hlt : ∀ n p, A.get n = some p → n < A.next := fun n p hp => (hM.blk n p hp).1
  have hbk : ∀ n p b κ, A.get n = some p → E n = some (b, κ) → b < w.heap.size := fun n p b κ hp he => by
    obtain ⟨_, b', κ', he', ob1, hob, _⟩ := hM.blk n p hp
    rw [he] at he'
    cases he'
    exact (Array.getElem?_eq_some_iff.1 hob).1
  refine ⟨hle, fun n b κ' hx => ?_, ⟨hb.os, hb.tape, hb.output, hb.size, fun b h _ => hb.block b h⟩, ⟨fun n p hp => ?_, fun n m p q b κ1 κ2 hp hq hl hl' he he' => ?_⟩, by show A.next ≤ A.next + 1; omega, fun n p hlt' hp hl => ?_⟩
  · unfold Ren.put at hx
    split at hx
    · rename_i hm; subst hm; cases hx; exact .inr ⟨Nat.le_refl _, by show A.next < A.next + 1; omega, .inl hg⟩
    · exact .inl hx
  · rw [AH.get_push _ _ _ htop] at hp
    show n < A.next + 1 ∧ _
    split at hp
    · rename_i hm; subst hm; cases hp
      exact ⟨by omega, _, _, Ren.put_self _ _ _ _, ob', hh, ho⟩
    · obtain ⟨h5, b, κ', he, ob1, hob, hor⟩ := hM.blk n p hp
      exact ⟨by omega, b, κ', hle _ _ he, ob1, (hb.block b (Array.getElem?_eq_some_iff.1 hob).1).trans hob, hor.mono hle⟩
  · rw [AH.get_push _ _ _ htop] at hp hq
    unfold Ren.put at he he'
    split at hp <;> split at hq
    · omega
    · rename_i h5 h6
      rw [if_pos h5] at he
      rw [if_neg h6] at he'
      cases he
      have := hbk m q _ _ hq he'
      omega
    · rename_i h5 h6
      rw [if_neg h5] at he
      rw [if_pos h6] at he'
      cases he'
      have := hbk n p _ _ hp he
      omega
    · rename_i h5 h6
      rw [if_neg h5] at he
      rw [if_neg h6] at he'
      exact hM.inj n m p q b κ1 κ2 hp hq hl hl' he he'
  · rw [AH.get_push _ _ _ htop, if_neg (by omega)] at hp
    exact ⟨p, hp, hl, id⟩

theorem keys_of {K : Type} (C : KeyC K) {es : List (AV × AV)} {l : List MapEntry} (hlen : l.length = es.length) (hf : ∀ p ∈ es, C.fits p.1 = true) (hv : ∀ (i : Nat) (p : AV × AV) (e : MapEntry), es[i]? = some p → l[i]? = some e → VR E p.1 e.key ∧ VR E p.2 e.val) :
    ∃ ks : List K, es.map (·.1) = ks.map C.abs ∧ l.map (·.key) = ks.map C.enc ∧ ∀ k ∈ ks, C.ok k := by
  induction es generalizing l with
  | nil => have : l = [] := by simpa using hlen
           subst this; exact ⟨[], rfl, rfl, by simp⟩
  | cons p r ih =>
    cases l with
    | nil => simp at hlen
    | cons e s =>
      obtain ⟨ks, h1, h2, h3⟩ := ih (l := s) (by simpa using hlen) (fun q hq => hf q (List.mem_cons_of_mem _ hq)) (fun i q x hq hx => hv (i + 1) q x (by simpa using hq) (by simpa using hx))
      obtain ⟨k, hk1, hk2, hk3⟩ := C.of E p.1 e.key (hf p (by simp)) (hv 0 p e (by simp) (by simp)).1
      exact ⟨k :: ks, by simp [hk1, h1], by simp [hk2, h2], fun q hq => by rcases List.mem_cons.1 hq with rfl | hq; exact hk3; exact h3 q hq⟩

theorem perm_keys {K : Type} {f : K → Value} {arr l : List Value} {ks : List K} (h : l.Perm arr) (hk : l = ks.map f) : ∃ ks' : List K, arr = ks'.map f ∧ ks'.Perm ks := by
  induction h generalizing ks with
  | nil => exact ⟨[], rfl, by cases ks; exact .refl _; cases hk⟩
  | cons x _ ih =>
    cases ks with
    | nil => cases hk
    | cons k ks =>
      simp only [List.map_cons, List.cons.injEq] at hk
      obtain ⟨ks', h1, h2⟩ := ih hk.2
      exact ⟨k :: ks', by rw [h1, hk.1]; rfl, h2.cons k⟩
  | swap x y l =>
    cases ks with
    | nil => cases hk
    | cons a ks =>
      cases ks with
      | nil => cases hk
      | cons b ks =>
        simp only [List.map_cons, List.cons.injEq] at hk
        exact ⟨b :: a :: ks, by rw [hk.2.2, hk.1, hk.2.1]; rfl, .swap a b ks⟩
  | trans _ _ ih1 ih2 =>
    obtain ⟨k1, h1, h2⟩ := ih1 hk
    obtain ⟨k2, h3, h4⟩ := ih2 h1
    exact ⟨k2, h3, h4.trans h2⟩

theorem sorted_prim {K : Type} (C : KeyC K) {fS : FuncId} {isKeys : FuncId → Bool} (hS : ∀ fK, isKeys fK = true → SortedOk P C fS fK) :
    CallOk P fun g xs A => bc (Nat.beq g fS) (sortedP C.fits isKeys xs A) none := by
  intro g xs A v A' h0
  have h : bc (Nat.beq g fS) (sortedP C.fits isKeys xs A) none = some (v, A') := h0
  clear h0
  cases hg : Nat.beq g fS with
  | false => rw [hg] at h; cases h
  | true =>
    rw [hg, bc_true] at h
    rw [Nat.beq_eq] at hg
    subst hg
    unfold sortedP at h
    split at h
    case h_2 => cases h
    rename_i fK b
    rw [og_some] at h
    obtain ⟨hik, h⟩ := h
    obtain ⟨hE, hC⟩ := hS fK hik
    refine ⟨hE, fun E w args hGl hM hargs hF => ?_⟩
    rw [ob_some] at h
    obtain ⟨bv, hbv, h⟩ := h
    obtain ⟨mo, rfl, h⟩ := onMap_some.1 h
    -- the arguments
    simp only [VRL] at hargs
    obtain ⟨x, s, hx, hx1, rfl⟩ := hargs
    simp only [VR] at hx1
    obtain ⟨x', c', rfl, hx2, hx3⟩ := hx1
    have hx' : x' = #[] := by have := hx2.length; simpa using this
    subst hx'
    simp only [VRL] at hx3
    obtain ⟨y, s', hy, hy1, rfl⟩ := hx3
    simp only [VR] at hy1
    obtain ⟨Bm, κm, hEm, rfl⟩ := hy1
    have hc' : c' = #[.pointer (some ⟨Bm, 0, none⟩)] := by rw [← Array.toArray_toList (xs := c'), hy]
    subst hc'
    have hargs' : args = #[.func (.func fK) #[] #[.pointer (some ⟨Bm, 0, none⟩)]] := by rw [← Array.toArray_toList (xs := args), hx]
    subst hargs'
    -- the box
    have hbx : ∃ cs gg r, A.get b = some (.cells cs gg r) ∧ cs.get 0 = some (.map mo) := by
      have h' : (ob (A.get b) fun ob1 => onCells ob1 fun cs _ _ => rdVar none cs 0) = some (.map mo) := hbv
      simp only [ob_some, onCells_some] at h'
      obtain ⟨o, ho, cs, gg, r, rfl, h'⟩ := h'
      exact ⟨cs, gg, r, ho, h'⟩
    obtain ⟨cs, gg, r, hgb, hcs⟩ := hbx
    obtain ⟨arr0, ety, fr, hbs, hval, _⟩ := hM.cells hgb hEm
    obtain ⟨bv', hb4, hb5⟩ := hval 0 _ hcs
    have hcell : w.cell? ⟨Bm, 0, none⟩ = some bv' := by rw [cell_of hbs]; exact hb4
    obtain ⟨hC1, hC2⟩ := hC w Bm (Array.getElem?_eq_some_iff.1 hbs).1
    cases mo with
    | none =>
      have h' : some (AV.slice none 0 0, A) = some (v, A') := h
      cases h'
      simp only [VR] at hb5
      subst hb5
      refine (hC1 hcell).mono ?_
      rintro e w' ⟨rfl, hb⟩
      exact ⟨E, _, rfl, by simp [VR], Stp.below hM hb⟩
    | some n =>
      have h' : (ob (A.get n) fun o => onMapO o fun es _ => sortedRes C.fits A es) = some (v, A') := h
      simp only [ob_some, onMapO_some] at h'
      obtain ⟨_, hgn, es, cc, rfl, h'⟩ := h'
      simp only [VR] at hb5
      obtain ⟨mb, κ, hEn, rfl⟩ := hb5
      obtain ⟨arr, clk, hmb, hborn, _, l, hl1, hl2, hl3, hl4, _⟩ := hM.map hgn hEn
      unfold sortedRes at h'
      rw [og_some, bc_and, Nat.ble_eq, lenN_eq] at h'
      obtain ⟨⟨hfit, hlen⟩, h'⟩ := h'
      obtain ⟨ks, hk1, hk2, hk3⟩ := keys_of C hl2 (allFit_spec hfit) hl3
      obtain ⟨ks', hk4, hk5⟩ := perm_keys (hl1.map (·.key)) hk2
      have hkl : ks.length = es.length := by have := congrArg List.length hk1; simpa using this.symm
      have hnd : ks.Nodup := by
        rw [List.nodup_iff_pairwise_ne, List.pairwise_iff_getElem]
        intro i j hi hj hij e
        rw [List.pairwise_iff_getElem] at hl4
        have := hl4 i j (by omega) (by omega) hij
        have e1 : (es[i]'(by omega)).1 = C.abs ks[i] := by have := congrArg (·[i]?) hk1; simpa [List.getElem?_eq_getElem (show i < es.length by omega), List.getElem?_eq_getElem hi] using this
        have e2 : (es[j]'(by omega)).1 = C.abs ks[j] := by have := congrArg (·[j]?) hk1; simpa [List.getElem?_eq_getElem (show j < es.length by omega), List.getElem?_eq_getElem hj] using this
        rw [e1, e2, ← e, C.self] at this
        cases this
      refine (hC2 mb arr clk ks' hcell hmb hborn hk4 (hk5.symm.nodup hnd) (fun k hk => hk3 k (hk5.subset hk)) (by rw [hk5.length_eq]; omega)).mono ?_
      rintro e w' ⟨v', ss, t, rfl, hss, hrow, hnil, hbel⟩
      have hsort := C.sort_eq (hss.trans hk5)
      have hsl : ss.length = es.length := by rw [(hss.trans hk5).length_eq, hkl]
      cases es with
      | nil =>
        have h2 : some (AV.slice none 0 0, A) = some (v, A') := h'
        cases h2
        have : ss = [] := by simpa using hsl
        have := hnil.2 this
        subst this
        exact ⟨E, _, rfl, by simp [VR], Stp.below hM hbel⟩
      | cons p rr =>
        have h2 : appNew A 1 (p :: rr).length (sortG ltK ((p :: rr).map (·.1))) = some (v, A') := h'
        simp only [appNew, og_some] at h2
        obtain ⟨htop, h2⟩ := h2
        cases h2
        rw [hk1, sortG_map C.abs C.ltK]
        rw [hsort] at hrow
        obtain ⟨hxl, hrow⟩ := hrow
        rcases hrow with ⟨rfl, h0⟩ | ⟨g', cap, cur, rfl, hbg, hcur, hn, hcap, hsz, htk⟩
        · exfalso; simp at hsl; omega
        have hEx : E A.next = none := hF A.next (Nat.le_refl _) (by show A.next < A.next + 1; omega)
        rw [hsl] at hn hxl htk ⊢
        have hcg : ∀ i u, (mkCells ((sortG C.lt ks).map C.abs)).get i = some u → ∃ k, (sortG C.lt ks)[i]? = some k ∧ u = C.abs k ∧ cur[i]? = some (C.enc k) ∧ i < (p :: rr).length := fun i u hu => by
          rw [mkCells_get, List.getElem?_map, Option.map_eq_some_iff] at hu
          obtain ⟨k, hk, rfl⟩ := hu
          have hil := (List.getElem?_eq_some_iff.1 hk).1
          have hlt : i < (p :: rr).length := by rw [(sortG_perm C.lt ks).length_eq] at hil; omega
          refine ⟨k, hk, rfl, ?_, hlt⟩
          have := congrArg (·[i]?) htk
          simp only [Nat.mul_one] at this
          rw [List.getElem?_take, if_pos hlt, List.getElem?_map, hk] at this
          simpa using this
        refine ⟨E.put A.next g' cap, _, rfl, ?_, Stp.row (κ := cap) hM hEx hbel htop hbg hcur ⟨cur, t, (0, 0), rfl, fun i u hu => ?_, fun _ i _ h => by omega, fun sz top hg => ?_⟩⟩
        · simp only [VR]
          exact ⟨g', cap, Ren.put_self _ _ _ _, Nat.le_refl _, by omega, by simp⟩
        · obtain ⟨k, _, rfl, h3, _⟩ := hcg i u hu
          exact ⟨_, h3, C.vr _ k⟩
        · cases hg
          refine ⟨⟨by omega, fun h => by omega⟩, fun i u hu => ?_⟩
          obtain ⟨_, _, _, _, h3⟩ := hcg i u hu
          omega
end Go.Ev
