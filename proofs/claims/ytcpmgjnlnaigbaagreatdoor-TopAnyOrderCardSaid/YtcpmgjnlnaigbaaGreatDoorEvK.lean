/- The abstract machine's operations that act: stores, maps. -/
import Derived.Test.YtcpmgjnlnaigbaaGreatDoorEvJ
import Derived.Laws.Append
set_option linter.unusedVariables false
set_option linter.unusedSimpArgs false
namespace Go.Ev
open Go

variable {P : Program} {E : Ren} {ρ : Env} {f : Operand → Value} {v : AV} {A A' : AH} {w : World}

/-- the globals' names -/
def Glb (E : Ren) : Prop := ∀ g, g < 1000 → ∃ κ, E g = some (g, κ)
theorem Glb.mono {E E' : Ren} (h : Glb E) (hle : E.le E') : Glb E' := fun g hg => let ⟨κ, hk⟩ := h g hg; ⟨κ, hle _ _ hk⟩

def Enters (P : Program) (g : FuncId) : Prop := ∃ fn c, P.funcs[g]? = some fn ∧ (fn.name == "runtime.NumGoroutine") = false ∧ fn.body = some c

def CallOk (P : Program) (call : CallFn) : Prop := ∀ g xs A v A', call g xs A = some (v, A') → Enters P g ∧ ∀ E w (args : Array Value), Glb E → MR E A w → VRL E xs args.toList → Fresh E A A' →
  Calls P g args w fun e w' => ∃ E' v', e = .returned v' ∧ VR E' v v' ∧ Stp E A w E' A' w'

/-- what an operation that acts comes to -/
def ActOk (P : Program) (E : Ren) (A : AH) (w : World) (a : Act) (o : Oper) (v : AV) (A' : AH) : Prop :=
  ∀ K Q, (∀ E' v' w', Stp E A w E' A' w' → VR E' v v' → K (a.put o.dst v') w') → o.wp P a w K Q

theorem ActOk.value {a : Act} {o : Oper} {E' : Ren} {v' : Value} {w' : World} (h : (execOp a.eval o).run P w = .ok (.value v') w') (s : Stp E A w E' A' w') (hv : VR E' v v') : ActOk P E A w a o v A' :=
  fun K Q hK => by unfold Oper.wp; rw [h]; exact hK E' v' w' s hv
theorem ActOk.skip {a : Act} {o : Oper} {E' : Ren} {w' : World} (h : (execOp a.eval o).run P w = .ok .skip w') (s : Stp E A w E' A' w') : ActOk P E A w a o undefA A' :=
  fun K Q hK => by unfold Oper.wp; rw [h]; exact hK E' undef w' s (by simp only [undefA, VR]; exact ⟨_, rfl, by simp [VRL]⟩)

def setAll (arr : Array Value) (o : Nat) : List Value → Array Value
  | [] => arr
  | v :: r => setAll (arr.setIfInBounds o v) (o + 1) r
theorem setAll_size : ∀ (vs : List Value) (arr : Array Value) (o : Nat), (setAll arr o vs).size = arr.size
  | [], _, _ => rfl
  | v :: r, arr, o => by rw [setAll, setAll_size r]; simp
theorem setAll_get : ∀ (vs : List Value) (arr : Array Value) (o i : Nat), (setAll arr o vs)[i]? = if o ≤ i ∧ i < o + vs.length ∧ i < arr.size then vs[i - o]? else arr[i]?
  | [], arr, o, i => by rw [setAll, if_neg (by simp; omega)]
  | v :: r, arr, o, i => by
    rw [setAll, setAll_get r]
    simp only [Array.size_setIfInBounds, List.length_cons]
    by_cases h1 : o + 1 ≤ i ∧ i < o + 1 + r.length ∧ i < arr.size
    · rw [if_pos h1, if_pos (by omega)]
      obtain ⟨m, hm⟩ : ∃ m, i = o + 1 + m := ⟨i - (o + 1), by omega⟩
      rw [hm, show o + 1 + m - (o + 1) = m by omega, show o + 1 + m - o = m + 1 by omega]
      simp
    · rw [if_neg h1]
      by_cases h2 : i = o
      · subst h2
        by_cases h3 : i < arr.size
        · rw [if_pos (by omega)]; simp [h3]
        · rw [if_neg (by omega)]; simp [h3]
      · rw [if_neg (by omega), Array.getElem?_setIfInBounds_ne (fun e => h2 e.symm)]

theorem setCell_block {b i : Nat} {arr : Array Value} {e : TypeId} {fr : Nat × Nat} {x : Value} (h : w.heap[b]? = some (.cells arr e fr)) :
    w.setCell ⟨b, i, none⟩ x = { w with heap := w.heap.setIfInBounds b (.cells (arr.setIfInBounds i x) e fr) } := by
  unfold World.setCell
  congr 1
  apply Array.ext_getElem?
  intro j
  have hb := (Array.getElem?_eq_some_iff.1 h).1
  rw [Array.getElem?_modify]
  by_cases hj : b = j
  · subst hj
    have h' : w.heap[b] = .cells arr e fr := by have := h; rw [Array.getElem?_eq_getElem hb] at this; exact Option.some.inj this
    simp [h', hb]
  · rw [if_neg hj, Array.getElem?_setIfInBounds_ne hj]

theorem heap_still {w : World} {b : Nat} {o : Obj} (h : w.heap[b]? = some o) : w.heap.setIfInBounds b o = w.heap := by
  apply Array.ext_getElem?
  intro j
  by_cases hj : b = j
  · subst hj
    rw [h, Array.getElem?_setIfInBounds_self_of_lt (Array.getElem?_eq_some_iff.1 h).1]
  · rw [Array.getElem?_setIfInBounds_ne hj]

theorem run_storeCells {b : Nat} {e : TypeId} {fr : Nat × Nat} (off : Nat) : ∀ (vs : List Value) (i : Nat) (arr : Array Value) (w : World), w.heap[b]? = some (.cells arr e fr) → off + i + vs.length ≤ arr.size → (∀ j, j < arr.size → ¬ (fr.1 ≤ j ∧ j < fr.2)) → (∀ v ∈ vs, v.oneCell' = true) →
    (storeCells ⟨b, off, none⟩ vs i).run P w = .ok () { w with heap := w.heap.setIfInBounds b (.cells (setAll arr (off + i) vs) e fr) }
  | [], i, arr, w, h, _, _, _ => by
    simp only [storeCells, setAll, heap_still h]
    rfl
  | v :: r, i, arr, w, h, hl, hf, h1 => by
    simp only [List.length_cons] at hl
    have hb := (Array.getElem?_eq_some_iff.1 h).1
    have hi : off + i < arr.size := by omega
    have hst : (store ((⟨b, off, none⟩ : Addr).add i) v).run P w = .ok () (w.setCell ⟨b, off + i, none⟩ v) := by
      rw [add_addr, run_store P w _ v _ (h1 v (by simp)), cell_of h, Array.getElem?_eq_getElem hi]
      have : w.frozen? ⟨b, off + i, none⟩ = false := by
        simp only [World.frozen?, h]
        have := hf (off + i) hi
        simp only [Bool.and_eq_false_iff, decide_eq_false_iff_not]
        omega
      simp [this]
    rw [storeCells, Sem.run_bind, hst, Result.andThen_ok, setCell_block h]
    have hb2 : ({ w with heap := w.heap.setIfInBounds b (.cells (arr.setIfInBounds (off + i) v) e fr) } : World).heap[b]? = some (.cells (arr.setIfInBounds (off + i) v) e fr) := by simp [hb]
    rw [run_storeCells off r (i + 1) _ _ hb2 (by simp; omega) (by simpa using hf) (fun x hx => h1 x (by simp [hx]))]
    simp only [setAll, Array.setIfInBounds_setIfInBounds]
    rfl

theorem allOne_ok : ∀ {l : List AV} {l' : List Value}, allOne l = true → VRL E l l' → ∀ v ∈ l', v.oneCell' = true
  | [], _, _, h => by simp only [VRL] at h; subst h; simp
  | x :: r, _, ha, h => by
    have ha' : bc (oneA x) (allOne r) false = true := ha
    rw [bc_and] at ha'
    simp only [VRL] at h
    obtain ⟨y, s, rfl, h1, h2⟩ := h
    intro v hv
    rcases List.mem_cons.1 hv with rfl | hv
    · cases x <;> first | (simp only [VR] at h1; subst h1; rfl) | (simp only [VR] at h1; skip) | skip
      · obtain ⟨s, rfl, _⟩ := h1; rfl
      · rename_i a; cases a <;> simp only [VR] at h1
        · subst h1; rfl
        · obtain ⟨_, _, _, rfl⟩ := h1; rfl
      · rename_i a _ _; cases a <;> simp only [VR] at h1
        · subst h1; rfl
        · obtain ⟨_, _, _, rfl⟩ := h1; rfl
      · obtain ⟨_, _, _, _, _, rfl⟩ := h1; rfl
      · obtain ⟨_, _, rfl⟩ := h1; rfl
      · rename_i a; cases a <;> simp only [VR] at h1
        · subst h1; rfl
        · obtain ⟨_, _, _, rfl⟩ := h1; rfl
      · obtain ⟨_, _, rfl, _⟩ := h1; rfl
      · obtain ⟨_, rfl, _⟩ := h1; rfl
      · exact absurd ha'.1 (by simp [oneA])
      · exact absurd ha'.1 (by simp [oneA])
    · exact allOne_ok ha'.2 h2 v hv

theorem storeA_some {n o : Nat} {vs : List AV} (h : storeA A n o vs = some A') :
    ∃ cs g, A.get n = some (.cells cs g false) ∧ allOne vs = true ∧ hasCells cs o vs.length = true ∧ A' = A.set n (.cells (wrCells vs cs o) g false) := by
  simp only [storeA, ob_some, onCells_some] at h
  obtain ⟨_, hg, cs, g, r, rfl, h⟩ := h
  cases r with
  | true => cases h
  | false =>
    rw [bc_false, og_some, bc_and, lenN_eq] at h
    obtain ⟨⟨h1, h2⟩, h3⟩ := h
    cases h3
    exact ⟨cs, g, hg, h1, h2, rfl⟩

theorem wr_get {vs : List AV} {cs : Cs} {o : Nat} (h : hasCells cs o vs.length = true) (i : Nat) : (wrCells vs cs o).get i = if o ≤ i ∧ i < o + vs.length then vs[i - o]? else cs.get i := by
  rcases Nat.eq_zero_or_pos vs.length with h0 | h0
  · have : vs = [] := by simpa using h0
    subst this
    rw [wrCells_nil, if_neg (by simp)]
  · have h1 := hasCells_spec vs.length cs o h (vs.length - 1) (by omega)
    have hr : o + (vs.length - 1) < cs.room := by
      rcases Nat.lt_or_ge (o + (vs.length - 1)) cs.room with h | h
      · exact h
      · rw [csGet_ge _ _ h] at h1; simp at h1
    exact wrCells_get vs cs o i (by omega)

theorem store_ok (hM : MR E A w) {n o b κ : Nat} {vs : List AV} {vs' : List Value} (h : storeA A n o vs = some A') (he : E n = some (b, κ)) (hv : VRL E vs vs') :
    ∃ w', (storeCells ⟨b, o, none⟩ vs').run P w = .ok () w' ∧ Stp E A w E A' w' := by
  obtain ⟨cs, g, hg, h1, h2, rfl⟩ := storeA_some h
  obtain ⟨arr, e, fr, hb, h3, h4, h5⟩ := hM.cells hg he
  have hlen := hv.length
  have hin : ∀ i, i < vs.length → o + i < arr.size := fun i hi => by
    obtain ⟨u, hu⟩ := Option.isSome_iff_exists.1 (hasCells_spec vs.length cs o h2 i hi)
    obtain ⟨v', hv', _⟩ := h3 _ _ hu
    exact (Array.getElem?_eq_some_iff.1 hv').1
  have hsz : o + vs'.length ≤ arr.size ∨ vs' = [] := by
    rcases Nat.eq_zero_or_pos vs.length with h0 | h0
    · exact .inr (by rw [h0] at hlen; simpa using hlen)
    · have := hin (vs.length - 1) (by omega); exact .inl (by omega)
  have hrun : ∃ w', (storeCells ⟨b, o, none⟩ vs').run P w = .ok () w' ∧ w'.heap = w.heap.setIfInBounds b (.cells (setAll arr o vs') e fr) ∧ w'.os = w.os ∧ w'.tape = w.tape ∧ w'.output = w.output := by
    rcases hsz with hsz | rfl
    · have := run_storeCells (P := P) o vs' 0 arr w hb (by omega) (h4 rfl) (allOne_ok h1 hv)
      rw [Nat.add_zero] at this
      exact ⟨_, this, rfl, rfl, rfl, rfl⟩
    · exact ⟨w, rfl, (heap_still hb).symm, rfl, rfl, rfl⟩
  obtain ⟨w', hr, hw1, hw2, hw3, hw4⟩ := hrun
  refine ⟨w', hr, Stp.set hM hg rfl rfl he rfl ⟨setAll arr o vs', e, fr, rfl, fun i v hi => ?_, fun _ i hi => h4 rfl i (by rwa [setAll_size] at hi), fun sz top hgt => ⟨by rw [setAll_size]; exact (h5 sz top hgt).1, fun i v hi => ?_⟩⟩ hw1 hw2 hw3 hw4⟩
  · rw [wr_get h2] at hi
    rw [setAll_get]
    split at hi
    · rename_i hc
      rw [if_pos ⟨hc.1, by omega, by have := hin (i - o) (by omega); omega⟩]
      exact hv.get hi
    · rename_i hc
      rw [if_neg (by omega)]
      exact h3 i v hi
  · rw [wr_get h2] at hi
    split at hi
    · rename_i hc
      obtain ⟨u, hu⟩ := Option.isSome_iff_exists.1 (hasCells_spec vs.length cs o h2 (i - o) (by omega))
      rw [show o + (i - o) = i by omega] at hu
      exact (h5 sz top hgt).2 i u hu
    · exact (h5 sz top hgt).2 i v hi

theorem kStore_ok {call : CallFn} {a : Act} {o : Oper} {t : TypeId} {p x : Operand} (ho : o.op = .store t p x) (h : kStore t p x P call ρ A = some (v, A')) (hG : Good E ρ a.eval) (hM : MR E A w) : ActOk P E A w a o v A' := by
  simp only [kStore, ob_some, onPtr_some, og_some, om_some] at h
  obtain ⟨q, hq, u, hu, n, c, rfl, s, hs, hb, h', hst, hv⟩ := h
  cases hv
  have hp := hG p _ hq
  have hx := VRL.cells (hG x _ hu)
  simp only [VR] at hp
  obtain ⟨b, κ, he, hp⟩ := hp
  obtain ⟨w', hr, hs'⟩ := store_ok (P := P) hM hst he hx
  have hsz : (a.eval x).cells.size = s := by
    have := hx.length
    rw [Nat.beq_eq, lenN_eq] at hb
    simp at this
    omega
  refine ActOk.skip (w' := w') ?_ hs'
  simp [execOp, ho, hp, Instr.storeAt, Instr.sureAddr, storeVar, sizeA_some hs, hsz, hr]

theorem insertA_split {kk : KeyK} {k x : AV} (hk : keyOk kk k = true) (hs : Kd kk) : ∀ (es : List (AV × AV)) (r : Option (List (AV × AV))), insertA k x es = some r →
    findA k es = some (match r with | none => none | some _ => (es.find? fun p => decide (keyEq k p.1 = some true)).map (·.2)) ∧ ∀ es', r = some es' → ∃ (i : Nat) (p : AV × AV), es[i]? = some p ∧ keyEq k p.1 = some true ∧ es' = es.set i (k, x) ∧ ∀ j q, j < i → es[j]? = some q → keyEq k q.1 = some false := by
  intro es
  induction es with
  | nil => intro r h; have : some none = some r := h; cases this; exact ⟨rfl, fun _ h => by cases h⟩
  | cons p s ih =>
    intro r h
    have h' : (ob (keyEq k p.1) fun e => bc e (some (some ((k, x) :: s))) (om (insertA k x s) fun o => om o fun l => p :: l)) = some r := h
    rw [ob_some] at h'
    obtain ⟨e, he, h2⟩ := h'
    have hf : findA k (p :: s) = ob (keyEq k p.1) fun e => bc e (some (some p.2)) (findA k s) := rfl
    cases e with
    | true =>
      rw [bc_true] at h2
      cases h2
      refine ⟨?_, fun es' h => ?_⟩
      · rw [hf, he]; change bc true (some (some p.2)) (findA k s) = _; rw [bc_true]; simp [he]
      · cases h; exact ⟨0, p, rfl, he, rfl, fun j q hj _ => by omega⟩
    | false =>
      rw [bc_false, om_some] at h2
      obtain ⟨o, ho, h3⟩ := h2
      obtain ⟨h4, h5⟩ := ih o ho
      cases o with
      | none =>
        have : r = none := h3.symm
        subst this
        refine ⟨?_, fun es' h => by cases h⟩
        rw [hf, he]; change bc false (some (some p.2)) (findA k s) = _; rw [bc_false]; exact h4
      | some l =>
        have : r = some (p :: l) := h3.symm
        subst this
        refine ⟨?_, fun es' h => ?_⟩
        · rw [hf, he]; change bc false (some (some p.2)) (findA k s) = _; rw [bc_false, h4]; simp [he]
        · cases h
          obtain ⟨i, p', h6, h7, h8, h9⟩ := h5 l rfl
          refine ⟨i + 1, p', by simpa using h6, h7, by rw [h8]; rfl, fun j q hj hq => ?_⟩
          cases j with
          | zero => simp at hq; subst hq; exact he
          | succ j => exact h9 j q (by omega) (by simpa using hq)

theorem set_perm {α : Type} (l : List α) (i : Nat) (x : α) (h : i < l.length) : (l.set i x).Perm (x :: l.eraseIdx i) := by
  have h1 := cons_erase (l.set i x) i (by simpa using h)
  have h2 : (l.set i x)[i]'(by simpa using h) = x := by simp
  rw [h2, List.eraseIdx_set_eq] at h1
  exact h1.symm

theorem sameBits_sc {kk : KeyK} {k : AV} {a b : Value} (hk : keyOk kk k = true) (hs : Sc kk) (h1 : VR E k a) (h2 : VR E k b) : ∀ n, Instr.sameBits n a b = true := by
    intro n
    rcases keyOk_scalar hk hs with ⟨j, m, rfl, rfl⟩ | ⟨s, rfl, rfl⟩ | ⟨q, rfl, rfl⟩
    · simp only [VR] at h1 h2; subst h1 h2; simp [Instr.sameBits]
    · simp only [VR] at h1 h2
      obtain ⟨s1, rfl, hs1⟩ := h1
      obtain ⟨s2, rfl, hs2⟩ := h2
      have : s1.data = s2.data := Array.toList_inj.1 (toNat_inj (hs1.trans hs2.symm))
      simp only [Instr.sameBits]
      show (s1.data == s2.data) = true
      rw [this]; simp
    · simp only [VR] at h1 h2; subst h1 h2; simp [Instr.sameBits]

theorem sameBits_fit {s : ScK} {k : AV} {a b : Value} (hk : fitK s k = true) (h1 : VR E k a) (h2 : VR E k b) (n : Nat) : Instr.sameBits n a b = true := by
  cases s <;> cases k <;> first | (cases hk; done) | skip
  · exact sameBits_sc (kk := .bool) rfl (.inr (.inr rfl)) h1 h2 n
  · rename_i j m; exact sameBits_sc (kk := .int j) (by simp [keyOk, eqK_eq]) (.inl ⟨_, rfl⟩) h1 h2 n
  · exact sameBits_sc (kk := .str) rfl (.inr (.inl rfl)) h1 h2 n
theorem sameBits_fits {n : Nat} : ∀ (ks : List ScK) (l : List AV) (x y : List Value), fitKs ks l = true → VRL E l x → VRL E l y → x.length = y.length ∧ (x.zip y).all (fun (p : Value × Value) => Instr.sameBits n p.1 p.2) = true
  | [], l, x, y, h, h1, h2 => by
    cases l with
    | nil => simp only [VRL] at h1 h2; subst h1 h2; exact ⟨rfl, rfl⟩
    | cons _ _ => cases h
  | k :: ks, l, x, y, h, h1, h2 => by
    cases l with
    | nil => cases h
    | cons v l =>
      have h' : bc (fitK k v) (fitKs ks l) false = true := h
      rw [bc_and] at h'
      simp only [VRL] at h1 h2
      obtain ⟨a, r, rfl, ha, hr⟩ := h1
      obtain ⟨b, s, rfl, hb, hs⟩ := h2
      obtain ⟨e1, e2⟩ := sameBits_fits ks l r s h'.2 hr hs
      refine ⟨by simp [e1], ?_⟩
      simp only [List.zip_cons_cons, List.all_cons, Bool.and_eq_true]
      exact ⟨sameBits_fit h'.1 ha hb n, e2⟩
theorem sameBits_refl {kk : KeyK} {k : AV} {a b : Value} (hk : keyOk kk k = true) (hs : Kd kk) (h1 : VR E k a) (h2 : VR E k b) : Instr.sameBits 10000 a b = true := by
  rcases hs with hs | ⟨ks, rfl⟩
  · exact sameBits_sc hk hs h1 h2 10000
  · obtain ⟨l, rfl, hf⟩ := keyOk_agg hk
    simp only [VR] at h1 h2
    obtain ⟨x, rfl, hx⟩ := h1
    obtain ⟨y, rfl, hy⟩ := h2
    obtain ⟨e1, e2⟩ := sameBits_fits (n := 9999) ks l _ _ hf hx hy
    show Instr.sameBits (9999 + 1) (.agg x) (.agg y) = true
    simp only [Instr.sameBits, Bool.and_eq_true, beq_iff_eq]
    exact ⟨by simpa using e1, e2⟩

theorem keys_apart {kk : KeyK} {k : AV} {es : List (AV × AV)} (hk : keyOk kk k = true) (hs : Kd kk) (h : ∀ q ∈ es, keyEq k q.1 = some false) (hp : es.Pairwise (fun p q => keyEq p.1 q.1 = some false)) (hkeys : ∀ q ∈ es, keyEq q.1 k = some false) (x : AV) :
    (es ++ [(k, x)]).Pairwise (fun p q => keyEq p.1 q.1 = some false) := by
  rw [List.pairwise_append]
  exact ⟨hp, by simp, fun a ha b hb => by simp at hb; subst hb; exact hkeys a ha⟩

theorem keyEq_comm' {kk : KeyK} {k q : AV} {t : Bool} (hk : keyOk kk k = true) (hs : Kd kk) (h : keyEq k q = some t) : keyEq q k = some t := by
  rcases hs with hs | ⟨ks, rfl⟩
  · rcases keyOk_scalar hk hs with ⟨j, n, rfl, rfl⟩ | ⟨s, rfl, rfl⟩ | ⟨b, rfl, rfl⟩
    all_goals
      cases q <;> simp only [keyEq] at h ⊢ <;> first | exact scalarEq_comm _ _ _ h | (have h2 := scalarEq_comm _ _ _ h; simp only [scalarEq, reduceCtorEq] at h2) | (simp only [scalarEq] at h; first | (obtain ⟨y, hy, _⟩ := onInt_some.1 h; cases hy) | (obtain ⟨y, hy, _⟩ := onStr_some.1 h; cases hy) | (obtain ⟨y, hy, _⟩ := onBool_some.1 h; cases hy) | (obtain ⟨_, y, hy, _⟩ := onInt_some.1 h; cases hy))
  · obtain ⟨a, rfl, _⟩ := keyOk_agg hk
    obtain ⟨b, rfl, h2⟩ := onAgg_some.1 (show onAgg q (scalarsEq a) = some t from h)
    show onAgg (.agg a) (scalarsEq b) = some t
    rw [onAgg_some]
    exact ⟨a, rfl, scalarsEq_comm a b t h2⟩

theorem kUpdate_ok {call : CallFn} {a : Act} {o : Oper} {t : TypeId} {m k x : Operand} (ho : o.op = .mapUpdate t m k x ∨ o.op = .insert t m k x) (h : kUpdate t m k x P call ρ A = some (v, A')) (hG : Good E ρ a.eval) (hM : MR E A w) : ActOk P E A w a o v A' := by
  simp only [kUpdate, ob_some, og_some] at h
  obtain ⟨m0, hm0, k0, hk0, x0, hx0, mi, hmi, hok, h⟩ := h
  obtain ⟨r, rfl, h3⟩ := onMap_some.1 h
  obtain ⟨n, rfl, h4⟩ := ob_some.1 h3
  obtain ⟨_, hg, h5⟩ := ob_some.1 h4
  obtain ⟨es, c, rfl, h6⟩ := onMapO_some.1 h5
  rw [om_some] at h6
  obtain ⟨ins, hins, hres⟩ := h6
  clear h h3 h4 h5
  obtain ⟨kt, et, ht, rfl⟩ := mapInfo_some hmi
  simp only at hok
  have hm := hG m _ hm0
  have hk := hG k _ hk0
  have hx := hG x _ hx0
  simp only [VR] at hm
  obtain ⟨b, κ, he, hm⟩ := hm
  obtain ⟨arr, clk, hb, hbn, hclk, hmr⟩ := hM.map hg he
  obtain ⟨hd, hs⟩ := keyKind_desc hok
  obtain ⟨hfind, hins2⟩ := insertA_split hok hs es ins hins
  have hbs := (Array.getElem?_eq_some_iff.1 hb).1
  have hset : ∀ (o' : Obj), (setObj b o').run P w = .ok () { w with heap := w.heap.setIfInBounds b o' } := fun o' => by simp [setObj, Sem.run, hb]
  have hmr0 := hmr
  obtain ⟨l0, hl01, hl02, hl03, hl04, hl05⟩ := hmr0
  rcases find_ok hok hk hmr hfind with ⟨hr, hf⟩ | ⟨i, p, l, j, e, h1, hr, h3, h4, h5, h6, h7, h8, h9, h10, hf⟩
  · cases ins with
    | some es' =>
      exfalso
      obtain ⟨i, p, h1, h2, h3, h4⟩ := hins2 es' rfl
      rw [hr] at hfind
      rcases findA_split hok hs es none hl04 hfind with ⟨_, hall⟩ | ⟨_, _, _, hc, _⟩
      · have := hall p (List.mem_of_getElem? h1); rw [h2] at this; cases this
      · cases hc
    | none =>
      have hres' : (undefA, A.set n (.map (es ++ [(k0, x0)]) c.ins)) = (v, A') := hres
      cases hres'
      have hall : ∀ q ∈ es, keyEq k0 q.1 = some false := by
        rcases findA_split hok hs es none hl04 hfind with ⟨_, hall⟩ | ⟨_, _, _, hc, _⟩
        · exact hall
        · cases hc
      have hmr2 : MapR E (es ++ [(k0, x0)]) c.ins.bs (arr.push { key := a.eval k, val := a.eval x, born := clk }) := by
        refine ⟨l0 ++ [{ key := a.eval k, val := a.eval x, born := clk }], by rw [Array.toList_push]; exact hl01.append_right _, by simp [hl02], fun i p e hp he' => ?_, ?_, fun hlen => by
          have h0 : c.bs.length = es.length := by simpa [MC.ins] using hlen
          show c.bs ++ [c.clock] = _
          rw [← hclk h0, hl05 h0]; simp⟩
        · rw [List.getElem?_append] at hp he'
          rw [hl02] at he'
          split at hp
          · rename_i hlt; rw [if_pos hlt] at he'; exact hl03 i p e hp he'
          · rename_i hge
            rw [if_neg hge] at he'
            cases hh : i - es.length with
            | zero => rw [hh] at hp he'; simp at hp he'; subst hp he'; exact ⟨hk, hx⟩
            | succ q => rw [hh] at hp; simp at hp
        · exact keys_apart hok hs hall hl04 (fun q hq => keyEq_comm' hok hs (hall q hq)) _
      refine ActOk.skip (w' := { w with heap := w.heap.setIfInBounds b (.map (arr.push { key := a.eval k, val := a.eval x, born := clk }) (clk + 1)) }) ?_ (Stp.set hM hg rfl rfl he rfl ⟨_, clk + 1, rfl, hbn.push _ rfl, fun hlen => by rw [hclk (by simpa [MC.ins] using hlen)]; rfl, hmr2⟩ rfl rfl rfl rfl)
      have hrun : (Instr.mapUpdate t (.map (some b)) (a.eval k) (a.eval x)).run P w = .ok () { w with heap := w.heap.setIfInBounds b (.map (arr.push { key := a.eval k, val := a.eval x, born := clk }) (clk + 1)) } := by
        simp [Instr.mapUpdate, run_und ht, run_getObj hb (by simp), checkKey_run hok hk, hf, hset]
      rcases ho with ho | ho <;> simp [execOp, ho, hm, hrun]
  · cases ins with
    | none => cases hr
    | some es' =>
      have hres' : (undefA, A.set n (.map es' c)) = (v, A') := hres
      cases hres'
      obtain ⟨i2, p2, g1, g2, g3, g4⟩ := hins2 es' rfl
      have hii : i2 = i := by
        rw [hr] at hfind
        rcases findA_split hok hs es _ hl04 hfind with ⟨hc, _⟩ | ⟨i3, p3, q1, q2, q3, q4⟩
        · cases hc
        · have e1 : i2 = i3 := by
            rcases Nat.lt_trichotomy i2 i3 with h | h | h
            · have := q4 i2 p2 g1 (by omega); rw [g2] at this; cases this
            · exact h
            · have := q4 i2 p2 g1 (by omega); rw [g2] at this; cases this
          have e2 : i = i3 := by
            rcases Nat.lt_trichotomy i i3 with h | h | h
            · have := q4 i p h1 (by omega); rw [h3] at this; cases this
            · exact h
            · have := q4 i p h1 (by omega); rw [h3] at this; cases this
          omega
      subst hii
      rw [h1] at g1
      cases g1
      have hil : i2 < l.length := (List.getElem?_eq_some_iff.1 h7).1
      have hjl : j < arr.size := (Array.getElem?_eq_some_iff.1 h8).1
      have hkp := keyEq_true hok hs h3
      have hkeep : Instr.sameBits 10000 e.key (a.eval k) = true := sameBits_refl hok hs (by have := (h6 i2 p e h1 h7).1; rw [← hkp] at this; exact this) hk
      have hbn2 : Born (arr.modify j fun e => { e with key := a.eval k, val := a.eval x }) clk := by
        refine hbn.sub ?_
        have : ((arr.modify j fun e => { e with key := a.eval k, val := a.eval x }).toList.map (·.born)) = arr.toList.map (·.born) := by
          apply List.ext_getElem?
          intro q
          rw [List.getElem?_map, List.getElem?_map, Array.getElem?_toList, Array.getElem?_toList, Array.getElem?_modify]
          split
          · cases arr[q]? <;> rfl
          · rfl
        rw [this]
        exact List.Sublist.refl _
      have hmr2 : MapR E es' c.bs (arr.modify j fun e => { e with key := a.eval k, val := a.eval x }) := by
        rw [g3]
        refine ⟨l.set i2 { e with key := a.eval k, val := a.eval x }, ?_, by simp [h5], fun i p' e' hp he' => ?_, ?_, ?_⟩
        · have : (arr.modify j fun e => { e with key := a.eval k, val := a.eval x }).toList = arr.toList.set j { e with key := a.eval k, val := a.eval x } := by
            apply List.ext_getElem?
            intro q
            rw [List.getElem?_set, Array.getElem?_toList, Array.getElem?_toList, Array.getElem?_modify]
            by_cases hq : j = q
            · subst hq; rw [if_pos rfl, if_pos rfl, if_pos (by simpa using hjl), h8]; rfl
            · simp [hq]
          rw [this]
          exact (set_perm l i2 _ hil).trans ((h9.cons _).trans (set_perm arr.toList j _ (by simpa using hjl)).symm)
        · rw [List.getElem?_set] at hp he'
          have hel : i2 < es.length := by omega
          by_cases hq : i2 = i
          · subst hq
            rw [if_pos rfl, if_pos hel] at hp
            rw [if_pos rfl, if_pos hil] at he'
            cases hp
            cases he'
            exact ⟨hk, hx⟩
          · rw [if_neg hq] at hp he'
            exact h6 i p' e' hp he'
        · rw [List.pairwise_iff_getElem] at hl04 ⊢
          intro u q hu hq huq
          simp only [List.length_set] at hu hq
          have hes2 : es[i2]'(by omega) = p := by have := h1; rw [List.getElem?_eq_getElem (by omega)] at this; exact Option.some.inj this
          rw [List.getElem_set, List.getElem_set]
          have hbase := hl04 u q hu hq huq
          split
          · rename_i hiu
            subst hiu
            rw [if_neg (by omega)]
            rw [hes2, ← hkp] at hbase
            exact hbase
          · split
            · rename_i hiq
              subst hiq
              rw [hes2, ← hkp] at hbase
              exact hbase
            · exact hbase
        · intro hlen
          rw [h10 (by rw [hlen]; simp)]
          apply List.ext_getElem?
          intro q
          rw [List.getElem?_map, List.getElem?_map, List.getElem?_set]
          by_cases hq : i2 = q
          · subst hq; rw [if_pos rfl, if_pos hil, h7]; rfl
          · rw [if_neg hq]
      refine ActOk.skip (w' := { w with heap := w.heap.setIfInBounds b (.map (arr.modify j fun e => { e with key := a.eval k, val := a.eval x }) clk) }) ?_ (Stp.set hM hg rfl rfl he rfl ⟨_, clk, rfl, hbn2, fun hlen => hclk (by rw [hlen, g3]; simp), hmr2⟩ rfl rfl rfl rfl)
      have hrun : (Instr.mapUpdate t (.map (some b)) (a.eval k) (a.eval x)).run P w = .ok () { w with heap := w.heap.setIfInBounds b (.map (arr.modify j fun e => { e with key := a.eval k, val := a.eval x }) clk) } := by
        simp [Instr.mapUpdate, run_und ht, run_getObj hb (by simp), checkKey_run hok hk, hf, hset, Instr.keyThatStays, h8, hkeep]
      rcases ho with ho | ho <;> simp [execOp, ho, hm, hrun]
end Go.Ev
