/- The abstract machine's operations that act: append, copy, delete, clear. -/
import Derived.Test.YtcpmgjnlnaigbaaGreatDoorEvK
import Derived.Laws.AppendOwn
set_option linter.unusedVariables false
set_option linter.unusedSimpArgs false
namespace Go.Ev
open Go

variable {P : Program} {E : Ren} {ρ : Env} {f : Operand → Value} {v : AV} {A A' : AH} {w : World}

/-- a name that is known no more -/
theorem Stp.kill (h : MR E A w) {m : Nat} {p : AObj} (hg : A.get m = some p) (hl : p.live = true) : Stp E A w E (A.set m .dead) w := by
  have hn := AH.get_lt _ _ _ hg
  obtain ⟨_, b, κ, he, _, hob, _⟩ := h.blk m p hg
  refine ⟨Ren.le_refl E, fun _ _ _ h => .inl h, ⟨rfl, rfl, rfl, Nat.le_refl _, fun _ _ _ => rfl⟩, ⟨fun n q hq => ?_, fun n k q r b' κ1 κ2 hq hr hl1 hl2 he1 he2 => ?_⟩, Nat.le_refl _, fun n q hlt hq hlq => ?_⟩
  · rw [AH.get_set _ _ _ _ hn] at hq
    split at hq
    · rename_i hm; subst hm; cases hq
      exact ⟨(h.blk n p hg).1, b, κ, he, _, hob, trivial⟩
    · exact h.blk n q hq
  · rw [AH.get_set _ _ _ _ hn] at hq hr
    split at hq
    · cases hq; simp [AObj.live] at hl1
    · split at hr
      · cases hr; simp [AObj.live] at hl2
      · exact h.inj n k q r b' κ1 κ2 hq hr hl1 hl2 he1 he2
  · rw [AH.get_set _ _ _ _ hn] at hq
    split at hq
    · cases hq; simp [AObj.live] at hlq
    · exact ⟨q, hq, hlq, id⟩

/-- a block gets another name -/
theorem Stp.retire {w' : World} (h : MR E A w) {m b κ : Nat} {p : AObj} (hg : A.get m = some p) (hl : p.live = true) (hr : p.ro = false) (he : E m = some (b, κ)) (hn : E A.next = none) (htop : A.has = true) {o : AObj} {ob' : Obj}
    (ho : OR (E.put A.next b κ) κ o ob') (hw : w'.heap = w.heap.setIfInBounds b ob') (h2 : w'.os = w.os) (h3 : w'.tape = w.tape) (h4 : w'.output = w.output) : Stp E A w (E.put A.next b κ) ((A.set m .dead).push o) w' := by
  have hle := Ren.le_put hn b κ
  have hm := AH.get_lt _ _ _ hg
  have hmn : m < A.next := (h.blk m p hg).1
  have hbs : b < w.heap.size := by
    obtain ⟨_, b', κ', he', ob1, hob, _⟩ := h.blk m p hg
    rw [he] at he'
    cases he'
    exact (Array.getElem?_eq_some_iff.1 hob).1
  have hget : ∀ n, ((A.set m .dead).push o).get n = if n = A.next then some o else if n = m then some .dead else A.get n := fun n => by
    rw [AH.get_push _ _ _ (by rw [AH.has_set]; exact htop), AH.get_set _ _ _ _ hm]
    rfl
  have hold : ∀ n q, A.get n = some q → n < A.next := fun n q hq => (h.blk n q hq).1
  refine ⟨hle, fun n b' κ' hx => ?_, ⟨h2, h3, h4, by rw [hw]; simp, fun b' hb' hown => ?_⟩, ⟨fun n q hq => ?_, fun n k q r b' κ1 κ2 hq hr' hl1 hl2 he1 he2 => ?_⟩, by show A.next ≤ A.next + 1; omega, fun n q hlt hq hlq => ?_⟩
  · unfold Ren.put at hx
    split at hx
    · rename_i hm'; subst hm'; cases hx
      exact .inr ⟨Nat.le_refl _, by show A.next < A.next + 1; omega, .inr ⟨m, p, _, hg, hl, hr, he⟩⟩
    · exact .inl hx
  · rw [hw, Array.getElem?_setIfInBounds_ne]
    rintro rfl
    exact hown ⟨m, p, κ, hg, hl, hr, he⟩
  · rw [hget] at hq
    show n < A.next + 1 ∧ _
    split at hq
    · rename_i hm'; subst hm'; cases hq
      exact ⟨by omega, b, κ, Ren.put_self _ _ _ _, ob', by rw [hw]; simp [hbs], ho⟩
    · split at hq
      · rename_i hm'; subst hm'; cases hq
        exact ⟨by omega, b, κ, hle _ _ he, ob', by rw [hw]; simp [hbs], trivial⟩
      · rename_i hnm
        obtain ⟨h5, b', κ', he', ob1, hob, hor⟩ := h.blk n q hq
        by_cases hb : b' = b
        · subst hb
          refine ⟨by omega, b', κ', hle _ _ he', ob', by rw [hw]; simp [hbs], ?_⟩
          by_cases hlq : q.live = true
          · exact absurd (h.inj n m q p b' κ' κ hq hg hlq hl he' he) hnm
          · cases q <;> first | trivial | (simp [AObj.live] at hlq)
        · exact ⟨by omega, b', κ', hle _ _ he', ob1, by rw [hw, Array.getElem?_setIfInBounds_ne (fun e => hb e.symm)]; exact hob, hor.mono hle⟩
  · rw [hget] at hq hr'
    have hx : ∀ (n k : Nat) (q r : AObj) (b' κ1 κ2 : Nat), n ≠ A.next → k = A.next → (if n = A.next then some o else if n = m then some .dead else A.get n) = some q → q.live = true → E.put A.next b κ n = some (b', κ1) → E.put A.next b κ k = some (b', κ2) → False := by
      intro n k q r b' κ1 κ2 h5 h6 h7 h8 h9 h10
      subst h6
      rw [Ren.put_self] at h10
      cases h10
      rw [if_neg h5] at h7
      unfold Ren.put at h9
      rw [if_neg h5] at h9
      split at h7
      · cases h7; simp [AObj.live] at h8
      · rename_i hnm
        exact hnm (h.inj n m q p _ κ1 κ h7 hg h8 hl h9 he)
    by_cases h5 : n = A.next <;> by_cases h6 : k = A.next
    · omega
    · exact (hx k n r q b' κ2 κ1 h6 h5 hr' hl2 he2 he1).elim
    · exact (hx n k q r b' κ1 κ2 h5 h6 hq hl1 he1 he2).elim
    · rw [if_neg h5] at hq
      rw [if_neg h6] at hr'
      unfold Ren.put at he1 he2
      rw [if_neg h5] at he1
      rw [if_neg h6] at he2
      split at hq
      · cases hq; simp [AObj.live] at hl1
      · split at hr'
        · cases hr'; simp [AObj.live] at hl2
        · exact h.inj n k q r b' κ1 κ2 hq hr' hl1 hl2 he1 he2
  · rw [hget, if_neg (by omega)] at hq
    split at hq
    · cases hq; simp [AObj.live] at hlq
    · exact ⟨q, hq, hlq, id⟩

theorem srcLen_ok {x : AV} {x' : Value} {n : Nat} (h : srcLen x = some n) (hx : VR E x x') : ∀ w, (Builtin.lenOf x').run P w = .ok n w := by
  intro w
  cases x with
  | str s =>
    have h' : some (lenN s) = some n := h
    simp only [VR] at hx
    obtain ⟨b, rfl, rfl⟩ := hx
    cases h'
    rw [lenN_eq, bytesN_len]; rfl
  | slice p l c =>
    cases p with
    | none =>
      have h' : og (Nat.beq l 0) (some 0) = some n := h
      rw [og_some, Nat.beq_eq] at h'
      obtain ⟨rfl, h'⟩ := h'
      cases h'
      simp only [VR] at hx
      subst hx
      rfl
    | some q =>
      have h' : some l = some n := h
      cases h'
      simp only [VR] at hx
      obtain ⟨b, κ, _, rfl⟩ := hx
      rfl
  | gslice m o l eo mc =>
    have h' : some l = some n := h
    cases h'
    simp only [VR] at hx
    obtain ⟨b, κ, _, _, _, rfl⟩ := hx
    rfl
  | eslice =>
    have h' : some 0 = some n := h
    cases h'
    simp only [VR] at hx
    obtain ⟨a, c, rfl⟩ := hx
    rfl
  | _ => cases h

theorem rdAt_cells {m o k : Nat} {l : List AV} (h : (ob (A.get m) fun ob1 => onCells ob1 fun cs _ _ => rdCells cs o k) = some l) : ∃ cs g r, A.get m = some (.cells cs g r) ∧ rdCells cs o k = some l := by
  simp only [ob_some, onCells_some] at h
  obtain ⟨_, hg, cs, g, r, rfl, h⟩ := h
  exact ⟨cs, g, r, hg, h⟩

theorem rd_cells (h : MR E A w) {n b κ o k : Nat} {cs : Cs} {g : Option (Nat × Nat)} {r : Bool} {l : List AV} (hg : A.get n = some (.cells cs g r)) (he : E n = some (b, κ)) (hl : rdCells cs o k = some l) :
    ∃ l' : List Value, VRL E l l' ∧ l'.length = k ∧ ∀ w' : World, w'.heap = w.heap → (loadCells ⟨b, o, none⟩ k).run P w' = .ok l'.toArray w' := by
  obtain ⟨arr, e, fr, hb, h1, _, _⟩ := h.cells hg he
  obtain ⟨h3, h4⟩ := (rdCells_spec k cs o l).1 hl
  have h5 : ∀ i, i < k → ∃ v', arr[o + i]? = some v' := fun i hi => by
    have := h4 i hi
    rw [List.getElem?_eq_getElem (by omega)] at this
    obtain ⟨v', hv, _⟩ := h1 _ _ this
    exact ⟨v', hv⟩
  have hk : ((arr.toList.drop o).take k).length = k := by
    rw [List.length_take, List.length_drop, Array.length_toList]
    rcases Nat.eq_zero_or_pos k with h0 | h0
    · omega
    · obtain ⟨v', hv⟩ := h5 (k - 1) (by omega)
      have := (Array.getElem?_eq_some_iff.1 hv).1
      omega
  refine ⟨(arr.toList.drop o).take k, ?_, hk, fun w' hw => ?_⟩
  · refine VRL.of_get (by rw [hk]; omega) (fun i v v' hv hv' => ?_)
    have hi : i < k := by have := (List.getElem?_eq_some_iff.1 hv).1; omega
    rw [List.getElem?_take, if_pos hi, List.getElem?_drop] at hv'
    obtain ⟨u, hu, hr⟩ := h1 (o + i) v ((h4 i hi).trans hv)
    have : arr[o + i]? = some v' := by simpa using hv'
    rw [hu] at this
    cases this
    exact hr
  · have hb' : w'.heap[b]? = some (.cells arr e fr) := by rw [hw]; exact hb
    have := run_loadCells_list (P := P) w' ⟨b, o, none⟩ ((arr.toList.drop o).take k) (fun j u hu => by
      rw [add_addr, cell_of hb']
      rw [List.getElem?_take] at hu
      split at hu
      · rw [List.getElem?_drop] at hu; simpa using hu
      · cases hu)
    rw [hk] at this
    exact this

theorem srcCells_ok (hM : MR E A w) {x : AV} {x' : Value} {size n : Nat} {l : List AV} (h : srcCells A size x n = some l) (hx : VR E x x') (hn : x = .eslice → n = 0) :
    ∃ l' : List Value, VRL E l l' ∧ ∀ w' : World, w'.heap = w.heap → (Builtin.firstCells size n x').run P w' = .ok l'.toArray w' := by
  have rows : ∀ (m o b κ lc c : Nat), E m = some (b, κ) → (ob (A.get m) fun ob1 => onCells ob1 fun cs _ _ => rdCells cs o (n * size)) = some l → x' = .slice (some ⟨b, o, none⟩) lc c →
      ∃ l' : List Value, VRL E l l' ∧ ∀ w' : World, w'.heap = w.heap → (Builtin.firstCells size n x').run P w' = .ok l'.toArray w' := by
    intro m o b κ lc c he hr hx'
    subst hx'
    obtain ⟨cs, g, r, hg, hrd⟩ := rdAt_cells hr
    obtain ⟨l1, h1, h2, h3⟩ := rd_cells (P := P) hM hg he hrd
    exact ⟨l1, h1, fun w' hw => by simp only [Builtin.firstCells]; exact h3 w' hw⟩
  cases x with
  | str s =>
    have h' : some ((takeN n s).map byteAV) = some l := h
    simp only [VR] at hx
    obtain ⟨b, rfl, rfl⟩ := hx
    cases h'
    refine ⟨((b.extract 0 n).data.map fun c => Value.int .u8 c.toNat).toList, ?_, fun w' _ => by simp only [Builtin.firstCells, Array.toArray_toList]; rfl⟩
    rw [takeN_eq]
    refine VRL.of_get ?_ (fun i v v' hv hv' => ?_)
    · simp [bytesN]
    · rw [List.getElem?_map, Option.map_eq_some_iff] at hv
      obtain ⟨c, hc, rfl⟩ := hv
      rw [List.getElem?_take] at hc
      split at hc
      · unfold bytesN at hc
        rw [List.getElem?_map, Option.map_eq_some_iff] at hc
        obtain ⟨u8, hu8, rfl⟩ := hc
        have : v' = .int .u8 u8.toNat := by
          simp only [Array.toList_map, List.getElem?_map, Option.map_eq_some_iff] at hv'
          obtain ⟨u, hu, rfl⟩ := hv'
          have : u = u8 := by
            simp only [ByteArray.data_extract, Array.toList_extract, List.extract_eq_take_drop] at hu
            rw [List.getElem?_take] at hu
            split at hu
            · simp at hu hu8; rw [hu] at hu8; exact Option.some.inj hu8
            · cases hu
          rw [this]
        rw [this]
        simp only [byteAV, VR]; rfl
      · cases hc
  | slice p lc c =>
    cases p with
    | none =>
      have h' : some [] = some l := h
      cases h'
      simp only [VR] at hx
      subst hx
      exact ⟨[], by simp [VRL], fun w' _ => by simp [Builtin.firstCells]⟩
    | some q =>
      simp only [VR] at hx
      obtain ⟨b, κ, he, hx⟩ := hx
      exact rows q.1 q.2 b κ lc c he h hx
  | gslice m o lc eo mc =>
    simp only [VR] at hx
    obtain ⟨b, κ, he, _, _, hx⟩ := hx
    exact rows m o b κ _ _ he h hx
  | eslice =>
    have h' : some [] = some l := h
    cases h'
    simp only [VR] at hx
    obtain ⟨a, c, rfl⟩ := hx
    refine ⟨[], by simp [VRL], fun w' _ => ?_⟩
    rw [hn rfl]
    simp only [Builtin.firstCells, Nat.zero_mul]
    exact run_loadCells_list w' a [] (fun j u hu => by simp at hu)
  | _ => cases h
end Go.Ev
