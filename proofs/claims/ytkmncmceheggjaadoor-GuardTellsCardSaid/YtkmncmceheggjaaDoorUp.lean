/- Rows of texts in order, each once: plain; the names of a tree. -/
import Derived.Test.YtkmncmceheggjaaDoorRt
set_option linter.unusedVariables false
set_option linter.unusedSimpArgs false
namespace Go.Proofs.YtkmncmceheggjaaDoor

abbrev Str := List UInt8
theorem st_lt {a b : Str} (h : a ≤ b) (k : a ≠ b) : a < b := by
  rcases Decidable.em (b ≤ a) with h2 | h2
  · exact absurd (List.le_antisymm h h2) k
  · exact List.not_le.1 h2
theorem st_le {a b : Str} (h : a < b) : a ≤ b := by
  rcases List.le_total a b with h2 | h2
  · exact h2
  · exact absurd h (List.not_lt.2 h2)
theorem st_irr (a : Str) : ¬ a < a := List.lt_irrefl a
theorem st_tr {a b c : Str} (h : a < b) (k : b < c) : a < c := List.lt_trans h k

def ltS (a b : Str) : Prop := a < b
theorem sorted_ext : ∀ (l m : List Str), l.Pairwise ltS → m.Pairwise ltS → (∀ x, x ∈ l ↔ x ∈ m) → l = m
  | [], [], _, _, _ => rfl
  | [], b :: m, _, _, h => absurd ((h b).2 (by simp)) (by simp)
  | a :: l, [], _, _, h => absurd ((h a).1 (by simp)) (by simp)
  | a :: l, b :: m, hl, hm, h => by
    obtain ⟨l1, l2⟩ := List.pairwise_cons.1 hl
    obtain ⟨m1, m2⟩ := List.pairwise_cons.1 hm
    have hab : a = b := by
      rcases List.mem_cons.1 ((h a).1 (by simp)) with e | e
      · exact e
      rcases List.mem_cons.1 ((h b).2 (by simp)) with e2 | e2
      · exact e2.symm
      exact absurd (st_tr (m1 a e) (l1 b e2)) (st_irr _)
    subst hab
    rw [sorted_ext l m l2 m2 fun x => ⟨fun hx => ?_, fun hx => ?_⟩]
    · rcases List.mem_cons.1 ((h x).1 (List.mem_cons_of_mem _ hx)) with e | e
      · exact absurd (e ▸ l1 x hx) (st_irr _)
      · exact e
    · rcases List.mem_cons.1 ((h x).2 (List.mem_cons_of_mem _ hx)) with e | e
      · exact absurd (e ▸ m1 x hx) (st_irr _)
      · exact e
theorem cup_mem (d : Array Str) : ∀ (m : Nat) (x : Str), x ∈ Lib.compactUpTo d m ↔ ∃ j, j < m ∧ x = d[j]!
  | 0, x => by simp [Lib.compactUpTo]
  | m + 1, x => by
    rw [Lib.compactUpTo_succ, List.mem_append, cup_mem d m x]
    constructor
    · rintro (⟨j, hj, e⟩ | h)
      · exact ⟨j, by omega, e⟩
      · split at h
        · exact ⟨m, by omega, List.mem_singleton.1 h⟩
        · cases h
    · rintro ⟨j, hj, e⟩
      by_cases hjm : j < m
      · exact .inl ⟨j, hjm, e⟩
      obtain rfl : j = m := by omega
      by_cases hk : Lib.keeps d j = true
      · refine .inr ?_
        rw [if_pos hk, e]; simp
      · refine .inl ⟨j - 1, ?_, ?_⟩
        · simp [Lib.keeps] at hk; omega
        · simp [Lib.keeps] at hk; rw [e]; exact hk.2
theorem cup_sorted (d : Array Str) (hs : ∀ i j, i ≤ j → j < d.size → d[i]! ≤ d[j]!) : ∀ m, m ≤ d.size → (Lib.compactUpTo d m).Pairwise ltS
  | 0, _ => by simp [Lib.compactUpTo]
  | m + 1, h => by
    rw [Lib.compactUpTo_succ, List.pairwise_append]
    refine ⟨cup_sorted d hs m (by omega), ?_, fun x hx y hy => ?_⟩
    · split
      · exact List.pairwise_singleton _ _
      · exact List.Pairwise.nil
    · obtain ⟨j, hj, rfl⟩ := (cup_mem d m x).1 hx
      split at hy
      · rename_i hk
        obtain rfl := List.mem_singleton.1 hy
        simp [Lib.keeps] at hk
        rcases hk with hk | hk
        · omega
        have h1 := hs j (m - 1) (by omega) (by omega)
        have h2 := st_lt (hs (m - 1) m (by omega) (by omega)) (fun e => hk e.symm)
        exact List.lt_of_le_of_lt h1 h2
      · cases hy
theorem compact_sorted {l : List Str} (h : l.Pairwise (· ≤ ·)) : (Lib.compact l).Pairwise ltS := by
  unfold Lib.compact
  refine cup_sorted _ (fun i j hij hj => ?_) _ (by simp)
  have hj' : j < l.length := by simpa using hj
  have e : ∀ k, (hk : k < l.length) → l.toArray[k]! = l[k] := fun k hk => by simp [hk]
  rw [e i (by omega), e j hj']
  rcases Nat.lt_or_ge i j with h1 | h1
  · exact List.pairwise_iff_getElem.1 h i j (by omega) hj' h1
  · obtain rfl : i = j := by omega
    exact List.le_refl _
theorem compact_mem (l : List Str) (x : Str) : x ∈ Lib.compact l ↔ x ∈ l := by
  unfold Lib.compact
  rw [cup_mem]
  constructor
  · rintro ⟨j, hj, rfl⟩
    have : l.toArray[j]! = l[j] := by simp [hj]
    rw [this]; exact List.getElem_mem hj
  · intro h
    obtain ⟨j, hj, rfl⟩ := List.getElem_of_mem h
    exact ⟨j, hj, by simp [hj]⟩
theorem ms_sorted (l : List Str) : (l.mergeSort fun x y => decide (x ≤ y)).Pairwise (· ≤ ·) := by
  have := List.pairwise_mergeSort (le := fun x y : Str => decide (x ≤ y)) (fun a b c h k => by simp at h k ⊢; exact List.le_trans h k) (fun a b => by simpa using List.le_total a b) l
  exact this.imp fun h => by simpa using h
theorem uses_sorted (s : Str) : (usesL s).Pairwise ltS := compact_sorted (ms_sorted _)
theorem uses_mem (s : Str) (x : Str) : x ∈ usesL s ↔ x ∈ namesW (wordsL s) := by
  unfold usesL
  rw [compact_mem]
  exact (List.mergeSort_perm _ _).mem_iff

/-! ### a tree's names -/
theorem tree_tok : ∀ (t : GT), t.ok → ∀ x ∈ t.toks, nameB x = true → x = [120] ∨ x = [121]
  | .leaf k, h, x, hx, hq => by
    simp only [GT.toks] at hx
    obtain rfl := List.mem_singleton.1 hx
    exact leaf_name h hq
  | .no t, h, x, hx, hq => by
    simp only [GT.toks] at hx
    rcases List.mem_cons.1 hx with rfl | hx
    · rw [not_kind.2] at hq; cases hq
    · exact tree_tok t h x hx hq
  | .op k a b, h, x, hx, hq => by
    simp only [GT.toks] at hx
    rcases List.mem_cons.1 hx with rfl | hx
    · rw [(op_kind h.1).2] at hq; cases hq
    · rcases List.mem_append.1 hx with hx | hx
      · exact tree_tok a h.2.1 x hx hq
      · exact tree_tok b h.2.2 x hx hq
/-- the four rows of names that a tree of numbers may use -/
theorem four (l : List Str) (hs : l.Pairwise ltS) (h : ∀ x ∈ l, x = [120] ∨ x = [121]) : l = [] ∨ l = [[120]] ∨ l = [[121]] ∨ l = [[120], [121]] := by
  have hxy : ¬ ltS [121] [120] := by unfold ltS; decide
  match l, hs, h with
  | [], _, _ => exact .inl rfl
  | [a], _, h =>
    rcases h a (by simp) with rfl | rfl
    · exact .inr (.inl rfl)
    · exact .inr (.inr (.inl rfl))
  | a :: b :: l, hs, h =>
    obtain ⟨h1, h2⟩ := List.pairwise_cons.1 hs
    obtain ⟨h3, h4⟩ := List.pairwise_cons.1 h2
    have hab := h1 b (by simp)
    have ea : a = [120] ∧ b = [121] := by
      rcases h a (by simp) with rfl | rfl <;> rcases h b (by simp) with rfl | rfl
      · exact absurd hab (st_irr _)
      · exact ⟨rfl, rfl⟩
      · exact absurd hab hxy
      · exact absurd hab (st_irr _)
    obtain ⟨rfl, rfl⟩ := ea
    cases l with
    | nil => exact .inr (.inr (.inr rfl))
    | cons c l =>
      exfalso
      have hc := h3 c (by simp)
      rcases h c (by simp) with rfl | rfl
      · exact hxy hc
      · exact st_irr _ hc
theorem mem_namesW (s : Str) (x : Str) : x ∈ namesW (wordsL s) ↔ x ∈ toksL s ∧ nameB x = true := by
  unfold namesW
  rw [toks_words, List.mem_filter]
theorem uses_four {s : Str} {t : GT} (ht : toksL s = t.toks) (h : t.ok) : usesL s = [] ∨ usesL s = [[120]] ∨ usesL s = [[121]] ∨ usesL s = [[120], [121]] :=
  four _ (uses_sorted s) fun x hx => by
    have := (mem_namesW s x).1 ((uses_mem s x).1 hx)
    rw [ht] at this
    exact tree_tok t h x this.1 this.2
/-- a tree's value hangs on the names alone that it uses -/
theorem val_cong {names : List ByteArray} {v1 v2 : List Int} : ∀ (t : GT), t.ok → (∀ x ∈ t.toks, nameB x = true → v1.getD (idxI names x).toNat 0 = v2.getD (idxI names x).toNat 0) → t.val names v1 = t.val names v2
  | .leaf k, h, hv => by
    simp only [GT.val]
    split
    · rfl
    · rename_i hk
      rcases leaf_kind (k := k) h with ⟨e, _⟩ | ⟨_, e⟩
      · exact absurd e hk
      · exact hv _ (by simp [GT.toks]) e
  | .no t, h, hv => by
    simp only [GT.val]
    rw [val_cong t h fun x hx => hv x (by simp only [GT.toks]; exact List.mem_cons_of_mem _ hx)]
  | .op k a b, h, hv => by
    simp only [GT.val]
    rw [val_cong a h.2.1 fun x hx => hv x (by simp only [GT.toks]; exact List.mem_cons_of_mem _ (List.mem_append_left _ hx)), val_cong b h.2.2 fun x hx => hv x (by simp only [GT.toks]; exact List.mem_cons_of_mem _ (List.mem_append_right _ hx))]
theorem named_in {names : List ByteArray} : ∀ (t : GT), t.ok → (∀ x ∈ t.toks, nameB x = true → hasB names x = true) → t.named names
  | .leaf k, h, hv => fun e => hv _ (by simp [GT.toks]) e
  | .no t, h, hv => named_in t h fun x hx => hv x (by simp only [GT.toks]; exact List.mem_cons_of_mem _ hx)
  | .op k a b, h, hv => ⟨named_in a h.2.1 fun x hx => hv x (by simp only [GT.toks]; exact List.mem_cons_of_mem _ (List.mem_append_left _ hx)), named_in b h.2.2 fun x hx => hv x (by simp only [GT.toks]; exact List.mem_cons_of_mem _ (List.mem_append_right _ hx))⟩
theorem has_of_mem {l : List Str} {x : Str} (h : x ∈ l) : hasB (l.map S) x = true := by
  unfold hasB idxI
  cases hf : (l.map S).findIdx? (fun y => y.toList == x) with
  | some i => simp
  | none =>
    rw [List.findIdx?_eq_none_iff] at hf
    have := hf (S x) (List.mem_map.2 ⟨x, h, rfl⟩)
    rw [S_toList] at this
    simp at this

/-! ### GuardUses, plain -/
def xyzL : List ByteArray := [⟨#[120]⟩, ⟨#[121]⟩, ⟨#[122]⟩]
theorem xyz_has : hasB xyzL [120] = true ∧ hasB xyzL [121] = true := by decide +kernel
theorem xyz_idx : idxI xyzL [120] = 0 ∧ idxI xyzL [121] = 1 := by decide +kernel
theorem uses_eval {s : ByteArray} {t : GT} {p q r : Int} (hsz : s.size ≤ 120) (ht : toksL s.toList = t.toks) (h : t.ok) (hd : t.deep ≤ 16) : evalP xyzL [p, q, r] s.toList = (t.val xyzL [p, q, r], 0) :=
  eval_tree (by rw [bytes_len]; exact hsz) ht h (named_of xyz_has.1 xyz_has.2 t h) hd (by show 3 ≤ 3; omega)
theorem uses_val {s : ByteArray} {t : GT} {p q r p' q' r' : Int} (ht : toksL s.toList = t.toks) (h : t.ok) (hx : [120] ∈ usesL s.toList → p = p') (hy : [121] ∈ usesL s.toList → q = q') : t.val xyzL [p, q, r] = t.val xyzL [p', q', r'] := by
  refine val_cong t h fun x hx' hq => ?_
  have hm : x ∈ usesL s.toList := (uses_mem _ _).2 ((mem_namesW _ _).2 ⟨by rw [ht]; exact hx', hq⟩)
  rcases tree_tok t h x hx' hq with rfl | rfl
  · rw [xyz_idx.1]; exact hx hm
  · rw [xyz_idx.2]; exact hy hm
theorem uses_check {s : ByteArray} {t : GT} (hsz : s.size ≤ 120) (ht : toksL s.toList = t.toks) (h : t.ok) (hd : t.deep ≤ 16) : checkP ((usesL s.toList).map S) s.toList = (0, 0) :=
  check_tree (by rw [bytes_len]; exact hsz) ht h (named_in t h fun x hx hq => has_of_mem ((uses_mem _ _).2 ((mem_namesW _ _).2 ⟨by rw [ht]; exact hx, hq⟩))) hd
end Go.Proofs.YtkmncmceheggjaaDoor
