/- Guards that are trees, plain: their words, Check, Eval, Uses. -/
import Derived.Test.YtkmncmceheggjaaDoorMd
import Derived.Test.YtkmncmceheggjaaDoorGw
set_option linter.unusedVariables false
set_option linter.unusedSimpArgs false
namespace Go.Proofs.YtkmncmceheggjaaDoor

/-- words without their places -/
def tkG : List UInt8 → Option (List UInt8) → List (List UInt8)
  | [], none => []
  | [], some w => [w]
  | c :: s, none => if c = 32 then tkG s none else tkG s (some [c])
  | c :: s, some w => if c = 32 then w :: tkG s none else tkG s (some (w ++ [c]))
def toksL (s : List UInt8) : List (List UInt8) := tkG s none
theorem tk_words : ∀ (s : List UInt8) (i : Nat) (o : Option Wd), (wgo s i o).map (·.2) = tkG s (o.map (·.2))
  | [], i, none => rfl
  | [], i, some x => rfl
  | c :: s, i, none => by
    simp only [wgo, tkG, Option.map_none]
    split
    · exact tk_words s _ none
    · exact tk_words s _ (some (i, [c]))
  | c :: s, i, some x => by
    simp only [wgo, tkG, Option.map_some]
    split
    · rw [List.map_cons, tk_words s _ none]; rfl
    · exact tk_words s _ (some (x.1, x.2 ++ [c]))
theorem toks_words (s : List UInt8) : (wordsL s).map (·.2) = toksL s := tk_words s 0 none
def nbB (w : List UInt8) : Bool := w.all fun c => !(c == 32)
theorem tk_app : ∀ (w r x : List UInt8), nbB w = true → tkG (w ++ r) (some x) = tkG r (some (x ++ w))
  | [], r, x, _ => by simp
  | c :: w, r, x, h => by
    unfold nbB at h
    rw [List.all_cons, Bool.and_eq_true] at h
    have hc : c ≠ 32 := by simpa using h.1
    rw [List.cons_append]
    simp only [tkG]
    rw [if_neg hc, tk_app w r (x ++ [c]) h.2]
    simp
theorem tk_open {w : List UInt8} (r : List UInt8) (h : nbB w = true) (h0 : w ≠ []) : tkG (w ++ r) none = tkG r (some w) := by
  cases w with
  | nil => exact absurd rfl h0
  | cons c w =>
    unfold nbB at h
    rw [List.all_cons, Bool.and_eq_true] at h
    have hc : c ≠ 32 := by simpa using h.1
    rw [List.cons_append]
    simp only [tkG]
    rw [if_neg hc, tk_app w r [c] h.2]
    rfl
/-- what stands behind a word: nothing, or a blank -/
def Stop (r : List UInt8) : Prop := r = [] ∨ ∃ r', r = 32 :: r'
theorem tk_stop {r : List UInt8} (h : Stop r) (w : List UInt8) : tkG r (some w) = w :: tkG r none := by
  rcases h with rfl | ⟨r', rfl⟩
  · rfl
  · simp [tkG]
theorem stop_sp (r : List UInt8) : Stop (32 :: r) := .inr ⟨r, rfl⟩
theorem leaf_nb {k : Nat} (h : k < 12) : nbB (leafL.getD k []) = true ∧ leafL.getD k [] ≠ [] := by revert k; decide
theorem op_nb {k : Nat} (h : k < 7) : nbB (opL.getD k []) = true ∧ opL.getD k [] ≠ [] := by revert k; decide
theorem tk_tree : ∀ (t : GT), t.ok → ∀ r, Stop r → tkG (t.text ++ r) none = t.toks ++ tkG r none
  | .leaf k, h, r, hr => by
    obtain ⟨h1, h2⟩ := leaf_nb (k := k) h
    simp only [GT.text, GT.toks]
    rw [tk_open r h1 h2, tk_stop hr]
    rfl
  | .no t, h, r, hr => by
    simp only [GT.text, GT.toks]
    rw [List.append_assoc, List.append_assoc, tk_open _ (by decide) (by decide), List.singleton_append, tk_stop (stop_sp _)]
    simp only [tkG, if_true]
    rw [tk_tree t h r hr]
    rfl
  | .op k a b, h, r, hr => by
    obtain ⟨h1, h2⟩ := op_nb h.1
    simp only [GT.text, GT.toks]
    rw [show opL.getD k [] ++ [32] ++ a.text ++ [32] ++ b.text ++ r = opL.getD k [] ++ (32 :: (a.text ++ (32 :: (b.text ++ r)))) by simp, tk_open _ h1 h2, tk_stop (stop_sp _)]
    simp only [tkG, if_true]
    rw [tk_tree a h.2.1 _ (stop_sp _)]
    simp only [tkG, if_true]
    rw [tk_tree b h.2.2 r hr]
    simp
theorem toks_text {t : GT} (h : t.ok) : toksL t.text = t.toks := by
  have := tk_tree t h [] (.inl rfl)
  rw [List.append_nil] at this
  unfold toksL
  rw [this]
  simp [tkG]

/-! ### Check -/
/-- its names are among the names -/
def GT.named (names : List ByteArray) : GT → Prop
  | .leaf k => nameB (leafL.getD k []) = true → hasB names (leafL.getD k []) = true
  | .no t => t.named names
  | .op _ a b => a.named names ∧ b.named names
theorem leaf_kind {k : Nat} (h : k < 12) : kindI (leafL.getD k []) = 1 ∧ nameB (leafL.getD k []) = false ∨ kindI (leafL.getD k []) = 2 ∧ nameB (leafL.getD k []) = true := by revert k; decide +kernel
theorem op_kind {k : Nat} (h : k < 7) : kindI (opL.getD k []) = 4 ∧ nameB (opL.getD k []) = false := by revert k; decide +kernel
theorem not_kind : kindI notL = 3 ∧ nameB notL = false := by decide +kernel
theorem ck_tree (names : List ByteArray) (n : Nat) : ∀ (t : GT), t.ok → t.named names → ∀ (ws rest : List Wd) (k : List Int), ws.map (·.2) = t.toks → k ≠ [] → k.length + t.deep ≤ 17 → ckGo names n (ws ++ rest) k = ckGo names n rest (closeL k)
  | .leaf j, h, hn, ws, rest, k, hw, hk, hd => by
    simp only [GT.toks] at hw
    obtain ⟨x, rfl, hx⟩ := List.map_eq_singleton_iff.1 hw
    have h0 : ¬ k.length = 0 := fun e => hk (List.eq_nil_of_length_eq_zero e)
    simp only [GT.deep] at hd
    rw [List.singleton_append, ckGo_cons, hx]
    rcases leaf_kind (k := j) h with ⟨hk1, _⟩ | ⟨hk2, hq⟩
    · simp only [hk1]
      rw [if_neg (by omega), if_neg (by simp), if_neg (by omega), if_neg h0, if_neg (by omega), if_neg (by omega)]
    · have := hn hq
      simp only [hk2]
      rw [if_neg (by omega), if_neg (by rintro ⟨_, e⟩; rw [this] at e; cases e), if_neg (by omega), if_neg h0, if_neg (by omega), if_neg (by omega)]
  | .no t, h, hn, ws, rest, k, hw, hk, hd => by
    simp only [GT.toks] at hw
    obtain ⟨x, ws', rfl, hx, hw'⟩ := List.map_eq_cons_iff.1 hw
    have h0 : ¬ k.length = 0 := fun e => hk (List.eq_nil_of_length_eq_zero e)
    simp only [GT.deep] at hd
    rw [List.cons_append, ckGo_cons, hx]
    simp only [not_kind.1]
    rw [if_neg (by omega), if_neg (by simp), if_neg (by omega), if_neg h0, if_pos trivial, ck_tree names n t h hn ws' rest (1 :: k) hw' (by simp) (by simp; omega)]
    rfl
  | .op j a b, h, hn, ws, rest, k, hw, hk, hd => by
    simp only [GT.toks] at hw
    obtain ⟨x, ws', rfl, hx, hw'⟩ := List.map_eq_cons_iff.1 hw
    obtain ⟨wa, wb, rfl, ha, hb⟩ := List.map_eq_append_iff.1 hw'
    have h0 : ¬ k.length = 0 := fun e => hk (List.eq_nil_of_length_eq_zero e)
    simp only [GT.deep] at hd
    rw [List.cons_append, ckGo_cons, hx]
    simp only [(op_kind h.1).1]
    rw [if_neg (by omega), if_neg (by simp), if_neg (by omega), if_neg h0, if_neg (by omega), if_pos trivial, List.append_assoc,
      ck_tree names n a h.2.1 hn.1 wa (wb ++ rest) (2 :: k) ha (by simp) (by simp; omega)]
    show ckGo names n (wb ++ rest) (1 :: k) = _
    rw [ck_tree names n b h.2.2 hn.2 wb rest (1 :: k) hb (by simp) (by simp; omega)]
    rfl
/-- whatever the blanks: only the words count -/
theorem check_tree {names : List ByteArray} {s : List UInt8} {t : GT} (hs : s.length ≤ 120) (ht : toksL s = t.toks) (h : t.ok) (hn : t.named names) (hd : t.deep ≤ 16) : checkP names s = (0, 0) := by
  unfold checkP
  rw [if_neg (by omega)]
  have := ck_tree names s.length t h hn (wordsL s) [] [1] (by rw [toks_words, ht]) (by simp) (by simp; omega)
  rw [List.append_nil] at this
  rw [this]
  simp [closeL, ckGo]

/-! ### Eval -/
def GT.val (names : List ByteArray) (vals : List Int) : GT → Int
  | .leaf k => if kindI (leafL.getD k []) = 1 then numI (leafL.getD k []) else vals.getD (idxI names (leafL.getD k [])).toNat 0
  | .no t => trI (t.val names vals == 0)
  | .op k a b => appI (opL.getD k []) (a.val names vals) (b.val names vals)
theorem ev_tree (names : List ByteArray) (vals : List Int) : ∀ (t : GT), t.ok → ∀ (ws rest : List Wd), ws.map (·.2) = t.toks → evS names vals (ws ++ rest) = t.val names vals :: evS names vals rest
  | .leaf j, h, ws, rest, hw => by
    simp only [GT.toks] at hw
    obtain ⟨x, rfl, hx⟩ := List.map_eq_singleton_iff.1 hw
    rw [List.singleton_append]
    simp only [evS, hx, GT.val]
    rcases leaf_kind (k := j) h with ⟨hk1, _⟩ | ⟨hk2, hq⟩
    · rw [if_pos hk1, if_pos hk1]
    · rw [if_neg (by omega), if_pos hk2, if_neg (by omega)]
  | .no t, h, ws, rest, hw => by
    simp only [GT.toks] at hw
    obtain ⟨x, ws', rfl, hx, hw'⟩ := List.map_eq_cons_iff.1 hw
    rw [List.cons_append]
    simp only [evS, hx, GT.val, not_kind.1]
    rw [ev_tree names vals t h ws' rest hw']
    simp
  | .op j a b, h, ws, rest, hw => by
    simp only [GT.toks] at hw
    obtain ⟨x, ws', rfl, hx, hw'⟩ := List.map_eq_cons_iff.1 hw
    obtain ⟨wa, wb, rfl, ha, hb⟩ := List.map_eq_append_iff.1 hw'
    rw [List.cons_append, List.append_assoc]
    simp only [evS, hx, GT.val, (op_kind h.1).1]
    rw [ev_tree names vals a h.2.1 wa (wb ++ rest) ha, ev_tree names vals b h.2.2 wb rest hb]
    simp
theorem eval_tree {names : List ByteArray} {vals : List Int} {s : List UInt8} {t : GT} (hs : s.length ≤ 120) (ht : toksL s = t.toks) (h : t.ok) (hn : t.named names) (hd : t.deep ≤ 16) (hv : names.length ≤ vals.length) : evalP names vals s = (t.val names vals, 0) := by
  unfold evalP
  rw [check_tree hs ht h hn hd, if_neg (by simp), if_neg (by omega)]
  have := ev_tree names vals t h (wordsL s) [] (by rw [toks_words, ht])
  rw [List.append_nil] at this
  rw [this]
  rfl
/-! ### Uses -/
theorem uses_tree {s : List UInt8} {t : GT} (ht : toksL s = t.toks) : usesL s = Lib.compact ((t.toks.filter nameB).mergeSort fun x y => decide (x ≤ y)) := by
  unfold usesL namesW
  rw [toks_words, ht]
end Go.Proofs.YtkmncmceheggjaaDoor
