/- Chapter 12: what a guard is reckoned to. Plain. -/
import Derived.Test.YtkmncmceheggjaaDoorGe
import Derived.Lib.Atoi
namespace Go.Proofs.YtkmncmceheggjaaDoor
set_option linter.unusedVariables false
set_option linter.unusedSimpArgs false

/-- digits' number -/
def figN (acc : Nat) (l : List UInt8) : Nat := l.foldl (fun a c => a * 10 + (c.toNat - 48)) acc
theorem digit_fig {c : UInt8} (h : figB c = true) : Lib.digitVal c = some (c.toNat - 48) := by
  have h2 : 48 ≤ c.toNat ∧ c.toNat ≤ 57 := of_decide_eq_true h
  unfold Lib.digitVal
  rw [if_pos h2]
theorem decFrom_nil (acc : Nat) : Lib.decFrom acc [] = some acc := rfl
theorem decFrom_cons (acc : Nat) (c : UInt8) (l : List UInt8) {d : Nat} (h : Lib.digitVal c = some d) : Lib.decFrom acc (c :: l) = Lib.decFrom (acc * 10 + d) l := by
  show (match Lib.digitVal c with | some d => Lib.decFrom (acc * 10 + d) l | none => none) = _
  rw [h]
theorem figN_cons (acc : Nat) (c : UInt8) (l : List UInt8) : figN acc (c :: l) = figN (acc * 10 + (c.toNat - 48)) l := by unfold figN; rw [List.foldl_cons]
theorem decFrom_figs : ∀ (l : List UInt8) (acc : Nat), l.all figB = true → Lib.decFrom acc l = some (figN acc l)
  | [], acc, _ => decFrom_nil acc
  | c :: l, acc, h => by
    rw [List.all_cons, Bool.and_eq_true] at h
    rw [decFrom_cons acc c l (digit_fig h.1), figN_cons]
    exact decFrom_figs l _ h.2
theorem figN_bd (l : List UInt8) (h : l.all figB = true) : ∀ acc, figN acc l < (acc + 1) * 10 ^ l.length := by
  induction l with
  | nil => intro acc; simp [figN]
  | cons c l ih =>
    intro acc
    simp only [List.all_cons, Bool.and_eq_true, figB, decide_eq_true_eq] at h
    have := ih h.2 (acc * 10 + (c.toNat - 48))
    rw [figN_cons]; simp only [List.length_cons]
    have h2 : acc * 10 + (c.toNat - 48) + 1 ≤ (acc + 1) * 10 := by omega
    calc figN (acc * 10 + (c.toNat - 48)) l < (acc * 10 + (c.toNat - 48) + 1) * 10 ^ l.length := this
      _ ≤ ((acc + 1) * 10) * 10 ^ l.length := Nat.mul_le_mul_right _ h2
      _ = (acc + 1) * 10 ^ (l.length + 1) := by rw [Nat.pow_succ, Nat.mul_assoc, Nat.mul_comm 10]

/-- the number that a word is -/
def numI (s : List UInt8) : Int := if trimM s = s then (figN 0 s : Int) else -(figN 0 (trimM s) : Int)
theorem trimM_of (s : List UInt8) : (∃ l, s = 45 :: l ∧ trimM s = l) ∨ trimM s = s := by
  cases s with
  | nil => right; rfl
  | cons c l =>
    by_cases h : c = 45
    · left; exact ⟨l, by rw [h], by simp [trimM, h]⟩
    · right; simp [trimM, h]
theorem cons_ne {α : Type} (a : α) (l : List α) : ¬ l = a :: l := fun h => by have := congrArg List.length h; simp at this
theorem digB_parts {s : List UInt8} (h : digB s = true) : 1 ≤ (trimM s).length ∧ (trimM s).length ≤ 4 ∧ (trimM s).all figB = true := by
  simp only [digB, Bool.and_eq_true, decide_eq_true_eq] at h
  exact ⟨h.1.1, h.1.2, h.2⟩
theorem atoi_num {s : List UInt8} (h : digB s = true) : Lib.atoi s = some (numI s) ∧ s.length ≤ 5 ∧ -9999 ≤ numI s ∧ numI s ≤ 9999 := by
  obtain ⟨h1, h2, h3⟩ := digB_parts h
  have hb := figN_bd (trimM s) h3 0
  have hp : 10 ^ (trimM s).length ≤ 10 ^ 4 := Nat.pow_le_pow_right (by omega) h2
  rcases trimM_of s with ⟨l, rfl, ht⟩ | ht
  · rw [ht] at h1 h2 h3 hb hp
    have hne : ¬ trimM (45 :: l) = 45 :: l := by rw [ht]; exact cons_ne _ _
    have hd : Lib.decNat l = some (figN 0 l) := by
      unfold Lib.decNat
      rw [if_neg (by cases l <;> simp at h1 ⊢)]
      exact decFrom_figs _ 0 h3
    refine ⟨?_, by simp; omega, ?_, ?_⟩
    · unfold numI; rw [if_neg hne, ht]; simp [Lib.atoi, hd]
    · unfold numI; rw [if_neg hne, ht]; omega
    · unfold numI; rw [if_neg hne, ht]; omega
  · rw [ht] at h1 h2 h3 hb hp
    have hd : Lib.decNat s = some (figN 0 s) := by
      unfold Lib.decNat
      rw [if_neg (by cases s <;> simp at h1 ⊢)]
      exact decFrom_figs _ 0 h3
    refine ⟨?_, by omega, ?_, ?_⟩
    · unfold numI; rw [if_pos ht]
      cases s with
      | nil => simp at h1
      | cons c l =>
        simp only [List.all_cons, Bool.and_eq_true, figB, decide_eq_true_eq] at h3
        have e1 : (c == 45) = false := by
          apply Bool.eq_false_iff.mpr; intro h; have := eq_of_beq h; subst this; simp at h3
        have e2 : (c == 43) = false := by
          apply Bool.eq_false_iff.mpr; intro h; have := eq_of_beq h; subst this; simp at h3
        simp [Lib.atoi, e1, e2, hd]
    · unfold numI; rw [if_pos ht]; omega
    · unfold numI; rw [if_pos ht]; omega

/-- the stack behind the words from here on, read from behind; its top first -/
def evS (names : List ByteArray) (vals : List Int) : List Wd → List Int
  | [] => []
  | x :: l => if kindI x.2 = 1 then numI x.2 :: evS names vals l
    else if kindI x.2 = 2 then vals.getD (idxI names x.2).toNat 0 :: evS names vals l
    else if kindI x.2 = 3 then trI ((evS names vals l).headD 0 == 0) :: (evS names vals l).tail
    else appI x.2 ((evS names vals l).headD 0) ((evS names vals l).tail.headD 0) :: (evS names vals l).tail.tail
/-- no word on the way asks for what is not there -/
def okS (names : List ByteArray) (vals : List Int) : List Wd → Prop
  | [] => True
  | x :: l => okS names vals l ∧ kindI x.2 ≠ 0 ∧ (kindI x.2 = 2 → hasB names x.2 = true) ∧ (kindI x.2 = 3 → 1 ≤ (evS names vals l).length) ∧ (kindI x.2 = 4 → 2 ≤ (evS names vals l).length)

def sumL : List Int → Int
  | [] => 0
  | a :: k => a + sumL k
def need (k : List Int) : Int := if k = [] then 0 else sumL k - k.length + 1
theorem need_cons (a : Int) (k : List Int) : need (a :: k) = a + sumL k - k.length := by simp [need, sumL]; omega
theorem need_pos {k : List Int} (h : ∀ a ∈ k, 1 ≤ a ∧ a ≤ 2) : (k.length : Int) ≤ sumL k := by
  induction k with
  | nil => simp [sumL]
  | cons a k ih =>
    have h1 := ih fun b hb => h b (List.mem_cons_of_mem _ hb)
    have h2 := h a (by simp)
    simp [sumL]; omega
theorem need_close {k : List Int} (h : ∀ a ∈ k, 1 ≤ a ∧ a ≤ 2) (hk : k ≠ []) : need (closeL k) = need k - 1 := by
  induction k with
  | nil => exact absurd rfl hk
  | cons a k ih =>
    have h2 := h a (by simp)
    simp only [closeL]
    by_cases ha : 0 < a - 1
    · rw [if_pos ha, need_cons, need_cons]; omega
    · rw [if_neg ha]
      by_cases hke : k = []
      · subst hke; simp [closeL, need, sumL]; omega
      · rw [ih (fun b hb => h b (List.mem_cons_of_mem _ hb)) hke, need_cons]
        simp only [need, if_neg hke]; omega

theorem ck_ok (names : List ByteArray) (vals : List Int) (n : Nat) : ∀ (l : List Wd) (k : List Int), (∀ a ∈ k, 1 ≤ a ∧ a ≤ 2) → ckGo names n l k = (0, 0) → okS names vals l ∧ ((evS names vals l).length : Int) = need k
  | [], k, hk, h => by
    simp only [ckGo] at h
    split at h
    · simp at h
    · rename_i h0
      have : k = [] := List.eq_nil_of_length_eq_zero (by omega)
      subst this
      exact ⟨trivial, by simp [evS, need]⟩
  | x :: l, k, hk, h => by
    rw [ckGo_cons] at h
    by_cases h0 : kindI x.2 = 0
    · simp [h0] at h
    rw [if_neg h0] at h
    by_cases h1 : kindI x.2 = 2 ∧ hasB names x.2 = false
    · rw [if_pos h1] at h; simp at h
    rw [if_neg h1] at h
    by_cases h2 : 17 < k.length
    · rw [if_pos h2] at h; simp at h
    rw [if_neg h2] at h
    by_cases h3 : k.length = 0
    · rw [if_pos h3] at h; simp at h
    rw [if_neg h3] at h
    have hne : k ≠ [] := fun e => h3 (by rw [e]; rfl)
    have hnp := need_pos hk
    have hnk : need k = sumL k - k.length + 1 := by simp [need, hne]
    by_cases h4 : kindI x.2 = 3
    · rw [if_pos h4] at h
      obtain ⟨i1, i2⟩ := ck_ok names vals n l (1 :: k) (fun a ha => (List.mem_cons.1 ha).elim (fun e => by omega) (hk a)) h
      rw [need_cons] at i2
      refine ⟨⟨i1, h0, fun e => (by omega), fun _ => (by omega), fun e => (by omega)⟩, ?_⟩
      simp only [evS, h4]; simp; omega
    rw [if_neg h4] at h
    by_cases h5 : kindI x.2 = 4
    · rw [if_pos h5] at h
      obtain ⟨i1, i2⟩ := ck_ok names vals n l (2 :: k) (fun a ha => (List.mem_cons.1 ha).elim (fun e => by omega) (hk a)) h
      rw [need_cons] at i2
      refine ⟨⟨i1, h0, fun e => (by omega), fun e => (by omega), fun _ => (by omega)⟩, ?_⟩
      simp only [evS, h5]; simp; omega
    rw [if_neg h5] at h
    obtain ⟨i1, i2⟩ := ck_ok names vals n l (closeL k) (closeL_bd hk) h
    rw [need_close hk hne] at i2
    refine ⟨⟨i1, h0, fun e => ?_, fun e => absurd e h4, fun e => absurd e h5⟩, ?_⟩
    · cases hb : hasB names x.2
      · exact absurd ⟨e, hb⟩ h1
      · rfl
    · have hk12 : kindI x.2 = 1 ∨ kindI x.2 = 2 := by rcases kindI_of x.2 with h | h | h | h | h <;> omega
      rcases hk12 with hq | hq
      · simp only [evS, hq]; simp; omega
      · simp only [evS, hq]; simp; omega

/-- what Eval tells -/
def evalP (names : List ByteArray) (vals : List Int) (s : List UInt8) : Int × Int :=
  if (checkP names s).1 ≠ 0 then (0, (checkP names s).1) else if vals.length < names.length then (0, 1) else ((evS names vals (wordsL s)).headD 0, 0)

theorem ckGo_at0 (names : List ByteArray) (n : Nat) : ∀ (l : List Wd) (k : List Int), (ckGo names n l k).1 = 0 → ckGo names n l k = (0, 0)
  | [], k, h => by simp only [ckGo] at h ⊢; split at h <;> simp_all
  | x :: l, k, h => by
    rw [ckGo_cons] at h ⊢
    by_cases h0 : kindI x.2 = 0
    · rw [if_pos h0] at h; cases h
    rw [if_neg h0] at h ⊢
    by_cases h1 : kindI x.2 = 2 ∧ hasB names x.2 = false
    · rw [if_pos h1] at h; cases h
    rw [if_neg h1] at h ⊢
    by_cases h2 : 17 < k.length
    · rw [if_pos h2] at h; cases h
    rw [if_neg h2] at h ⊢
    by_cases h3 : k.length = 0
    · rw [if_pos h3] at h; cases h
    rw [if_neg h3] at h ⊢
    by_cases h4 : kindI x.2 = 3
    · rw [if_pos h4] at h ⊢; exact ckGo_at0 names n _ _ h
    rw [if_neg h4] at h ⊢
    by_cases h5 : kindI x.2 = 4
    · rw [if_pos h5] at h ⊢; exact ckGo_at0 names n _ _ h
    rw [if_neg h5] at h ⊢; exact ckGo_at0 names n _ _ h
theorem check_words {names : List ByteArray} {s : List UInt8} (h : (checkP names s).1 = 0) (vals : List Int) : okS names vals (wordsL s) ∧ (evS names vals (wordsL s)).length = 1 := by
  unfold checkP at h
  split at h
  · cases h
  · obtain ⟨h1, h2⟩ := ck_ok names vals s.length (wordsL s) [1] (by simp) (ckGo_at0 _ _ _ _ h)
    exact ⟨h1, by simp [need, sumL] at h2; omega⟩
theorem okS_drop {names : List ByteArray} {vals : List Int} : ∀ {l : List Wd} (k : Nat), okS names vals l → okS names vals (l.drop k)
  | _, 0, h => h
  | [], k + 1, _ => by simp [okS]
  | x :: l, k + 1, h => okS_drop k h.1

theorem evS_len (names : List ByteArray) (vals : List Int) : ∀ l : List Wd, (evS names vals l).length ≤ l.length + 1
  | [] => by simp [evS]
  | x :: l => by
    have := evS_len names vals l
    simp only [evS]
    repeat' split
    all_goals simp
    all_goals omega

end Go.Proofs.YtkmncmceheggjaaDoor
