/- GuardNames: plain. -/
import Derived.Test.YtkmncmceheggjaaDoorGw
set_option linter.unusedVariables false
set_option linter.unusedSimpArgs false
namespace Go.Proofs.YtkmncmceheggjaaDoor

def addL : List UInt8 := [97, 100, 100, 32]
def oneL : List UInt8 := [32, 49]
theorem low_ne {c : UInt8} (h : lowB c = true) : c ≠ 32 := by
  have h2 : 97 ≤ c.toNat ∧ c.toNat ≤ 122 := of_decide_eq_true h
  rintro rfl
  simp at h2
theorem wgo_low : ∀ (t : List UInt8) (r : List UInt8) (i : Nat) (x : Wd), t.all lowB = true → wgo (t ++ r) i (some x) = wgo r (i + t.length) (some (x.1, x.2 ++ t))
  | [], r, i, x, _ => by simp
  | c :: t, r, i, x, h => by
    rw [List.all_cons, Bool.and_eq_true] at h
    rw [List.cons_append]
    show (if c = 32 then x :: wgo (t ++ r) (i + 1) none else wgo (t ++ r) (i + 1) (some (x.1, x.2 ++ [c]))) = _
    rw [if_neg (low_ne h.1), wgo_low t r (i + 1) _ h.2, List.length_cons, List.append_assoc, List.singleton_append]
    congr 1
    omega
theorem wgo_open {t r : List UInt8} {i : Nat} (h : t.all lowB = true) (h0 : t ≠ []) : wgo (t ++ r) i none = wgo r (i + t.length) (some (i, t)) := by
  cases t with
  | nil => exact absurd rfl h0
  | cons c t =>
    rw [List.all_cons, Bool.and_eq_true] at h
    rw [List.cons_append]
    show (if c = 32 then wgo (t ++ r) (i + 1) none else wgo (t ++ r) (i + 1) (some (i, [c]))) = _
    rw [if_neg (low_ne h.1), wgo_low t r (i + 1) _ h.2, List.length_cons]
    show wgo r (i + 1 + t.length) (some (i, [c] ++ t)) = _
    rw [show i + 1 + t.length = i + (t.length + 1) by omega]
    rfl
theorem words_t {t : List UInt8} (h : t.all lowB = true) (h0 : t ≠ []) : wordsL t = [(0, t)] := by
  unfold wordsL
  have := wgo_open (r := []) (i := 0) h h0
  rw [List.append_nil] at this
  rw [this]
  rfl
theorem words_s {t : List UInt8} (h : t.all lowB = true) (h0 : t ≠ []) : wordsL (addL ++ t ++ oneL) = [(0, [97, 100, 100]), (4, t), (5 + t.length, [49])] := by
  unfold wordsL addL oneL
  rw [List.append_assoc]
  show (0, [97, 100, 100]) :: wgo (t ++ [32, 49]) 4 none = _
  rw [wgo_open h h0]
  show (0, [97, 100, 100]) :: (4, t) :: wgo [49] (4 + t.length + 1) none = _
  show (0, [97, 100, 100]) :: (4, t) :: [(4 + t.length + 1, [49])] = _
  rw [show 4 + t.length + 1 = 5 + t.length by omega]
theorem low_trim {t : List UInt8} (h : t.all lowB = true) : trimM t = t := by
  cases t with
  | nil => rfl
  | cons c t =>
    rw [List.all_cons, Bool.and_eq_true] at h
    have h2 : 97 ≤ c.toNat ∧ c.toNat ≤ 122 := of_decide_eq_true h.1
    have : c ≠ 45 := by rintro rfl; simp at h2
    simp [trimM, this]
theorem low_dig {t : List UInt8} (h : t.all lowB = true) : digB t = false := by
  unfold digB
  rw [low_trim h]
  cases t with
  | nil => rfl
  | cons c t =>
    rw [List.all_cons, Bool.and_eq_true] at h
    have h2 : 97 ≤ c.toNat ∧ c.toNat ≤ 122 := of_decide_eq_true h.1
    have : figB c = false := by
      unfold figB
      exact decide_eq_false (by omega)
    rw [List.all_cons, this]
    simp
/-- no operation, no word of types -/
theorem res_of {t : List UInt8} (h : resB t = false) : t ≠ [110, 111, 116] ∧ twoB t = false := by
  refine ⟨fun e => by rw [e] at h; simp [resB] at h, ?_⟩
  cases hq : twoB t with
  | false => rfl
  | true => rw [two_res hq] at h; cases h
theorem kind_t {t : List UInt8} (h : t.all lowB = true) (hr : resB t = false) : kindI t = if nameB t = true then 2 else 0 := by
  unfold kindI
  have h1 := (res_of hr).1
  have h2 := (res_of hr).2
  simp [low_dig h, h1, h2]
theorem name_t {t : List UInt8} (h : t.all lowB = true) (hr : resB t = false) : nameB t = decide (1 ≤ t.length ∧ t.length ≤ 12) := by
  unfold nameB
  rw [h, hr]
  simp
theorem check_t {t : List UInt8} {names : List ByteArray} (h : t.all lowB = true) (hr : resB t = false) (h0 : t ≠ []) (hl : t.length ≤ 14) (hn : hasB names t = true) : ((checkP names t).1 = 0 ↔ nameB t = true) := by
  unfold checkP
  rw [if_neg (by omega), words_t h h0, ckGo_cons, kind_t h hr]
  cases hq : nameB t with
  | false => simp
  | true =>
    simp only [if_true]
    rw [if_neg (by omega), if_neg (by simp [hn]), if_neg (by simp), if_neg (by simp), if_neg (by omega), if_neg (by omega)]
    simp [closeL, ckGo]
theorem idx_t (t : List UInt8) : idxI [S t] t = 0 := by
  refine idxI_at (k := 0) (by simp) (fun j hj => absurd hj (by omega)) ?_
  simp [S_toList]
theorem kind_add : kindI [97, 100, 100] = 4 := by decide +kernel
theorem kind_one : kindI [49] = 1 := by decide +kernel
theorem num_one : numI [49] = 1 := by decide +kernel
theorem app_add : appI [97, 100, 100] 41 1 = 42 := by decide +kernel
theorem eval_t {t : List UInt8} (h : t.all lowB = true) (hr : resB t = false) (h0 : t ≠ []) (hq : nameB t = true) : evalP [S t] [41] (addL ++ t ++ oneL) = (42, 0) := by
  have hl : t.length ≤ 12 := by rw [name_t h hr] at hq; exact (of_decide_eq_true hq).2
  have hk : kindI t = 2 := by rw [kind_t h hr, hq]; rfl
  have hix := idx_t t
  have hhas : hasB [S t] t = true := by unfold hasB; rw [hix]; rfl
  have hc : checkP [S t] (addL ++ t ++ oneL) = (0, 0) := by
    unfold checkP
    rw [if_neg (by simp [addL, oneL]; omega), words_s h h0]
    rw [ckGo_cons, kind_add]
    simp only []
    rw [if_neg (by omega), if_neg (by simp), if_neg (by simp), if_neg (by simp), if_neg (by omega), if_pos trivial]
    rw [ckGo_cons]
    simp only [hk]
    rw [if_neg (by omega), if_neg (by simp [hhas]), if_neg (by simp), if_neg (by simp), if_neg (by omega), if_neg (by omega)]
    rw [ckGo_cons]
    simp only [kind_one]
    rw [if_neg (by omega), if_neg (by simp), if_neg (by simp [closeL]), if_neg (by simp [closeL]), if_neg (by omega), if_neg (by omega)]
    simp [closeL, ckGo]
  unfold evalP
  rw [hc, if_neg (by simp), if_neg (by simp), words_s h h0]
  simp only [evS, kind_add, hk, kind_one, num_one, hix]
  simp [app_add]
theorem uses_t {t : List UInt8} (h : t.all lowB = true) (h0 : t ≠ []) (hq : nameB t = true) : usesL (addL ++ t ++ oneL) = [t] := by
  unfold usesL
  rw [words_s h h0]
  have e : namesW [(0, [97, 100, 100]), (4, t), (5 + t.length, [49])] = [t] := by
    unfold namesW
    have h1 : nameB [97, 100, 100] = false := by decide +kernel
    have h2 : nameB [49] = false := by decide +kernel
    simp [h1, h2, hq]
  rw [e, List.mergeSort_singleton]
  rfl
end Go.Proofs.YtkmncmceheggjaaDoor
