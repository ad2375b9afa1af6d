/- Chapter 11: contracts of the small functions that only compute. -/
import Derived.Test.YtjokjbihkejagaaRows
import Derived.WalkKit
import Derived.WalkSpells
import Derived.WalkLawsBesides
import Derived.Deep.QuietTactic
import Derived.BigQuiet
import Derived.Lib.Hide
import Derived.Deep.RegionWith
namespace Go.Proofs.Ytjokjbihkejagaa
open Go.RowKit

theorem ret_int {k : IntKind} {a b : Int} (h : a = b) : Ending.returned (.int k a) = .returned (.int k b) := by rw [h]

theorem tmod_neg {n m : Int} (hn : n < 0) (hm : 0 < m) : -m < n.tmod m ∧ n.tmod m ≤ 0 ∧ (n.tmod m < 0 → n % m = n.tmod m + m) ∧ (¬ n.tmod m < 0 → n % m = n.tmod m) := by
  have h0 := Int.emod_nonneg n (show m ≠ 0 by omega)
  have h1 := Int.emod_lt_of_pos n hm
  have e := Int.tmod_eq_emod (a := n) (b := m)
  rw [e]
  by_cases hd : 0 ≤ n ∨ m ∣ n
  · rw [if_pos hd]
    have : n % m = 0 := by
      rcases hd with hd | hd
      · omega
      · exact Int.emod_eq_zero_of_dvd hd
    omega
  · rw [if_neg hd]
    have : (m.natAbs : Int) = m := by omega
    rw [this]
    have : n % m ≠ 0 := fun h => hd (.inr (Int.dvd_of_emod_eq_zero h))
    omega

set_option maxHeartbeats 400000 in
theorem within_any (n lo hi : Int) (w : World) (h1 : -9223372036854775808 ≤ n) (h2 : n ≤ 9223372036854775807) (h3 : 0 ≤ lo) (h4 : lo ≤ hi) (h5 : hi ≤ 1099511627776) :
    Calls Try.prog 10 #[.int .i64 n, .int .i64 lo, .int .i64 hi] w fun e w' => e = .returned (.int .i64 (lo + n % (hi - lo + 1))) ∧ w = w' := by
  by_cases hn : 0 ≤ n
  · have hm : (n % (hi - lo + 1)) < hi - lo + 1 := Int.emod_lt_of_pos _ (by omega)
    have hm0 : 0 ≤ (n % (hi - lo + 1)) := Int.emod_nonneg _ (by omega)
    go_enter Try.func10, Try.ntmps10
    go_wp2
    go_ret
    exact ⟨rfl, rfl⟩
  · obtain ⟨ha, hb, hc, hd⟩ := tmod_neg (n := n) (m := hi - lo + 1) (by omega) (by omega)
    have HC := Lib.hid hc; clear hc
    have HD := Lib.hid hd; clear hd
    by_cases hz : n.tmod (hi - lo + 1) < 0
    · go_enter Try.func10, Try.ntmps10
      go_wp2
      go_ret
      exact ⟨ret_int (by rw [HC.out hz]; omega), rfl⟩
    · go_enter Try.func10, Try.ntmps10
      go_wp2
      go_ret
      exact ⟨ret_int (by rw [HD.out hz]), rfl⟩

/-- may these times be? -/
def okT (n : Int) : Bool := decide (0 ≤ n ∧ n ≤ 1073741824)

theorem drifts_yes (n : Int) (w : World) (h : 0 ≤ n) (h' : n ≤ 500) :
    Calls Try.prog 29 #[.int .i64 n] w fun e w' => e = .returned (.bool true) ∧ w = w' := by
  go_enter Try.func29, Try.ntmps29
  go_wp2
  go_ret
  exact ⟨rfl, rfl⟩

theorem drifts_no (n : Int) (w : World) (h : n < 0 ∨ 500 < n) :
    Calls Try.prog 29 #[.int .i64 n] w fun e w' => e = .returned (.bool false) ∧ w = w' := by
  rcases h with h | h
  · go_enter Try.func29, Try.ntmps29
    go_wp2
    go_ret
    exact ⟨rfl, rfl⟩
  · have h0 : 0 ≤ n := by omega
    have hf : decide (n ≤ 500) = false := by simp; omega
    go_enter Try.func29, Try.ntmps29
    go_wp2
    go_ret
    exact ⟨rfl, rfl⟩

theorem small_yes (n : Int) (w : World) (h : 0 ≤ n) (h' : n ≤ 1073741824) :
    Calls Try.prog 30 #[.int .i64 n] w fun e w' => e = .returned (.bool true) ∧ w = w' := by
  go_enter Try.func30, Try.ntmps30
  go_wp2
  go_ret
  exact ⟨rfl, rfl⟩

theorem small_no (n : Int) (w : World) (h : n < 0 ∨ 1073741824 < n) :
    Calls Try.prog 30 #[.int .i64 n] w fun e w' => e = .returned (.bool false) ∧ w = w' := by
  rcases h with h | h
  · go_enter Try.func30, Try.ntmps30
    go_wp2
    go_ret
    exact ⟨rfl, rfl⟩
  · have h0 : 0 ≤ n := by omega
    have hf : decide (n ≤ 1073741824) = false := by simp; omega
    go_enter Try.func30, Try.ntmps30
    go_wp2
    go_ret
    exact ⟨rfl, rfl⟩

set_option maxHeartbeats 400000 in
theorem fine_yes (g : Nat) (a b : Int) (w : World) (h0 : w.cell? ⟨g, 0, none⟩ = some (.int .i64 a)) (h1 : w.cell? ⟨g, 1, none⟩ = some (.int .i64 b))
    (ha : 0 ≤ a) (ha' : a ≤ 1073741824) (hb : 0 ≤ b) (hb' : b ≤ 1073741824) :
    Calls Try.prog 28 #[.slice (some ⟨g, 0, none⟩) 2 2] w fun e w' => e = .returned (.bool true) ∧ w = w' := by
  go_enter Try.func28, Try.ntmps28
  go_wp2
  go_loop [7] (fun i => ∃ k : Nat, k ≤ 2 ∧ i = .int .i64 k) (fun i => 2 - (intOf i).toNat)
  case atStart => exact ⟨0, by omega, rfl⟩
  case round =>
    obtain ⟨k, hk, rfl⟩ := hrel
    obtain h | h | h : k = 0 ∨ k = 1 ∨ k = 2 := by omega
    · subst h
      go_wp2
      go_round
      case rel => exact ⟨1, by omega, rfl⟩
      case measure => simp [intOf]
    · subst h
      go_wp2
      go_round
      case rel => exact ⟨2, by omega, rfl⟩
      case measure => simp [intOf]
    · subst h
      go_wp2
      go_ret
      exact ⟨rfl, rfl⟩

set_option maxHeartbeats 400000 in
theorem fine_no (g : Nat) (a b : Int) (w : World) (h0 : w.cell? ⟨g, 0, none⟩ = some (.int .i64 a)) (h1 : w.cell? ⟨g, 1, none⟩ = some (.int .i64 b))
    (h : (a < 0 ∨ 1073741824 < a) ∨ (b < 0 ∨ 1073741824 < b)) :
    Calls Try.prog 28 #[.slice (some ⟨g, 0, none⟩) 2 2] w fun e w' => e = .returned (.bool false) ∧ w = w' := by
  go_enter Try.func28, Try.ntmps28
  go_wp2
  go_loop [7] (fun i => ∃ k : Nat, k ≤ 1 ∧ i = .int .i64 k ∧ (k = 1 → 0 ≤ a ∧ a ≤ 1073741824)) (fun i => 2 - (intOf i).toNat)
  case atStart => exact ⟨0, by omega, rfl, by omega⟩
  case round =>
    obtain ⟨k, hk, rfl, hka⟩ := hrel
    obtain h | h : k = 0 ∨ k = 1 := by omega
    · subst h
      by_cases ha : 0 ≤ a ∧ a ≤ 1073741824
      · obtain ⟨ha, ha'⟩ := ha
        go_wp2
        go_round
        case rel => exact ⟨1, by omega, rfl, fun _ => ⟨ha, ha'⟩⟩
        case measure => simp [intOf]
      · by_cases h0 : 0 ≤ a
        · have hf : decide (1073741824 < a) = true := by simp; omega
          go_wp2
          go_ret
          exact ⟨rfl, rfl⟩
        · go_wp2
          go_ret
          exact ⟨rfl, rfl⟩
    · subst h
      obtain ⟨ha, ha'⟩ := hka rfl
      clear hka
      by_cases h0 : 0 ≤ b
      · have hf : decide (1073741824 < b) = true := by simp; omega
        go_wp2
        go_ret
        exact ⟨rfl, rfl⟩
      · go_wp2
        go_ret
        exact ⟨rfl, rfl⟩

theorem hold_math {l r : Int} (hl : 0 ≤ l) (hl' : l ≤ 1073741824) (hr : 0 ≤ r) (hr' : r ≤ 500) :
    0 ≤ l * (1000 - r) ∧ l * (1000 - r) ≤ 1073741824000 ∧ 0 ≤ l * (1000 - r) / (1000 + r) ∧ l * (1000 - r) / (1000 + r) ≤ 1073741824000 := by
  have h1 : 0 ≤ l * (1000 - r) := Int.mul_nonneg hl (by omega)
  have h2 : l * (1000 - r) ≤ 1073741824 * 1000 := Int.mul_le_mul hl' (by omega) (by omega) (by omega)
  have h3 : l * (1000 - r) / (1000 + r) ≤ l * (1000 - r) := Int.ediv_le_self _ h1
  exact ⟨h1, by omega, Int.ediv_nonneg h1 (by omega), by omega⟩

set_option maxHeartbeats 400000 in
theorem hold_yes (a l r : Int) (w : World) (ha : 0 ≤ a) (ha' : a ≤ 1073741824) (hl : 0 ≤ l) (hl' : l ≤ 1073741824) (hr : 0 ≤ r) (hr' : r ≤ 500) :
    Calls Try.prog 11 #[.int .i64 a, .int .i64 l, .int .i64 r] w fun e w' => e = .returned (.tuple #[.int .i64 (a + l * (1000 - r) / (1000 + r)), .int .i64 0]) ∧ Below w.heap.size w w' := by
  obtain ⟨m1, m2, m3, m4⟩ := hold_math hl hl' hr hr'
  go_enter Try.func11, Try.ntmps11
  go_wp2_with (first
    | (go_at_call 28; refine (fine_yes _ _ _ _ (by simp) (by simp) ha ha' hl hl').mono ?_; rintro e w' ⟨rfl, rfl⟩)
    | (go_at_call 29; refine (drifts_yes _ _ hr hr').mono ?_; rintro e w' ⟨rfl, rfl⟩))
  go_ret2
  exact ⟨rfl, (Below.refl _ _).alloc (Nat.le_refl _) _⟩

set_option maxHeartbeats 400000 in
theorem hold_no (a l r : Int) (w : World) (h : (a < 0 ∨ 1073741824 < a) ∨ (l < 0 ∨ 1073741824 < l) ∨ (r < 0 ∨ 500 < r)) :
    Calls Try.prog 11 #[.int .i64 a, .int .i64 l, .int .i64 r] w fun e w' => e = .returned (.tuple #[.int .i64 0, .int .i64 1]) ∧ Below w.heap.size w w' := by
  by_cases hf : (a < 0 ∨ 1073741824 < a) ∨ (l < 0 ∨ 1073741824 < l)
  · have HF := Lib.hid hf; clear hf
    clear h
    go_enter Try.func11, Try.ntmps11
    go_wp2_with (first
      | (go_at_call 28; refine (fine_no _ _ _ _ (by simp) (by simp) HF.out).mono ?_; rintro e w' ⟨rfl, rfl⟩))
    go_ret2
    exact ⟨rfl, (Below.refl _ _).alloc (Nat.le_refl _) _⟩
  · obtain ⟨ha, ha', hl, hl', hr⟩ : 0 ≤ a ∧ a ≤ 1073741824 ∧ 0 ≤ l ∧ l ≤ 1073741824 ∧ (r < 0 ∨ 500 < r) := by omega
    have HF := Lib.hid hr; clear hr
    clear h hf
    go_enter Try.func11, Try.ntmps11
    go_wp2_with (first
      | (go_at_call 28; refine (fine_yes _ _ _ _ (by simp) (by simp) ha ha' hl hl').mono ?_; rintro e w' ⟨rfl, rfl⟩)
      | (go_at_call 29; refine (drifts_no _ _ HF.out).mono ?_; rintro e w' ⟨rfl, rfl⟩))
    go_ret2
    exact ⟨rfl, (Below.refl _ _).alloc (Nat.le_refl _) _⟩

set_option maxHeartbeats 400000 in
theorem bar_yes (a l : Int) (w : World) (ha : 0 ≤ a) (ha' : a ≤ 1073741824) (hl : 0 ≤ l) (hl' : l ≤ 1073741824) :
    Calls Try.prog 23 #[.int .i64 a, .int .i64 l] w fun e w' => e = .returned (.tuple #[.int .i64 (a + l), .int .i64 0]) ∧ Below w.heap.size w w' := by
  go_enter Try.func23, Try.ntmps23
  go_wp2_with (first
    | (go_at_call 28; refine (fine_yes _ _ _ _ (by simp) (by simp) ha ha' hl hl').mono ?_; rintro e w' ⟨rfl, rfl⟩))
  go_ret2
  exact ⟨rfl, (Below.refl _ _).alloc (Nat.le_refl _) _⟩

set_option maxHeartbeats 400000 in
theorem bar_no (a l : Int) (w : World) (h : (a < 0 ∨ 1073741824 < a) ∨ (l < 0 ∨ 1073741824 < l)) :
    Calls Try.prog 23 #[.int .i64 a, .int .i64 l] w fun e w' => e = .returned (.tuple #[.int .i64 0, .int .i64 1]) ∧ Below w.heap.size w w' := by
  have HF := Lib.hid h; clear h
  go_enter Try.func23, Try.ntmps23
  go_wp2_with (first
    | (go_at_call 28; refine (fine_no _ _ _ _ (by simp) (by simp) HF.out).mono ?_; rintro e w' ⟨rfl, rfl⟩))
  go_ret2
  exact ⟨rfl, (Below.refl _ _).alloc (Nat.le_refl _) _⟩

set_option maxHeartbeats 400000 in
theorem rhold_yes (a l r : Int) (w : World) (ha : 0 ≤ a) (ha' : a ≤ 1073741824) (hl : 0 ≤ l) (hl' : l ≤ 1073741824) (hr : 0 ≤ r) (hr' : r ≤ 500) :
    Calls Try.prog 22 #[.int .i64 a, .int .i64 l, .int .i64 r] w fun e w' => e = .returned (.tuple #[.int .i64 (a + l * (1000 - r) / (1000 + r)), .int .i64 0]) ∧ w = w' := by
  obtain ⟨m1, m2, m3, m4⟩ := hold_math hl hl' hr hr'
  go_enter Try.func22, Try.ntmps22
  go_wp2_with (first
    | (go_at_call_of 30 (a); refine (small_yes a _ ha ha').mono ?_; rintro e w' ⟨rfl, rfl⟩)
    | (go_at_call_of 30 (l); refine (small_yes l _ hl hl').mono ?_; rintro e w' ⟨rfl, rfl⟩))
  go_ret2
  exact ⟨rfl, rfl⟩

end Go.Proofs.Ytjokjbihkejagaa
