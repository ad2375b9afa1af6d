/- Chapter 11: the walk of LeaseSafe. -/
import Derived.Test.YtjokjbihkejagaaLc
namespace Go.Proofs.Ytjokjbihkejagaa
open Go.RowKit

theorem within_bd (n : Int) {lo hi : Int} (h : lo ≤ hi) : lo ≤ lo + n % (hi - lo + 1) ∧ lo + n % (hi - lo + 1) ≤ hi := by
  have h0 := Int.emod_nonneg n (show hi - lo + 1 ≠ 0 by omega)
  have h1 := Int.emod_lt_of_pos n (show 0 < hi - lo + 1 by omega)
  omega

theorem mul_bd {a b : Int} (A B : Int) (ha : 0 ≤ a) (ha' : a ≤ A) (hb : 0 ≤ b) (hb' : b ≤ B) : 0 ≤ a * b ∧ a * b ≤ A * B :=
  ⟨Int.mul_nonneg ha hb, Int.mul_le_mul ha' hb' hb (by omega)⟩

/-- The holder's clock has not come to the end: so the granter's has not. -/
theorem safe_math {rho one two asked later length now : Int} (r0 : 0 ≤ rho) (r1 : rho ≤ 500) (o0 : 1000 - rho ≤ one) (t1 : two ≤ 1000 + rho) (t0 : 0 ≤ two)
    (al : asked ≤ later) (ln : later ≤ now) (h : now * one < asked * one + length * (1000 - rho) / (1000 + rho)) : now * two < later * two + length := by
  have e1 : (now - asked) * one < length * (1000 - rho) / (1000 + rho) := by rw [Int.sub_mul]; omega
  have e2 : ((now - asked) * one + 1) * (1000 + rho) ≤ length * (1000 - rho) := by
    have := Int.mul_le_of_le_ediv (show 0 < 1000 + rho by omega) (show (now - asked) * one + 1 ≤ length * (1000 - rho) / (1000 + rho) by omega)
    exact this
  have e3 : (now - asked) * (1000 - rho) ≤ (now - asked) * one := Int.mul_le_mul_of_nonneg_left o0 (by omega)
  have e4 : (now - asked) * (1000 - rho) * (1000 + rho) ≤ (now - asked) * one * (1000 + rho) := Int.mul_le_mul_of_nonneg_right e3 (by omega)
  have e5 : (now - asked) * (1000 + rho) * (1000 - rho) < length * (1000 - rho) := by
    have : (now - asked) * (1000 + rho) * (1000 - rho) = (now - asked) * (1000 - rho) * (1000 + rho) := by
      rw [Int.mul_assoc, Int.mul_comm (1000 + rho), ← Int.mul_assoc]
    rw [this]
    rw [Int.add_mul, Int.one_mul] at e2
    omega
  have e6 : (now - asked) * (1000 + rho) < length := Int.lt_of_mul_lt_mul_right e5 (by omega)
  have e7 : (now - later) * two ≤ (now - asked) * two := Int.mul_le_mul_of_nonneg_right (by omega) t0
  have e8 : (now - asked) * two ≤ (now - asked) * (1000 + rho) := Int.mul_le_mul_of_nonneg_left t1 (by omega)
  have e9 : (now - later) * two = now * two - later * two := Int.sub_mul ..
  omega

theorem wf_bd {a : Int} (h : (Lit.int .i64 a).wf = true) : -9223372036854775808 ≤ a ∧ a ≤ 9223372036854775807 := by
  simpa [Lit.wf, IntKind.min, IntKind.signed, IntKind.bits] using h

set_option maxHeartbeats 1000000 in
theorem leaseSafe_walk (a0 a1 a2 a3 a4 a5 a6 : Int) (w0 : (Lit.int .i64 a0).wf = true) (w1 : (Lit.int .i64 a1).wf = true) (w2 : (Lit.int .i64 a2).wf = true) (w3 : (Lit.int .i64 a3).wf = true) (w4 : (Lit.int .i64 a4).wf = true) (w5 : (Lit.int .i64 a5).wf = true) (w6 : (Lit.int .i64 a6).wf = true) (w : World) :
    Calls Try.prog 3 #[.int .i64 a0, .int .i64 a1, .int .i64 a2, .int .i64 a3, .int .i64 a4, .int .i64 a5, .int .i64 a6] w fun e w' => e = .returned (.bool true) ∧ Below w.heap.size w w' := by
  obtain ⟨l0, u0⟩ := wf_bd w0
  obtain ⟨l1, u1⟩ := wf_bd w1
  obtain ⟨l2, u2⟩ := wf_bd w2
  obtain ⟨l3, u3⟩ := wf_bd w3
  obtain ⟨l4, u4⟩ := wf_bd w4
  obtain ⟨l5, u5⟩ := wf_bd w5
  obtain ⟨l6, u6⟩ := wf_bd w6
  clear w0 w1 w2 w3 w4 w5 w6
  go_enter Try.func3, Try.ntmps3
  go_wp2_with (fail)
  refine (within_any a0 _ _ _ l0 u0 (by omega) (by omega) (by omega)).mono ?_
  obtain ⟨b0, b1⟩ := within_bd a0 (show (0 : Int) ≤ 500 by omega)
  generalize (0 : Int) + a0 % (500 - 0 + 1) = rho at *
  rintro e w' ⟨rfl, rfl⟩
  go_wp2_with (fail)
  refine (within_any a1 _ _ _ l1 u1 (by omega) (by omega) (by omega)).mono ?_
  obtain ⟨c0, c1⟩ := within_bd a1 (show (0 : Int) ≤ 2 * rho by omega)
  generalize (0 : Int) + a1 % (2 * rho - 0 + 1) = one at *
  rintro e w' ⟨rfl, rfl⟩
  go_wp2_with (fail)
  refine (within_any a2 _ _ _ l2 u2 (by omega) (by omega) (by omega)).mono ?_
  obtain ⟨d0, d1⟩ := within_bd a2 (show (0 : Int) ≤ 2 * rho by omega)
  generalize (0 : Int) + a2 % (2 * rho - 0 + 1) = two at *
  rintro e w' ⟨rfl, rfl⟩
  go_wp2_with (fail)
  refine (within_any a3 _ _ _ l3 u3 (by omega) (by omega) (by omega)).mono ?_
  obtain ⟨e0, e1⟩ := within_bd a3 (show (0 : Int) ≤ 1000 by omega)
  generalize (0 : Int) + a3 % (1000 - 0 + 1) = asked at *
  rintro e w' ⟨rfl, rfl⟩
  go_wp2_with (fail)
  refine (within_any a4 _ _ _ l4 u4 (by omega) (by omega) (by omega)).mono ?_
  obtain ⟨f0, f1⟩ := within_bd a4 (show (0 : Int) ≤ 300 by omega)
  generalize (0 : Int) + a4 % (300 - 0 + 1) = later at *
  rintro e w' ⟨rfl, rfl⟩
  go_wp2_with (fail)
  refine (within_any a5 _ _ _ l5 u5 (by omega) (by omega) (by omega)).mono ?_
  obtain ⟨g0, g1⟩ := within_bd a5 (show (0 : Int) ≤ 100000 by omega)
  generalize (0 : Int) + a5 % (100000 - 0 + 1) = length at *
  rintro e w' ⟨rfl, rfl⟩
  clear l0 u0 l1 u1 l2 u2 l3 u3 l4 u4 l5 u5
  obtain ⟨m0, m1⟩ := mul_bd 1000 1500 e0 e1 (show 0 ≤ 1000 + one - rho by omega) (show 1000 + one - rho ≤ 1500 by omega)
  obtain ⟨n0, n1⟩ := mul_bd 1300 1500 (show 0 ≤ asked + later by omega) (show asked + later ≤ 1300 by omega) (show 0 ≤ 1000 + two - rho by omega) (show 1000 + two - rho ≤ 1500 by omega)
  go_wp2_with (fail)
  refine (hold_yes _ _ _ _ (by omega) (by omega) (by omega) (by omega) (by omega) (by omega)).mono ?_
  rintro e w1 ⟨rfl, hw1⟩
  go_wp2_with (fail)
  refine (new_any _ _ (by omega) (by omega)).mono ?_
  rintro e w2 ⟨rfl, k2, hw2, hz⟩
  have s1 := hw1.size
  have hb2 : Below w.heap.size w w2 := hw1.trans (hw2.mono s1)
  generalize w1.heap.size = g at *
  have s2 : g < w2.heap.size := by omega
  clear hw2 hz hw1
  have hq := (hold_math g0 (by omega) b0 b1)
  obtain ⟨q1, q2, q3, q4⟩ := hq
  go_wp2_with (fail)
  refine (ask_yes _ _ _ _ _ _ _ _ s2 k2 (by omega) n0 (by omega) g0 (by omega) (by simp [barB])).mono ?_
  rintro e w3 ⟨rfl, k3, hw3⟩
  have hb3 : Below w.heap.size w w3 := below_grown hb2 hw3 s1
  have s3 : g < w3.heap.size := by have := hw3.size; omega
  clear hw3 hb2 s2 k2
  go_wp2_with (fail)
  refine (within_any a6 _ _ _ l6 u6 (by omega) (by omega) (by omega)).mono ?_
  obtain ⟨p0, p1⟩ := within_bd a6 (show (0 : Int) ≤ 400 by omega)
  generalize (0 : Int) + a6 % (400 - 0 + 1) = at_ at *
  rintro e w' ⟨rfl, rfl⟩
  clear l6 u6
  obtain ⟨v0, v1⟩ := mul_bd 1700 1500 (show 0 ≤ asked + later + at_ by omega) (show asked + later + at_ ≤ 1700 by omega) (show 0 ≤ 1000 + one - rho by omega) (show 1000 + one - rho ≤ 1500 by omega)
  obtain ⟨x0, x1⟩ := mul_bd 1700 1500 (show 0 ≤ asked + later + at_ by omega) (show asked + later + at_ ≤ 1700 by omega) (show 0 ≤ 1000 + two - rho by omega) (show 1000 + two - rho ≤ 1500 by omega)
  have hm := @safe_math rho (1000 + one - rho) (1000 + two - rho) asked (asked + later) length (asked + later + at_) b0 b1 (by omega) (by omega) (by omega) (by omega) (by omega)
  by_cases hh : (asked + later + at_) * (1000 + one - rho) < asked * (1000 + one - rho) + length * (1000 - rho) / (1000 + rho)
  · have hm' := hm hh
    clear hm
    have HK : Hid (barB 1 0 (max 0 ((asked + later) * (1000 + two - rho) + length)) 1 ((asked + later + at_) * (1000 + two - rho)) = true) := Lib.hid (by simp [barB]; omega)
    have HL : Hid (barB 1 0 (max 0 ((asked + later) * (1000 + two - rho) + length)) 0 ((asked + later + at_) * (1000 + two - rho)) = false) := Lib.hid (by simp [barB])
    go_wp2_with (fail)
    refine (barred_yes _ _ _ _ _ _ _ k3 HK.out).mono ?_
    rintro e w' ⟨rfl, rfl⟩
    go_wp2_with (fail)
    refine (barred_no _ _ _ _ _ _ _ k3 HL.out).mono ?_
    rintro e w' ⟨rfl, rfl⟩
    go_wp2_with (fail)
    refine (ask_no _ _ _ _ _ _ _ _ s3 k3 (.inr (.inr HK.out))).mono ?_
    rintro e w4 ⟨rfl, hw4⟩
    have hb4 := below_trans hb3 hw4
    clear hb3 hw4 k3 s3
    go_wp2_with (fail)
    refine (known_any _).mono ?_
    rintro e w5 ⟨rfl, hw5⟩
    go_wp2_with (fail)
    go_ret
    exact ⟨rfl, below_trans hb4 hw5⟩
  · clear hm
    go_wp2_with (fail)
    refine (known_any _).mono ?_
    rintro e w4 ⟨rfl, hw4⟩
    go_wp2_with (fail)
    go_ret
    exact ⟨rfl, below_trans hb3 hw4⟩

end Go.Proofs.Ytjokjbihkejagaa
