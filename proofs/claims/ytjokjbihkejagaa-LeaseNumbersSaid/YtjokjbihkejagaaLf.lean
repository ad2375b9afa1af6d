/- Chapter 11: the walk of LeaseLost. -/
import Derived.Test.YtjokjbihkejagaaLd
namespace Go.Proofs.Ytjokjbihkejagaa
open Go.RowKit

set_option maxHeartbeats 1000000 in
theorem leaseLost_walk (a0 a1 a2 a3 : Int) (w0 : (Lit.int .i64 a0).wf = true) (w1 : (Lit.int .i64 a1).wf = true) (w2 : (Lit.int .i64 a2).wf = true) (w3 : (Lit.int .i64 a3).wf = true) (w : World) :
    Calls Try.prog 6 #[.int .i64 a0, .int .i64 a1, .int .i64 a2, .int .i64 a3] w fun e w' => e = .returned (.bool true) ∧ Below w.heap.size w w' := by
  obtain ⟨l0, u0⟩ := wf_bd w0
  obtain ⟨l1, u1⟩ := wf_bd w1
  obtain ⟨l2, u2⟩ := wf_bd w2
  obtain ⟨l3, u3⟩ := wf_bd w3
  clear w0 w1 w2 w3
  go_enter Try.func6, Try.ntmps6
  go_wp2_with (fail)
  refine (new_any _ _ (by omega) (by omega)).mono ?_
  rintro e w1 ⟨rfl, k1, hb1, hz⟩
  have s1 : w.heap.size ≤ w.heap.size := Nat.le_refl _
  obtain ⟨g, hg⟩ : ∃ g : Nat, g = w.heap.size := ⟨_, rfl⟩
  rw [← hg] at hz k1
  rw [← hg]
  have s2 : w.heap.size ≤ g := by omega
  have s3 : g < w1.heap.size := by omega
  clear hg hz s1
  go_wp2_with (fail)
  refine (within_any a0 _ _ _ l0 u0 (by omega) (by omega) (by omega)).mono ?_
  obtain ⟨b0, b1⟩ := within_bd a0 (show (0 : Int) ≤ 1000 by omega)
  generalize (0 : Int) + a0 % (1000 - 0 + 1) = now at *
  rintro e w' ⟨rfl, rfl⟩
  go_wp2_with (fail)
  refine (within_any a1 _ _ _ l1 u1 (by omega) (by omega) (by omega)).mono ?_
  obtain ⟨c0, c1⟩ := within_bd a1 (show (0 : Int) ≤ 1000 by omega)
  generalize (0 : Int) + a1 % (1000 - 0 + 1) = length at *
  rintro e w' ⟨rfl, rfl⟩
  go_wp2_with (fail)
  refine (within_any a2 _ _ _ l2 u2 (by omega) (by omega) (by omega)).mono ?_
  obtain ⟨d0, d1⟩ := within_bd a2 (show (0 : Int) ≤ 4 by omega)
  generalize (0 : Int) + a2 % (4 - 0 + 1) = node at *
  rintro e w' ⟨rfl, rfl⟩
  go_wp2_with (fail)
  refine (within_any a3 _ _ _ l3 u3 (by omega) (by omega) (by omega)).mono ?_
  obtain ⟨e0, e1⟩ := within_bd a3 (show (0 : Int) ≤ 2500 by omega)
  generalize (0 : Int) + a3 % (2500 - 0 + 1) = later at *
  rintro e w' ⟨rfl, rfl⟩
  clear l0 u0 l1 u1 l2 u2 l3 u3
  go_wp2_with (fail)
  refine (lost_yes _ _ _ _ _ _ _ s3 k1 b0 (by omega) (by omega) (by omega)).mono ?_
  rintro e w2 ⟨rfl, k2, hw2⟩
  have s4 : g < w2.heap.size := by have := hw2.size; omega
  have hb2 := below_grown hb1 hw2 s2
  clear hb1 k1 hw2 s3
  by_cases hh : later < now + (1 + length)
  · have HK : Hid (barB 2 0 (max 0 (now + (1 + length))) node later = true) := Lib.hid (by simp [barB]; omega)
    have hd : decide (later < now + (1 + length)) = true := by simpa using hh
    go_wp2_with (fail)
    refine (barred_yes _ _ _ _ _ _ _ k2 HK.out).mono ?_
    rintro e w' ⟨rfl, rfl⟩
    go_wp2_with (fail)
    refine (ask_no _ _ _ _ _ _ _ _ s4 k2 (.inr (.inr HK.out))).mono ?_
    rintro e w4 ⟨rfl, hw4⟩
    have hb4 := below_trans hb2 hw4
    have k4 := k2.below hw4 s4
    clear hb2 hw4 k2 s4
    go_wp2_with (fail)
    refine (until_any _ _ _ _ _ k4).mono ?_
    rintro e w' ⟨rfl, rfl⟩
    have hm : decide (now + (1 + length) ≤ max 0 (now + (1 + length))) = true := by simp; omega
    go_wp2_with (fail)
    refine (known_any _).mono ?_
    rintro e w5 ⟨rfl, hw5⟩
    go_wp2_with (fail)
    go_ret
    exact ⟨rfl, below_trans hb4 hw5⟩
  · have HK : Hid (barB 2 0 (max 0 (now + (1 + length))) node later = false) := Lib.hid (by simp [barB]; omega)
    have hd : decide (later < now + (1 + length)) = false := by simpa using hh
    go_wp2_with (fail)
    refine (barred_no _ _ _ _ _ _ _ k2 HK.out).mono ?_
    rintro e w' ⟨rfl, rfl⟩
    go_wp2_with (fail)
    refine (ask_yes _ _ _ _ _ _ _ _ s4 k2 (by omega) (by omega) (by omega) (by omega) (by omega) HK.out).mono ?_
    rintro e w4 ⟨rfl, k4, hw4⟩
    have hb4 := below_grown hb2 hw4 s2
    clear hb2 hw4 k2 s4
    go_wp2_with (fail)
    refine (until_any _ _ _ _ _ k4).mono ?_
    rintro e w' ⟨rfl, rfl⟩
    have hm : decide (now + (1 + length) ≤ max (max 0 (now + (1 + length))) (later + 10)) = true := by simp; omega
    go_wp2_with (fail)
    refine (known_any _).mono ?_
    rintro e w5 ⟨rfl, hw5⟩
    go_wp2_with (fail)
    go_ret
    exact ⟨rfl, below_trans hb4 hw5⟩

end Go.Proofs.Ytjokjbihkejagaa
