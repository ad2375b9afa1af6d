/- Chapter 11: the walk of LeaseNumbers. -/
import Derived.Test.YtjokjbihkejagaaLh
import Derived.Test.YtjokjbihkejagaaLf
namespace Go.Proofs.Ytjokjbihkejagaa
open Go.RowKit

theorem f1 : FairP [(5, 70)] 3 := by
  refine ⟨by omega, fun j hj => ?_, fun i hi j hj => ?_⟩
  · obtain rfl : j = 0 := by simp at hj; omega
    simp [rd, okR]
  · obtain rfl : j = 0 := by simp at hj; omega
    obtain rfl : i = 0 := by simp at hi; omega
    simp [rd, pairOk]
theorem f2 : FairP [(0, 0), (1000, 1100)] 100 := by
  refine ⟨by omega, fun j hj => ?_, fun i hi j hj => ?_⟩
  · obtain rfl | rfl : j = 0 ∨ j = 1 := by simp at hj; omega
    all_goals simp [rd, okR]
  · obtain rfl | rfl : j = 0 ∨ j = 1 := by simp at hj; omega
    all_goals
      obtain rfl | rfl : i = 0 ∨ i = 1 := by simp at hi; omega
      all_goals simp [rd, pairOk]
theorem f3 : ¬ FairP [(0, 0), (1000, 1101)] 100 := fun h => by
  have := h.2.2 0 (by simp) 1 (by simp)
  simp [rd, pairOk] at this
theorem f4 : ¬ FairP [(4, 0), (4, 1)] 500 := fun h => by
  have := h.2.2 0 (by simp) 1 (by simp)
  simp [rd, pairOk] at this
theorem lies1 (w : World) (a b : Int) (E : TypeId) : Lies (w.alloc (Obj.cells #[Value.int IntKind.i64 a, Value.int IntKind.i64 b] E)) w.heap.size 0 [(a, b)] := fun j hj => by
  obtain rfl : j = 0 := by simp at hj; omega
  simp [rd]
theorem lies2 (w : World) (a b c d : Int) (E : TypeId) : Lies (w.alloc (Obj.cells #[Value.int IntKind.i64 a, Value.int IntKind.i64 b, Value.int IntKind.i64 c, Value.int IntKind.i64 d] E)) w.heap.size 0 [(a, b), (c, d)] := fun j hj => by
  obtain rfl | rfl : j = 0 ∨ j = 1 := by simp at hj; omega
  all_goals simp [rd]

set_option maxRecDepth 100000 in
set_option maxHeartbeats 4000000 in
theorem leaseNumbers_walk (w : World) :
    Calls Try.prog 9 #[] w fun e w' => e = .returned (.bool true) ∧ Below w.heap.size w w' := by
  go_enter Try.func9, Try.ntmps9
  go_wp2_with (fail)
  refine (new_no _ _ (by omega)).mono ?_
  rintro e w1 ⟨rfl, rfl⟩
  go_wp2_with (fail)
  refine (new_no _ _ (by omega)).mono ?_
  rintro e w1 ⟨rfl, rfl⟩
  go_wp2_with (fail)
  refine (hold_no _ _ _ _ (by omega)).mono ?_
  rintro e w1 ⟨rfl, b1⟩
  go_wp2_with (fail)
  refine (hold_no _ _ _ _ (by omega)).mono ?_
  rintro e w2 ⟨rfl, b2⟩
  go_wp2_with (fail)
  refine (bar_yes _ _ _ (by omega) (by omega) (by omega) (by omega)).mono ?_
  rintro e w3 ⟨rfl, b3⟩
  have c3 := below_trans (below_trans b1 b2) b3
  clear b1 b2 b3
  go_wp2_with (fail)
  refine (new_any _ _ (by omega) (by omega)).mono ?_
  rintro e w4 ⟨rfl, k4, b4, hz⟩
  have s4 := c3.size
  have c4 := below_trans c3 b4
  generalize w3.heap.size = g at *
  have l4 : g < w4.heap.size := by omega
  clear b4 hz c3
  go_wp2_with (fail)
  refine (until_any _ _ _ _ _ k4).mono ?_
  rintro e w5 ⟨rfl, rfl⟩
  go_wp2_with (fail)
  refine (ask_yes _ _ _ _ _ _ _ _ l4 k4 (by omega) (by omega) (by omega) (by omega) (by omega) (by simp [barB])).mono ?_
  rintro e w5 ⟨rfl, k5, b5⟩
  have c5 := below_grown c4 b5 s4
  have l5 : g < w5.heap.size := by have := b5.size; omega
  simp only [Int.reduceAdd, show max (0 : Int) 15 = 15 from rfl] at k5
  clear b5 k4 c4 l4
  go_wp2_with (fail)
  refine (ask_yes _ _ _ _ _ _ _ _ l5 k5 (by omega) (by omega) (by omega) (by omega) (by omega) (by simp [barB])).mono ?_
  rintro e w6 ⟨rfl, k6, b6⟩
  have c6 := below_grown c5 b6 s4
  have l6 : g < w6.heap.size := by have := b6.size; omega
  simp only [Int.reduceAdd, show max (15 : Int) 13 = 15 from rfl] at k6
  clear b6 k5 c5 l5
  go_wp2_with (fail)
  refine (until_any _ _ _ _ _ k6).mono ?_
  rintro e w7 ⟨rfl, rfl⟩
  go_wp2_with (fail)
  refine (barred_no _ _ _ _ _ _ _ k6 (by simp [barB])).mono ?_
  rintro e w7 ⟨rfl, rfl⟩
  go_wp2_with (fail)
  refine (barred_yes _ _ _ _ _ _ _ k6 (by simp [barB])).mono ?_
  rintro e w7 ⟨rfl, rfl⟩
  go_wp2_with (fail)
  refine (lost_yes _ _ _ _ _ _ _ l6 k6 (by omega) (by omega) (by omega) (by omega)).mono ?_
  rintro e w7 ⟨rfl, k7, b7⟩
  have c7 := below_grown c6 b7 s4
  have l7 : g < w7.heap.size := by have := b7.size; omega
  simp only [Int.reduceAdd, show max (15 : Int) 17 = 17 from rfl] at k7
  clear b7 k6 c6 l6
  go_wp2_with (fail)
  refine (barred_yes _ _ _ _ _ _ _ k7 (by simp [barB])).mono ?_
  rintro e w8 ⟨rfl, rfl⟩
  go_wp2_with (fail)
  refine (ask_yes _ _ _ _ _ _ _ _ l7 k7 (by omega) (by omega) (by omega) (by omega) (by omega) (by simp [barB])).mono ?_
  rintro e w8 ⟨rfl, k8, b8⟩
  have c8 := below_grown c7 b8 s4
  have l8 : g < w8.heap.size := by have := b8.size; omega
  simp only [Int.reduceAdd, show max (17 : Int) 18 = 18 from rfl] at k8
  clear b8 k7 c7 l7
  go_wp2_with (fail)
  refine (ask_no _ _ _ _ _ _ _ _ l8 k8 (.inl (by omega))).mono ?_
  rintro e w9 ⟨rfl, b9⟩
  have c9 := below_trans c8 b9
  clear b9 k8 c8 l8
  go_wp2_with (fail)
  refine (fair_any _ _ _ [(5, 70)] _ _ (by simp) (by simp) (lies1 _ _ _ _)).mono ?_
  rw [← fairB_yes f1]
  rintro e w10 ⟨rfl, b10⟩
  have c10 := below_trans (c9.alloc c9.size _) b10
  clear c9 b10
  go_wp2_with (fail)
  refine (fair_any _ _ _ [(0, 0), (1000, 1100)] _ _ (by simp) (by simp) (lies2 _ _ _ _ _ _)).mono ?_
  rw [← fairB_yes f2]
  rintro e w11 ⟨rfl, b11⟩
  have c11 := below_trans (c10.alloc c10.size _) b11
  clear c10 b11
  go_wp2_with (fail)
  refine (fair_any _ _ _ [(0, 0), (1000, 1101)] _ _ (by simp) (by simp) (lies2 _ _ _ _ _ _)).mono ?_
  rw [← fairB_no f3]
  rintro e w12 ⟨rfl, b12⟩
  have c12 := below_trans (c11.alloc c11.size _) b12
  clear c11 b12
  go_wp2_with (fail)
  refine (fair_any _ _ _ [(4, 0), (4, 1)] _ _ (by simp) (by simp) (lies2 _ _ _ _ _ _)).mono ?_
  rw [← fairB_no f4]
  rintro e w13 ⟨rfl, b13⟩
  have c13 := below_trans (c12.alloc c12.size _) b13
  clear c12 b13
  go_wp2_with (fail)
  refine (known_any _).mono ?_
  rintro e w14 ⟨rfl, b14⟩
  go_wp2_with (fail)
  go_ret
  exact ⟨rfl, below_trans c13 b14⟩

end Go.Proofs.Ytjokjbihkejagaa
