/- A number brought within bounds. -/
import Derived.Test.YtkkpgljekclokaaGreatDoorEvPr
import Derived.Test.YtkkpgljekclokaaGreatDoorProg
import Derived.WalkKit
import Derived.Lib.Hide
import Derived.KernelRfl
set_option linter.unusedVariables false
set_option linter.unusedSimpArgs false
namespace Go.Proofs.YtkkpgljekclokaaGreatDoor
open Go.RowKit Go.Ev

theorem wn_int {k : IntKind} {a b : Int} (h : a = b) : Ending.returned (.int k a) = .returned (.int k b) := by rw [h]

set_option maxHeartbeats 400000 in
theorem within_any (n lo hi : Int) (w : World) (h3 : 0 ≤ lo) (h4 : lo ≤ hi) (h5 : hi ≤ 1000000000) :
    Calls Tryz.prog 18 #[.int .i64 n, .int .i64 lo, .int .i64 hi] w fun e w' => e = .returned (.int .i64 (wthn n lo hi)) ∧ w' = w := by
  have ha := Int.tmod_lt_of_pos n (b := hi - lo + 1) (by omega)
  have hb : -(hi - lo + 1) < n.tmod (hi - lo + 1) := by
    have h3 := Int.tmod_lt_of_pos (-n) (b := hi - lo + 1) (by omega)
    rw [Int.neg_tmod] at h3
    omega
  by_cases hz : n.tmod (hi - lo + 1) < 0
  · have hw : wthn n lo hi = lo + (n.tmod (hi - lo + 1) + (hi - lo + 1)) := by unfold wthn; rw [if_pos hz]
    have HW := Go.Lib.hid hw; clear hw
    go_enter Tryz.func18, Tryz.ntmps18
    go_wp2
    go_ret
    exact ⟨wn_int (by rw [HW.out]; omega), rfl⟩
  · have hw : wthn n lo hi = lo + n.tmod (hi - lo + 1) := by unfold wthn; rw [if_neg hz]
    have HW := Go.Lib.hid hw; clear hw
    go_enter Tryz.func18, Tryz.ntmps18
    go_wp2
    go_ret
    exact ⟨wn_int (by rw [HW.out]), rfl⟩

theorem withinOk : WithinOk Tryz.prog 18 :=
  ⟨⟨_, _, Tryz.func18, by kernel_rfl, rfl⟩, fun n lo hi w h1 h2 h3 => within_any n lo hi w h1 h2 h3⟩
end Go.Proofs.YtkkpgljekclokaaGreatDoor
