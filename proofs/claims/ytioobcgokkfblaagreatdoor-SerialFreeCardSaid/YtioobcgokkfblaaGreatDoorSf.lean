/- Chapter 22: the runs of SerialFree, by the kernel. -/
import Derived.Test.YtioobcgokkfblaaGreatDoorBk
import Derived.Test.YtioobcgokkfblaaGreatDoorWn
import Derived.Test.YtioobcgokkfblaaGreatDoorMl
import Derived.Test.YtioobcgokkfblaaGreatDoorEvCut
import Derived.KernelRfl
set_option linter.unusedVariables false
namespace Go.Proofs.YtioobcgokkfblaaGreatDoor
open Go.RowKit Go.Ev

noncomputable def fns : FuncId → Option PrimF := addPrim 35 cloneP (addPrim 12 withinP noPrim)
theorem fns_ok : FnOk Tryz.prog fns :=
  addPrim_ok (clone_prim Tryz.clone35 ⟨_, _, Tryz.func35, by kernel_rfl, rfl⟩) (addPrim_ok (within_prim withinOk) noPrim_ok)
noncomputable def primsF : Prims := ⟨fns, fun f => bc (Nat.beq f 166) (some (2, some 2)) none⟩
theorem primsF_ok : PrimsOk Tryz.prog primsF := by
  refine ⟨fns_ok, fun gf s h => ?_⟩
  have h' : bc (Nat.beq gf 166) (some (2, some 2)) none = some s := h
  cases hb : Nat.beq gf 166 with
  | true =>
    rw [Nat.beq_eq] at hb
    subst hb
    cases h'
    exact bk_ok
  | false => rw [hb] at h'; cases h'

theorem at_run (n : Int) : cutAt Tryz.prog primsF 100000 100000 2 0 4 [.int .i64 n] = some (.int .i64 (wthn n 0 6)) := by kernel_rfl
theorem run0 (n : Int) : cutRun Tryz.prog primsF 100000 100000 2 0 4 [.int .i64 n] (.int .i64 0) = true := by kernel_rfl
theorem run1 (n : Int) : cutRun Tryz.prog primsF 100000 100000 2 0 4 [.int .i64 n] (.int .i64 1) = true := by kernel_rfl
theorem run2 (n : Int) : cutRun Tryz.prog primsF 100000 100000 2 0 4 [.int .i64 n] (.int .i64 2) = true := by kernel_rfl
theorem run3 (n : Int) : cutRun Tryz.prog primsF 100000 100000 2 0 4 [.int .i64 n] (.int .i64 3) = true := by kernel_rfl
theorem run4 (n : Int) : cutRun Tryz.prog primsF 100000 100000 2 0 4 [.int .i64 n] (.int .i64 4) = true := by kernel_rfl
theorem run5 (n : Int) : cutRun Tryz.prog primsF 100000 100000 2 0 4 [.int .i64 n] (.int .i64 5) = true := by kernel_rfl
theorem run6 (n : Int) : cutRun Tryz.prog primsF 100000 100000 2 0 4 [.int .i64 n] (.int .i64 6) = true := by kernel_rfl

theorem serialFree_walk (n : Int) (w : World) : Calls Tryz.prog 4 #[.int .i64 n] w fun e w' => e = .returned (.bool true) ∧ Below w.heap.size w w' := by
  have key : ∃ m : Int, wthn n 0 6 = m ∧ cutRun Tryz.prog primsF 100000 100000 2 0 4 [.int .i64 n] (.int .i64 m) = true := by
    obtain ⟨h1, h2⟩ := wthn_bd n 0 6 (by omega)
    by_cases h : wthn n 0 6 = 0; exact ⟨_, h, run0 n⟩
    by_cases h : wthn n 0 6 = 1; exact ⟨_, h, run1 n⟩
    by_cases h : wthn n 0 6 = 2; exact ⟨_, h, run2 n⟩
    by_cases h : wthn n 0 6 = 3; exact ⟨_, h, run3 n⟩
    by_cases h : wthn n 0 6 = 4; exact ⟨_, h, run4 n⟩
    by_cases h : wthn n 0 6 = 5; exact ⟨_, h, run5 n⟩
    exact ⟨6, by omega, run6 n⟩
  obtain ⟨m, hm, hrun⟩ := key
  refine cut_law (by kernel_rfl) (by kernel_rfl) primsF_ok (by kernel_rfl) (by omega) hrun (hm ▸ at_run n) (fun E => by simp [VRL, VR]) (fun x hx => ?_) w
  have := (show (match funcOf Tryz.prog 4 with | some x => Nat.ble 1 x.1 | none => true) = true by kernel_rfl)
  rw [hx] at this
  exact Nat.le_of_ble_eq_true this
#print axioms serialFree_walk
end Go.Proofs.YtioobcgokkfblaaGreatDoor
