/- Chapter 12's runs, by the kernel. -/
import Derived.Test.YtkmncmceheggjaaDoorBk
import Derived.KernelRfl
set_option linter.unusedVariables false
namespace Go.Proofs.YtkmncmceheggjaaDoor
open Go.RowKit Go.Ev

noncomputable def prims : Prims := ⟨fun _ => none, fun f => bc (Nat.beq f 39) (some (2, some 2)) none⟩
theorem prims_ok : PrimsOk Tryd.prog prims := by
  refine ⟨(fun f p h => by cases h), fun gf s h => ?_⟩
  have h' : bc (Nat.beq gf 39) (some (2, some 2)) none = some s := h
  cases hb : Nat.beq gf 39 with
  | true =>
    rw [Nat.beq_eq] at hb
    subst hb
    cases h'
    exact bk_ok
  | false => rw [hb] at h'; cases h'

/-- a closed run that answers true -/
noncomputable def okRun (r : Option (AV × AH)) : Bool := match r with
  | some (.bool true, _) => true
  | _ => false
theorem okRun_some {r : Option (AV × AH)} (h : okRun r = true) : ∃ A, r = some (.bool true, A) := by
  unfold okRun at h
  split at h
  · exact ⟨_, rfl⟩
  · cases h
theorem run_true {f : FuncId} {prims : Prims} (hp : PrimsOk Tryd.prog prims) {d k : Nat} (h : okRun ((evS Tryd.prog prims d k).call f [] heap0) = true) (w : World) :
    Calls Tryd.prog f #[] w fun e w' => e = .returned (.bool true) ∧ Below w.heap.size w w' := by
  obtain ⟨A, hA⟩ := okRun_some h
  refine (closed (by kernel_rfl) (by kernel_rfl) hp hA w).mono ?_
  rintro e w' ⟨E, v, rfl, hv, h1, h2, h3, h4, h5⟩
  simp only [VR] at hv
  subst hv
  exact ⟨rfl, h1, h2, h3, h4, h5⟩

theorem guardNumbers_run : okRun ((evS Tryd.prog prims 100000 100000).call 4 [] heap0) = true := by kernel_rfl
theorem guardNumbers_walk (w : World) : Calls Tryd.prog 4 #[] w fun e w' => e = .returned (.bool true) ∧ Below w.heap.size w w' := run_true prims_ok guardNumbers_run w
theorem known_run : okRun ((evS Tryd.prog prims 100000 100000).call 12 [] heap0) = true := by kernel_rfl
theorem known_walk (w : World) : Calls Tryd.prog 12 #[] w fun e w' => e = .returned (.bool true) ∧ Below w.heap.size w w' := run_true prims_ok known_run w
#print axioms guardNumbers_walk
end Go.Proofs.YtkmncmceheggjaaDoor
