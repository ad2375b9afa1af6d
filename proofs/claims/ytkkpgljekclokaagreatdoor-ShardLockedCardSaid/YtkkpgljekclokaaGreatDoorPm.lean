/- What is known of maps.Clone, maps.Copy, slices.Sorted(maps.Keys(m)), Within, slices.Backward at this dump. -/
import Derived.Test.YtkkpgljekclokaaGreatDoorBk
import Derived.Test.YtkkpgljekclokaaGreatDoorWn
import Derived.Test.YtkkpgljekclokaaGreatDoorCp
import Derived.Test.YtkkpgljekclokaaGreatDoorSo
import Derived.Test.YtkkpgljekclokaaGreatDoorEvCut
import Derived.KernelRfl
set_option linter.unusedVariables false
namespace Go.Proofs.YtkkpgljekclokaaGreatDoor
open Go.RowKit Go.Ev

theorem copyOk : CopyOk Tryz.prog 96 :=
  ⟨⟨_, _, Tryz.func96, by kernel_rfl, rfl⟩, copy_nil, _, copy_key, fun bd bs nd ns Dd Ds w h1 h2 h3 h4 => copy_walk bd bs nd ns Dd Ds w h1 h2 h3 h4⟩
noncomputable def fnsC : FuncId → Option PrimF := addPrim 96 copyP (addPrim fSorted (sortedP fitStr isKeysS) (addPrim 18 withinP noPrim))
theorem fnsC_ok : FnOk Tryz.prog fnsC := addPrim_ok (copy_prim copyOk) (addPrim_ok sorted_known (addPrim_ok (within_prim withinOk) noPrim_ok))
theorem prims_of {fns : FuncId → Option PrimF} (h : FnOk Tryz.prog fns) : PrimsOk Tryz.prog ⟨fns, fun f => bc (Nat.beq f 250) (some (2, some 2)) none⟩ := by
  refine ⟨h, fun gf s h => ?_⟩
  have h' : bc (Nat.beq gf 250) (some (2, some 2)) none = some s := h
  cases hb : Nat.beq gf 250 with
  | true =>
    rw [Nat.beq_eq] at hb
    subst hb
    cases h'
    exact bk_ok
  | false => rw [hb] at h'; cases h'

/-- a closed run that answers true -/
noncomputable def okRun (r : Option (AV × AH)) : Bool := match r with
  | some (.bool true, _) => true
  | _ => false
theorem okRun_some {r : Option (AV × AH)} (h : okRun r = true) : ∃ A, r = some (.bool true, A) := by
  unfold okRun at h
  split at h
  · exact ⟨_, rfl⟩
  · cases h
theorem run_true {f : FuncId} {prims : Prims} (hp : PrimsOk Tryz.prog prims) {d k : Nat} (h : okRun ((evS Tryz.prog prims d k).call f [] heap0) = true) (w : World) :
    Calls Tryz.prog f #[] w fun e w' => e = .returned (.bool true) ∧ Below w.heap.size w w' := by
  obtain ⟨A, hA⟩ := okRun_some h
  refine (closed (by kernel_rfl) (by kernel_rfl) hp hA w).mono ?_
  rintro e w' ⟨E, v, rfl, hv, h1, h2, h3, h4, h5⟩
  simp only [VR] at hv
  subst hv
  exact ⟨rfl, h1, h2, h3, h4, h5⟩
end Go.Proofs.YtkkpgljekclokaaGreatDoor
