/- conclavetop.awake: what is known of functions; the machine. -/
import Derived.Test.YtcpmgjnlnaigbaaGreatDoorBk
import Derived.Test.YtcpmgjnlnaigbaaGreatDoorCp
import Derived.Test.YtcpmgjnlnaigbaaGreatDoorSo
import Derived.Test.YtcpmgjnlnaigbaaGreatDoorSi
import Derived.Test.YtcpmgjnlnaigbaaGreatDoorEvCut
import Derived.Test.YtcpmgjnlnaigbaaGreatDoorEvSq
import Derived.Test.YtcpmgjnlnaigbaaGreatDoorEvPu
import Derived.KernelRfl
set_option linter.unusedVariables false
namespace Go.Proofs.YtcpmgjnlnaigbaaGreatDoor
open Go.RowKit Go.Ev

theorem copyOk : CopyOk Tryz.prog 229 :=
  ⟨⟨_, _, Tryz.func229, by kernel_rfl, rfl⟩, copy_nil, _, copy_key, fun bd bs nd ns Dd Ds w h1 h2 h3 h4 => copy_walk bd bs nd ns Dd Ds w h1 h2 h3 h4⟩
noncomputable def fnsA : FuncId → Option PrimF := addPrim 229 copyP (addPrim fSorted (sortedP fitStr isKeysS) (addPrim fSortedI (sortedP fitInt isKeysI) noPrim))
theorem fnsA_ok : FnOk Tryz.prog fnsA := addPrim_ok (copy_prim copyOk) (addPrim_ok sorted_known (addPrim_ok sortedI_known noPrim_ok))
noncomputable def bkA (f : FuncId) : Option (Nat × Option Nat) := bc (Nat.beq f 365) (some (2, some 2)) none
theorem prims_of {fns : FuncId → Option PrimF} (h : FnOk Tryz.prog fns) : PrimsOk Tryz.prog ⟨fns, bkA⟩ := by
  refine ⟨h, fun gf s h => ?_⟩
  have h' : bc (Nat.beq gf 365) (some (2, some 2)) none = some s := h
  cases hb : Nat.beq gf 365 with
  | true =>
    rw [Nat.beq_eq] at hb
    subst hb
    cases h'
    exact bk_ok
  | false => rw [hb] at h'; cases h'
noncomputable def primsA : Prims := ⟨fnsA, bkA⟩
theorem primsA_ok : PrimsOk Tryz.prog primsA := prims_of fnsA_ok
theorem noGorA : Tryz.prog.funcs.all (fun fn => !(fn.name == "runtime.NumGoroutine")) = true := by kernel_rfl
theorem mixedA : Tryz.prog.follows .mixedOrders = true := by kernel_rfl
noncomputable def evAw : Fns := evS Tryz.prog primsA 100000 100000
theorem codeA_ok : CodeOk Tryz.prog evAw.code := (ev_ok noGorA mixedA primsA_ok (fun _ hC => draw_ok hC) _ _).1
theorem callA_ok : CallOk Tryz.prog evAw.call := (ev_ok noGorA mixedA primsA_ok (fun _ hC => draw_ok hC) _ _).2
noncomputable def xOfA (f : FuncId) : Nat × List ResultVar × Code := match funcOf Tryz.prog f with | some x => x | none => (0, [], .skip)
noncomputable def setA : Nat × List ResultVar × Code := xOfA 32
theorem setA_eq : funcOf Tryz.prog 32 = some setA := by kernel_rfl
noncomputable def okRunA (r : Option (AV × AH)) : Bool := match r with
  | some (.bool true, _) => true
  | _ => false
theorem okRunA_some {r : Option (AV × AH)} (h : okRunA r = true) : ∃ A, r = some (.bool true, A) := by
  unfold okRunA at h
  split at h
  · exact ⟨_, rfl⟩
  · cases h
theorem runA_true {f : FuncId} {prims : Prims} (hp : PrimsOk Tryz.prog prims) {d k : Nat} (h : okRunA ((evS Tryz.prog prims d k).call f [] heap0) = true) (w : World) :
    Calls Tryz.prog f #[] w fun e w' => e = .returned (.bool true) ∧ Below w.heap.size w w' := by
  obtain ⟨A, hA⟩ := okRunA_some h
  refine (closed noGorA mixedA hp hA w).mono ?_
  rintro e w' ⟨E, v, rfl, hv, h1, h2, h3, h4, h5⟩
  simp only [VR] at hv
  subst hv
  exact ⟨rfl, h1, h2, h3, h4, h5⟩
end Go.Proofs.YtcpmgjnlnaigbaaGreatDoor
