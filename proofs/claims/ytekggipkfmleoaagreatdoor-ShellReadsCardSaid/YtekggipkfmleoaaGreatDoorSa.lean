/- Chapter 26: what is known of functions; the machine, from memory that holds the table of powers. -/
import Derived.Test.YtekggipkfmleoaaGreatDoorBk
import Derived.Test.YtekggipkfmleoaaGreatDoorCp
import Derived.Test.YtekggipkfmleoaaGreatDoorSo
import Derived.Test.YtekggipkfmleoaaGreatDoorSi
import Derived.Test.YtekggipkfmleoaaGreatDoorTt
import Derived.Test.YtekggipkfmleoaaGreatDoorEvPr
import Derived.KernelRfl
set_option linter.unusedVariables false
namespace Go.Proofs.YtekggipkfmleoaaGreatDoor
open Go.RowKit Go.Ev

theorem copyOk : CopyOk Tryz.prog 276 :=
  ⟨⟨_, _, Tryz.func276, by kernel_rfl, rfl⟩, copy_nil, _, copy_key, fun bd bs nd ns Dd Ds w h1 h2 h3 h4 => copy_walk bd bs nd ns Dd Ds w h1 h2 h3 h4⟩
noncomputable def fnsC : FuncId → Option PrimF := addPrim 276 copyP (addPrim fSorted (sortedP fitStr isKeysS) (addPrim fSortedI (sortedP fitInt isKeysI) (addPrim 29 (textP 0) noPrim)))
theorem fnsC_ok : FnOk Tryz.prog fnsC := addPrim_ok (copy_prim copyOk) (addPrim_ok sorted_known (addPrim_ok sortedI_known (addPrim_ok (text_prim tab_global (by decide) textOk) noPrim_ok)))
theorem prims_of {fns : FuncId → Option PrimF} (h : FnOk Tryz.prog fns) : PrimsOk Tryz.prog ⟨fns, fun f => bc (Nat.beq f 413) (some (2, some 2)) none⟩ := by
  refine ⟨h, fun gf s h => ?_⟩
  have h' : bc (Nat.beq gf 413) (some (2, some 2)) none = some s := h
  cases hb : Nat.beq gf 413 with
  | true =>
    rw [Nat.beq_eq] at hb
    subst hb
    cases h'
    exact bk_ok
  | false => rw [hb] at h'; cases h'
noncomputable def primsS : Prims := ⟨fnsC, fun f => bc (Nat.beq f 413) (some (2, some 2)) none⟩
theorem primsS_ok : PrimsOk Tryz.prog primsS := prims_of fnsC_ok
theorem noGor : Tryz.prog.funcs.all (fun fn => !(fn.name == "runtime.NumGoroutine")) = true := by kernel_rfl
theorem mixedS : Tryz.prog.follows .mixedOrders = true := by kernel_rfl
noncomputable def evSh : Fns := evS Tryz.prog primsS 100000 100000
noncomputable def okRun (r : Option (AV × AH)) : Bool := match r with
  | some (.bool true, _) => true
  | _ => false
theorem okRun_some {r : Option (AV × AH)} (h : okRun r = true) : ∃ A, r = some (.bool true, A) := by
  unfold okRun at h
  split at h
  · exact ⟨_, rfl⟩
  · cases h
theorem run_tab {f : FuncId} (h : okRun (evSh.call f [] (heapT 0)) = true) (w : World) (htab : Lib.TabIs Tryz.prog w tabName .u64 Lib.pow10Tab) :
    Calls Tryz.prog f #[] w fun e w' => e = .returned (.bool true) ∧ Below w.heap.size w w' := by
  obtain ⟨A, hA⟩ := okRun_some h
  refine (closed_from noGor mixedS primsS_ok rfl (heapT_ro (by decide)) (heapT_mr tab_global (by decide) htab) hA).mono ?_
  rintro e w' ⟨E, v, rfl, hv, h1⟩
  simp only [VR] at hv
  subst hv
  exact ⟨rfl, h1⟩
end Go.Proofs.YtekggipkfmleoaaGreatDoor
