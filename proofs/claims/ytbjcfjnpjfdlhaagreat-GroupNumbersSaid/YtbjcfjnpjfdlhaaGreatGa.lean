/- Chapter 23: what is known of functions; the machine. -/
import Derived.Test.YtbjcfjnpjfdlhaaGreatSi
import Derived.Test.YtbjcfjnpjfdlhaaGreatEvSq
import Derived.Test.YtbjcfjnpjfdlhaaGreatEvPu
import Derived.KernelRfl
set_option linter.unusedVariables false
namespace Go.Proofs.YtbjcfjnpjfdlhaaGreat
open Go.RowKit Go.Ev

noncomputable def fnsG : FuncId → Option PrimF := addPrim fSortedI (sortedP fitInt isKeysI) noPrim
theorem fnsG_ok : FnOk Tryz.prog fnsG := addPrim_ok sortedI_known noPrim_ok
noncomputable def primsG : Prims := ⟨fnsG, fun _ => none⟩
theorem primsG_ok : PrimsOk Tryz.prog primsG := ⟨fnsG_ok, fun gf s h => by cases h⟩
theorem noGor : Tryz.prog.funcs.all (fun fn => !(fn.name == "runtime.NumGoroutine")) = true := by kernel_rfl
theorem mixedG : Tryz.prog.follows .mixedOrders = true := by kernel_rfl
noncomputable def evG : Fns := evS Tryz.prog primsG 100000 100000
theorem codeG_ok : CodeOk Tryz.prog evG.code := (ev_ok noGor mixedG primsG_ok (fun _ hC => draw_ok hC) _ _).1
theorem callG_ok : CallOk Tryz.prog evG.call := (ev_ok noGor mixedG primsG_ok (fun _ hC => draw_ok hC) _ _).2
noncomputable def xOf (f : FuncId) : Nat × List ResultVar × Code := match funcOf Tryz.prog f with | some x => x | none => (0, [], .skip)
noncomputable def lawX : Nat × List ResultVar × Code := xOf 4
noncomputable def setX : Nat × List ResultVar × Code := xOf 14
theorem lawX_eq : funcOf Tryz.prog 4 = some lawX := by kernel_rfl
theorem setX_eq : funcOf Tryz.prog 14 = some setX := by kernel_rfl
end Go.Proofs.YtbjcfjnpjfdlhaaGreat
