/- Chapter 16's runs: what is known of functions; the machine; the law's code. -/
import Derived.Test.YtgjaicainmmdbaaGreatDoorBk
import Derived.Test.YtgjaicainmmdbaaGreatDoorCp
import Derived.Test.YtgjaicainmmdbaaGreatDoorSo
import Derived.Test.YtgjaicainmmdbaaGreatDoorBw
import Derived.Test.YtgjaicainmmdbaaGreatDoorEvPr
import Derived.Test.YtgjaicainmmdbaaGreatDoorEvSq
import Derived.KernelRfl
set_option linter.unusedVariables false
namespace Go.Proofs.YtgjaicainmmdbaaGreatDoor
open Go.RowKit Go.Ev

theorem copyOk : CopyOk Tryz.prog 52 :=
  ⟨⟨_, _, Tryz.func52, by kernel_rfl, rfl⟩, copy_nil, _, copy_key, fun bd bs nd ns Dd Ds w h1 h2 h3 h4 => copy_walk bd bs nd ns Dd Ds w h1 h2 h3 h4⟩
noncomputable def fnsC : FuncId → Option PrimF := addPrim 52 copyP (addPrim fSorted (sortedP fitStr isKeysS) noPrim)
theorem fnsC_ok : FnOk Tryz.prog fnsC := addPrim_ok (copy_prim copyOk) (addPrim_ok sorted_known noPrim_ok)
theorem prims_of {fns : FuncId → Option PrimF} (h : FnOk Tryz.prog fns) : PrimsOk Tryz.prog ⟨fns, fun f => bc (Nat.beq f 223) (some (2, some 2)) none⟩ := by
  refine ⟨h, fun gf s h => ?_⟩
  have h' : bc (Nat.beq gf 223) (some (2, some 2)) none = some s := h
  cases hb : Nat.beq gf 223 with
  | true =>
    rw [Nat.beq_eq] at hb
    subst hb
    cases h'
    exact bk_ok
  | false => rw [hb] at h'; cases h'

noncomputable def fnsN : FuncId → Option PrimF := addPrim 98 busyP fnsC
theorem fnsN_ok : FnOk Tryz.prog fnsN := addPrim_ok (busy_prim busyOk) fnsC_ok
noncomputable def primsN : Prims := ⟨fnsN, fun f => bc (Nat.beq f 223) (some (2, some 2)) none⟩
theorem primsN_ok : PrimsOk Tryz.prog primsN := prims_of fnsN_ok
theorem noGor : Tryz.prog.funcs.all (fun fn => !(fn.name == "runtime.NumGoroutine")) = true := by kernel_rfl
theorem mixedN : Tryz.prog.follows .mixedOrders = true := by kernel_rfl
noncomputable def evN : Fns := evS Tryz.prog primsN 100000 100000
theorem codeN_ok : CodeOk Tryz.prog evN.code := (ev_ok noGor mixedN primsN_ok (fun _ hC => draw_ok hC) _ _).1
noncomputable def xOf (f : FuncId) : Nat × List ResultVar × Code := match funcOf Tryz.prog f with | some x => x | none => (0, [], .skip)
noncomputable def lawX : Nat × List ResultVar × Code := xOf 3
theorem lawX_eq : funcOf Tryz.prog 3 = some lawX := by kernel_rfl
noncomputable def tailC : Code := match tailN 4 lawX.2.2 with | some c => c | none => .skip
theorem tailC_eq : tailN 4 lawX.2.2 = some tailC := by kernel_rfl
noncomputable def parts : Code × Nat × Code × Code := match partsOf tailC with | some p => p | none => (.skip, 0, .skip, .skip)
theorem parts_eq : partsOf tailC = some (parts.1, parts.2.1, parts.2.2.1, parts.2.2.2) := by kernel_rfl
/-- how many rounds the loop has, and whether the rest answers true: asked of the kernel -/
noncomputable def st0 (k : Nat) : Option (Tp × AH) :=
  match preRun evN.code lawX.1 4 lawX.2.2 (putArgs [] 0 (n3 AV)) heap0 with
  | some (c', t1, h1) => (match evN.code lawX.1 parts.1 t1 h1 with
    | some (.normal, t2, h2) => loopN (evN.code lawX.1 parts.2.2.1) k t2 h2
    | _ => none)
  | none => none
end Go.Proofs.YtgjaicainmmdbaaGreatDoor
