/- The row TopAnyOrder: no goroutine, by any text; its function's number. -/
import Derived.Test.YtcpmgjnlnaigbaaGreatDoorRows
import Derived.SevenTiedAt
import Derived.KernelRfl
namespace Go.Proofs.YtcpmgjnlnaigbaaGreatDoor.topAnyOrder
set_option linter.unusedVariables false
theorem none_goes : Tryz.prog.funcs.any Func.goes = false := by kernel_rfl
theorem goes_false {P : Program} (h : P.funcs.any Func.goes = false) (f : FuncId) : P.goes f = false := by
  unfold Program.goes
  rw [h, Bool.and_false, Bool.or_false]
  rw [List.any_eq_false]
  intro g hg
  cases hf : P.funcs[g]? with
  | none => simp
  | some fn =>
    have := Array.any_eq_false.1 h
    obtain ⟨hlt, rfl⟩ := Array.getElem?_eq_some_iff.1 hf
    simpa using this g hlt
theorem goes_none {P : Program} (hn : P.funcs.any Func.goes = false) {c : OpenClaim} (hs : c.start = .entering) : false = c.goesBy P := by
  unfold OpenClaim.goesBy Program.goesAt Program.goesFrom
  rw [hs]
  have h : (P.funcNamed c.func).any P.goes = false := by
    cases P.funcNamed c.func with
    | none => rfl
    | some f => exact goes_false hn f
  rw [h]
  rfl
theorem goes_no {c : OpenClaim} (hs : c.start = .entering) : false = c.goesBy Tryz.prog := goes_none none_goes hs
theorem named : Tryz.prog.funcNamed Rows.topAnyOrderRow.func = some 3 := by kernel_rfl
end Go.Proofs.YtcpmgjnlnaigbaaGreatDoor.topAnyOrder
