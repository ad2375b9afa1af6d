/-
  No cell of these rows narrows 'for every input' (looked for: loops, veiled, ifaces, maps, wideKeys, modest, calm, conditions, laid).
  DERIVED. THE GIVEN ROWS OF THIS SEAT. 8 by the template 'for every input the law returns true; each argument reads behind the call as it read before'; 0 by the template 'total and deterministic' (their statements: YtbjcfjnpjfdlhaaGreatTotals.lean).
  GIVEN WITH THE SEED: the statements are not yours to turn. If you find one false, say at which input.
  Laid BY PROGRAM, IN A SANDBOX (cutbox-rows.mjs): the forced cells as the released guide's own fill.sh prints them over the translation a3986a2c3cfff7eb… (all of the seat's roots in one cut). By AI agents, Wed Nov 11 2026. No macro, syntax, notation, axiom, sorry.
-/
import Derived.Test.YtbjcfjnpjfdlhaaGreatChecked
import GoSem.Claim
import GoSem.ClaimJoined
import GoSem.ClaimMapViews
import Derived.JoinedTies
import Derived.KernelRfl
namespace Go.Proofs.YtbjcfjnpjfdlhaaGreat
/- THE CELL 'sum', in the pinned program and in every row, IS THE sha256 OF THE DUMP (.gsa) THAT YtbjcfjnpjfdlhaaGreatProg.lean LOADS. Nothing in Lean hashes anything: it is a label: what it is worth is what the hold of that sum in a sandbox is worth. -/
noncomputable def Tryz.pinned : Pinned := { name := "ytbjcfjnpjfdlhaagreat", sum := "a3986a2c3cfff7eb5e0bbd58d81a1588102a2db555beec479b2e7c272a502040", checked := Tryz.checked }
namespace Rows
def none {H : Type} : Left H := { results := [], args := [] }

/-- 'conclavelaw23.GroupCrashes': WHATEVER THE INPUT: true; the input reads as it did. -/
def groupCrashesSpec : ChangeSpec := { name := "groupCrashes", fn := fun _ => fun
  | [d1, d2, d3] => { results := [.lit (.bool true)], args := [d1, d2, d3] }
  | _ => none }
def groupCrashesRow : OpenClaim := { program := "ytbjcfjnpjfdlhaagreat", sum := "a3986a2c3cfff7eb5e0bbd58d81a1588102a2db555beec479b2e7c272a502040", func := "conclave/conclavelaw23.GroupCrashes", spec := "groupCrashes", unfollowed := true, recurses := true, plainKeys := false, apart := false }
def GroupCrashesSaid : Prop := groupCrashesRow.holds Tryz.pinned (OpenSpec.ofChange groupCrashesSpec)

/-- ITS FALSE NEIGHBOUR: 'it returns false'. Refute it at one input. -/
def groupCrashesWrong : ChangeSpec := { name := "groupCrashes", fn := fun _ => fun
  | [d1, d2, d3] => { results := [.lit (.bool false)], args := [d1, d2, d3] }
  | _ => none }
def GroupCrashesWrongFalsely : Prop := groupCrashesRow.holds Tryz.pinned (OpenSpec.ofChange groupCrashesWrong)

/-- 'conclavelaw23.GroupNumbers': WHATEVER THE INPUT: true; the input reads as it did. -/
def groupNumbersSpec : ChangeSpec := { name := "groupNumbers", fn := fun _ => fun
  | [] => { results := [.lit (.bool true)], args := [] }
  | _ => none }
def groupNumbersRow : OpenClaim := { program := "ytbjcfjnpjfdlhaagreat", sum := "a3986a2c3cfff7eb5e0bbd58d81a1588102a2db555beec479b2e7c272a502040", func := "conclave/conclavelaw23.GroupNumbers", spec := "groupNumbers", unfollowed := true, recurses := true, plainKeys := false, apart := false }
def GroupNumbersSaid : Prop := groupNumbersRow.holds Tryz.pinned (OpenSpec.ofChange groupNumbersSpec)

/-- ITS FALSE NEIGHBOUR: 'it returns false'. Refute it at one input. -/
def groupNumbersWrong : ChangeSpec := { name := "groupNumbers", fn := fun _ => fun
  | [] => { results := [.lit (.bool false)], args := [] }
  | _ => none }
def GroupNumbersWrongFalsely : Prop := groupNumbersRow.holds Tryz.pinned (OpenSpec.ofChange groupNumbersWrong)

/-- 'conclavelaw23.GroupAgrees': WHATEVER THE INPUT: true; the input reads as it did. -/
def groupAgreesSpec : ChangeSpec := { name := "groupAgrees", fn := fun _ => fun
  | [d1, d2] => { results := [.lit (.bool true)], args := [d1, d2] }
  | _ => none }
def groupAgreesRow : OpenClaim := { program := "ytbjcfjnpjfdlhaagreat", sum := "a3986a2c3cfff7eb5e0bbd58d81a1588102a2db555beec479b2e7c272a502040", func := "conclave/conclavelaw23.GroupAgrees", spec := "groupAgrees", unfollowed := true, recurses := true, plainKeys := false, apart := false }
def GroupAgreesSaid : Prop := groupAgreesRow.holds Tryz.pinned (OpenSpec.ofChange groupAgreesSpec)

/-- ITS FALSE NEIGHBOUR: 'it returns false'. Refute it at one input. -/
def groupAgreesWrong : ChangeSpec := { name := "groupAgrees", fn := fun _ => fun
  | [d1, d2] => { results := [.lit (.bool false)], args := [d1, d2] }
  | _ => none }
def GroupAgreesWrongFalsely : Prop := groupAgreesRow.holds Tryz.pinned (OpenSpec.ofChange groupAgreesWrong)

/-- 'conclavelaw23.GroupSurvives': WHATEVER THE INPUT: true; the input reads as it did. -/
def groupSurvivesSpec : ChangeSpec := { name := "groupSurvives", fn := fun _ => fun
  | [d1, d2, d3] => { results := [.lit (.bool true)], args := [d1, d2, d3] }
  | _ => none }
def groupSurvivesRow : OpenClaim := { program := "ytbjcfjnpjfdlhaagreat", sum := "a3986a2c3cfff7eb5e0bbd58d81a1588102a2db555beec479b2e7c272a502040", func := "conclave/conclavelaw23.GroupSurvives", spec := "groupSurvives", unfollowed := true, recurses := true, plainKeys := false, apart := false }
def GroupSurvivesSaid : Prop := groupSurvivesRow.holds Tryz.pinned (OpenSpec.ofChange groupSurvivesSpec)

/-- ITS FALSE NEIGHBOUR: 'it returns false'. Refute it at one input. -/
def groupSurvivesWrong : ChangeSpec := { name := "groupSurvives", fn := fun _ => fun
  | [d1, d2, d3] => { results := [.lit (.bool false)], args := [d1, d2, d3] }
  | _ => none }
def GroupSurvivesWrongFalsely : Prop := groupSurvivesRow.holds Tryz.pinned (OpenSpec.ofChange groupSurvivesWrong)

/-- 'conclavelaw23.GroupQuorum': WHATEVER THE INPUT: true; the input reads as it did. -/
def groupQuorumSpec : ChangeSpec := { name := "groupQuorum", fn := fun _ => fun
  | [d1, d2, d3, d4] => { results := [.lit (.bool true)], args := [d1, d2, d3, d4] }
  | _ => none }
def groupQuorumRow : OpenClaim := { program := "ytbjcfjnpjfdlhaagreat", sum := "a3986a2c3cfff7eb5e0bbd58d81a1588102a2db555beec479b2e7c272a502040", func := "conclave/conclavelaw23.GroupQuorum", spec := "groupQuorum", unfollowed := true, recurses := true, plainKeys := false, apart := false }
def GroupQuorumSaid : Prop := groupQuorumRow.holds Tryz.pinned (OpenSpec.ofChange groupQuorumSpec)

/-- ITS FALSE NEIGHBOUR: 'it returns false'. Refute it at one input. -/
def groupQuorumWrong : ChangeSpec := { name := "groupQuorum", fn := fun _ => fun
  | [d1, d2, d3, d4] => { results := [.lit (.bool false)], args := [d1, d2, d3, d4] }
  | _ => none }
def GroupQuorumWrongFalsely : Prop := groupQuorumRow.holds Tryz.pinned (OpenSpec.ofChange groupQuorumWrong)

/-- 'conclavelaw23.GroupAgain': WHATEVER THE INPUT: true; the input reads as it did. -/
def groupAgainSpec : ChangeSpec := { name := "groupAgain", fn := fun _ => fun
  | [d1, d2] => { results := [.lit (.bool true)], args := [d1, d2] }
  | _ => none }
def groupAgainRow : OpenClaim := { program := "ytbjcfjnpjfdlhaagreat", sum := "a3986a2c3cfff7eb5e0bbd58d81a1588102a2db555beec479b2e7c272a502040", func := "conclave/conclavelaw23.GroupAgain", spec := "groupAgain", unfollowed := true, recurses := true, plainKeys := false, apart := false }
def GroupAgainSaid : Prop := groupAgainRow.holds Tryz.pinned (OpenSpec.ofChange groupAgainSpec)

/-- ITS FALSE NEIGHBOUR: 'it returns false'. Refute it at one input. -/
def groupAgainWrong : ChangeSpec := { name := "groupAgain", fn := fun _ => fun
  | [d1, d2] => { results := [.lit (.bool false)], args := [d1, d2] }
  | _ => none }
def GroupAgainWrongFalsely : Prop := groupAgainRow.holds Tryz.pinned (OpenSpec.ofChange groupAgainWrong)

/-- 'conclavelaw23.GroupDoubles': WHATEVER THE INPUT: true; the input reads as it did. -/
def groupDoublesSpec : ChangeSpec := { name := "groupDoubles", fn := fun _ => fun
  | [d1, d2, d3] => { results := [.lit (.bool true)], args := [d1, d2, d3] }
  | _ => none }
def groupDoublesRow : OpenClaim := { program := "ytbjcfjnpjfdlhaagreat", sum := "a3986a2c3cfff7eb5e0bbd58d81a1588102a2db555beec479b2e7c272a502040", func := "conclave/conclavelaw23.GroupDoubles", spec := "groupDoubles", unfollowed := true, recurses := true, plainKeys := false, apart := false }
def GroupDoublesSaid : Prop := groupDoublesRow.holds Tryz.pinned (OpenSpec.ofChange groupDoublesSpec)

/-- ITS FALSE NEIGHBOUR: 'it returns false'. Refute it at one input. -/
def groupDoublesWrong : ChangeSpec := { name := "groupDoubles", fn := fun _ => fun
  | [d1, d2, d3] => { results := [.lit (.bool false)], args := [d1, d2, d3] }
  | _ => none }
def GroupDoublesWrongFalsely : Prop := groupDoublesRow.holds Tryz.pinned (OpenSpec.ofChange groupDoublesWrong)

/-- 'conclavelaw23.GroupIdle': WHATEVER THE INPUT: true; the input reads as it did. -/
def groupIdleSpec : ChangeSpec := { name := "groupIdle", fn := fun _ => fun
  | [d1, d2] => { results := [.lit (.bool true)], args := [d1, d2] }
  | _ => none }
def groupIdleRow : OpenClaim := { program := "ytbjcfjnpjfdlhaagreat", sum := "a3986a2c3cfff7eb5e0bbd58d81a1588102a2db555beec479b2e7c272a502040", func := "conclave/conclavelaw23.GroupIdle", spec := "groupIdle", unfollowed := true, recurses := true, plainKeys := false, apart := false }
def GroupIdleSaid : Prop := groupIdleRow.holds Tryz.pinned (OpenSpec.ofChange groupIdleSpec)

/-- ITS FALSE NEIGHBOUR: 'it returns false'. Refute it at one input. -/
def groupIdleWrong : ChangeSpec := { name := "groupIdle", fn := fun _ => fun
  | [d1, d2] => { results := [.lit (.bool false)], args := [d1, d2] }
  | _ => none }
def GroupIdleWrongFalsely : Prop := groupIdleRow.holds Tryz.pinned (OpenSpec.ofChange groupIdleWrong)

/- THE SECOND FORM. 'bulk': how many values and letters a reading holds, each counted each time it is reached (what is shared counts as often as it is met; a slice's spare places count too). A statement '..UptoSaid' is the law's where the arguments, and the package variables that the reading takes, are together of bulk at most 1048576: NARROWER than '..Said'. Prove '..Said' where nothing that the law and all that it calls make is longer than what came in: it says more and counts as full. Else prove '..UptoSaid'. A law counts once. -/
mutual
def uptoBulk {H : Type} : DataW H → Nat
  | .lit (.string bytes) => bytes.length + 1
  | .lit _ => 1
  | .nil => 1
  | .ptr d => uptoBulk d + 1
  | .slice elems spare => uptoBulkAll elems + uptoBulkAll spare + 1
  | .agg parts => uptoBulkAll parts + 1
  | .iface _ d => uptoBulk d + 1
  | .map entries => uptoBulkEntries entries + 1
  | .held _ => 1
def uptoBulkAll {H : Type} : List (DataW H) → Nat
  | [] => 0
  | d :: r => uptoBulk d + uptoBulkAll r
def uptoBulkEntries {H : Type} : List (Lit × DataW H) → Nat
  | [] => 0
  | x :: r => uptoBulkEntry x + uptoBulkEntries r
def uptoBulkEntry {H : Type} : Lit × DataW H → Nat
  | (.string bytes, d) => bytes.length + uptoBulk d + 1
  | (_, d) => uptoBulk d + 1
 end
def uptoSmall : (H : Type) → List (DataW H) → Bool := fun _ ds => decide (uptoBulkAll ds ≤ 1048576)
def OpenSpec.upto (s : _root_.Go.ChangeSpec) : _root_.Go.OpenSpec := { _root_.Go.OpenSpec.ofChange s with cond := some uptoSmall }

/-- 'conclavelaw23.GroupCrashes', WHERE WHAT IT READS IS OF BULK AT MOST 1048576: true; the input reads as it did. -/
def groupCrashesUptoRow : OpenClaim := { program := "ytbjcfjnpjfdlhaagreat", sum := "a3986a2c3cfff7eb5e0bbd58d81a1588102a2db555beec479b2e7c272a502040", func := "conclave/conclavelaw23.GroupCrashes", spec := "groupCrashes", unfollowed := true, recurses := true, plainKeys := false, apart := false, narrowed := true }
def GroupCrashesUptoSaid : Prop := groupCrashesUptoRow.holds Tryz.pinned (OpenSpec.upto groupCrashesSpec)

/-- 'conclavelaw23.GroupNumbers', WHERE WHAT IT READS IS OF BULK AT MOST 1048576: true; the input reads as it did. -/
def groupNumbersUptoRow : OpenClaim := { program := "ytbjcfjnpjfdlhaagreat", sum := "a3986a2c3cfff7eb5e0bbd58d81a1588102a2db555beec479b2e7c272a502040", func := "conclave/conclavelaw23.GroupNumbers", spec := "groupNumbers", unfollowed := true, recurses := true, plainKeys := false, apart := false, narrowed := true }
def GroupNumbersUptoSaid : Prop := groupNumbersUptoRow.holds Tryz.pinned (OpenSpec.upto groupNumbersSpec)

/-- 'conclavelaw23.GroupAgrees', WHERE WHAT IT READS IS OF BULK AT MOST 1048576: true; the input reads as it did. -/
def groupAgreesUptoRow : OpenClaim := { program := "ytbjcfjnpjfdlhaagreat", sum := "a3986a2c3cfff7eb5e0bbd58d81a1588102a2db555beec479b2e7c272a502040", func := "conclave/conclavelaw23.GroupAgrees", spec := "groupAgrees", unfollowed := true, recurses := true, plainKeys := false, apart := false, narrowed := true }
def GroupAgreesUptoSaid : Prop := groupAgreesUptoRow.holds Tryz.pinned (OpenSpec.upto groupAgreesSpec)

/-- 'conclavelaw23.GroupSurvives', WHERE WHAT IT READS IS OF BULK AT MOST 1048576: true; the input reads as it did. -/
def groupSurvivesUptoRow : OpenClaim := { program := "ytbjcfjnpjfdlhaagreat", sum := "a3986a2c3cfff7eb5e0bbd58d81a1588102a2db555beec479b2e7c272a502040", func := "conclave/conclavelaw23.GroupSurvives", spec := "groupSurvives", unfollowed := true, recurses := true, plainKeys := false, apart := false, narrowed := true }
def GroupSurvivesUptoSaid : Prop := groupSurvivesUptoRow.holds Tryz.pinned (OpenSpec.upto groupSurvivesSpec)

/-- 'conclavelaw23.GroupQuorum', WHERE WHAT IT READS IS OF BULK AT MOST 1048576: true; the input reads as it did. -/
def groupQuorumUptoRow : OpenClaim := { program := "ytbjcfjnpjfdlhaagreat", sum := "a3986a2c3cfff7eb5e0bbd58d81a1588102a2db555beec479b2e7c272a502040", func := "conclave/conclavelaw23.GroupQuorum", spec := "groupQuorum", unfollowed := true, recurses := true, plainKeys := false, apart := false, narrowed := true }
def GroupQuorumUptoSaid : Prop := groupQuorumUptoRow.holds Tryz.pinned (OpenSpec.upto groupQuorumSpec)

/-- 'conclavelaw23.GroupAgain', WHERE WHAT IT READS IS OF BULK AT MOST 1048576: true; the input reads as it did. -/
def groupAgainUptoRow : OpenClaim := { program := "ytbjcfjnpjfdlhaagreat", sum := "a3986a2c3cfff7eb5e0bbd58d81a1588102a2db555beec479b2e7c272a502040", func := "conclave/conclavelaw23.GroupAgain", spec := "groupAgain", unfollowed := true, recurses := true, plainKeys := false, apart := false, narrowed := true }
def GroupAgainUptoSaid : Prop := groupAgainUptoRow.holds Tryz.pinned (OpenSpec.upto groupAgainSpec)

/-- 'conclavelaw23.GroupDoubles', WHERE WHAT IT READS IS OF BULK AT MOST 1048576: true; the input reads as it did. -/
def groupDoublesUptoRow : OpenClaim := { program := "ytbjcfjnpjfdlhaagreat", sum := "a3986a2c3cfff7eb5e0bbd58d81a1588102a2db555beec479b2e7c272a502040", func := "conclave/conclavelaw23.GroupDoubles", spec := "groupDoubles", unfollowed := true, recurses := true, plainKeys := false, apart := false, narrowed := true }
def GroupDoublesUptoSaid : Prop := groupDoublesUptoRow.holds Tryz.pinned (OpenSpec.upto groupDoublesSpec)

/-- 'conclavelaw23.GroupIdle', WHERE WHAT IT READS IS OF BULK AT MOST 1048576: true; the input reads as it did. -/
def groupIdleUptoRow : OpenClaim := { program := "ytbjcfjnpjfdlhaagreat", sum := "a3986a2c3cfff7eb5e0bbd58d81a1588102a2db555beec479b2e7c272a502040", func := "conclave/conclavelaw23.GroupIdle", spec := "groupIdle", unfollowed := true, recurses := true, plainKeys := false, apart := false, narrowed := true }
def GroupIdleUptoSaid : Prop := groupIdleUptoRow.holds Tryz.pinned (OpenSpec.upto groupIdleSpec)

end Rows
end Go.Proofs.YtbjcfjnpjfdlhaaGreat
