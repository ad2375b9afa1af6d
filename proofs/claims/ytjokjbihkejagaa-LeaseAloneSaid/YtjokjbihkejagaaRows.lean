/-
  No cell of these rows narrows 'for every input' (looked for: loops, veiled, ifaces, maps, wideKeys, modest, calm, conditions, laid).
  DERIVED. THE GIVEN ROWS OF THIS SEAT. 7 by the template 'for every input the law returns true; each argument reads behind the call as it read before'; 0 by the template 'total and deterministic' (their statements: YtjokjbihkejagaaTotals.lean).
  GIVEN WITH THE SEED: the statements are not yours to turn. If you find one false, say at which input.
  Laid BY PROGRAM, IN A SANDBOX (cutbox-rows.mjs): the forced cells as the released guide's own fill.sh prints them over the translation dc1943d256de0aec… (all of the seat's roots in one cut). By AI agents, Wed Nov 11 2026. No macro, syntax, notation, axiom, sorry.
-/
import Derived.Test.YtjokjbihkejagaaChecked
import GoSem.Claim
import GoSem.ClaimJoined
import GoSem.ClaimMapViews
import Derived.JoinedTies
import Derived.KernelRfl
namespace Go.Proofs.Ytjokjbihkejagaa
/- THE CELL 'sum', in the pinned program and in every row, IS THE sha256 OF THE DUMP (.gsa) THAT YtjokjbihkejagaaProg.lean LOADS. Nothing in Lean hashes anything: it is a label: what it is worth is what the hold of that sum in a sandbox is worth. -/
noncomputable def Try.pinned : Pinned := { name := "ytjokjbihkejagaa", sum := "dc1943d256de0aecda3501af8e53685a8a6dfd96817a58764bd87e9b7f71d863", checked := Try.checked }
namespace Rows
def none {H : Type} : Left H := { results := [], args := [] }

/-- 'conclavelaw11.LeaseSafe': WHATEVER THE INPUT: true; the input reads as it did. -/
def leaseSafeSpec : ChangeSpec := { name := "leaseSafe", fn := fun _ => fun
  | [d1, d2, d3, d4, d5, d6, d7] => { results := [.lit (.bool true)], args := [d1, d2, d3, d4, d5, d6, d7] }
  | _ => none }
def leaseSafeRow : OpenClaim := { program := "ytjokjbihkejagaa", sum := "dc1943d256de0aecda3501af8e53685a8a6dfd96817a58764bd87e9b7f71d863", func := "conclave/conclavelaw11.LeaseSafe", spec := "leaseSafe", apart := false }
def LeaseSafeSaid : Prop := leaseSafeRow.holds Try.pinned (OpenSpec.ofChange leaseSafeSpec)

/-- ITS FALSE NEIGHBOUR: 'it returns false'. Refute it at one input. -/
def leaseSafeWrong : ChangeSpec := { name := "leaseSafe", fn := fun _ => fun
  | [d1, d2, d3, d4, d5, d6, d7] => { results := [.lit (.bool false)], args := [d1, d2, d3, d4, d5, d6, d7] }
  | _ => none }
def LeaseSafeWrongFalsely : Prop := leaseSafeRow.holds Try.pinned (OpenSpec.ofChange leaseSafeWrong)

/-- 'conclavelaw11.LeaseAlone': WHATEVER THE INPUT: true; the input reads as it did. -/
def leaseAloneSpec : ChangeSpec := { name := "leaseAlone", fn := fun _ => fun
  | [d1, d2, d3] => { results := [.lit (.bool true)], args := [d1, d2, d3] }
  | _ => none }
def leaseAloneRow : OpenClaim := { program := "ytjokjbihkejagaa", sum := "dc1943d256de0aecda3501af8e53685a8a6dfd96817a58764bd87e9b7f71d863", func := "conclave/conclavelaw11.LeaseAlone", spec := "leaseAlone", apart := false }
def LeaseAloneSaid : Prop := leaseAloneRow.holds Try.pinned (OpenSpec.ofChange leaseAloneSpec)

/-- ITS FALSE NEIGHBOUR: 'it returns false'. Refute it at one input. -/
def leaseAloneWrong : ChangeSpec := { name := "leaseAlone", fn := fun _ => fun
  | [d1, d2, d3] => { results := [.lit (.bool false)], args := [d1, d2, d3] }
  | _ => none }
def LeaseAloneWrongFalsely : Prop := leaseAloneRow.holds Try.pinned (OpenSpec.ofChange leaseAloneWrong)

/-- 'conclavelaw11.LeasePlays': WHATEVER THE INPUT: true; the input reads as it did. -/
def leasePlaysSpec : ChangeSpec := { name := "leasePlays", fn := fun _ => fun
  | [d1, d2] => { results := [.lit (.bool true)], args := [d1, d2] }
  | _ => none }
def leasePlaysRow : OpenClaim := { program := "ytjokjbihkejagaa", sum := "dc1943d256de0aecda3501af8e53685a8a6dfd96817a58764bd87e9b7f71d863", func := "conclave/conclavelaw11.LeasePlays", spec := "leasePlays", apart := false }
def LeasePlaysSaid : Prop := leasePlaysRow.holds Try.pinned (OpenSpec.ofChange leasePlaysSpec)

/-- ITS FALSE NEIGHBOUR: 'it returns false'. Refute it at one input. -/
def leasePlaysWrong : ChangeSpec := { name := "leasePlays", fn := fun _ => fun
  | [d1, d2] => { results := [.lit (.bool false)], args := [d1, d2] }
  | _ => none }
def LeasePlaysWrongFalsely : Prop := leasePlaysRow.holds Try.pinned (OpenSpec.ofChange leasePlaysWrong)

/-- 'conclavelaw11.LeaseLost': WHATEVER THE INPUT: true; the input reads as it did. -/
def leaseLostSpec : ChangeSpec := { name := "leaseLost", fn := fun _ => fun
  | [d1, d2, d3, d4] => { results := [.lit (.bool true)], args := [d1, d2, d3, d4] }
  | _ => none }
def leaseLostRow : OpenClaim := { program := "ytjokjbihkejagaa", sum := "dc1943d256de0aecda3501af8e53685a8a6dfd96817a58764bd87e9b7f71d863", func := "conclave/conclavelaw11.LeaseLost", spec := "leaseLost", apart := false }
def LeaseLostSaid : Prop := leaseLostRow.holds Try.pinned (OpenSpec.ofChange leaseLostSpec)

/-- ITS FALSE NEIGHBOUR: 'it returns false'. Refute it at one input. -/
def leaseLostWrong : ChangeSpec := { name := "leaseLost", fn := fun _ => fun
  | [d1, d2, d3, d4] => { results := [.lit (.bool false)], args := [d1, d2, d3, d4] }
  | _ => none }
def LeaseLostWrongFalsely : Prop := leaseLostRow.holds Try.pinned (OpenSpec.ofChange leaseLostWrong)

/-- 'conclavelaw11.LeaseTells': WHATEVER THE INPUT: true; the input reads as it did. -/
def leaseTellsSpec : ChangeSpec := { name := "leaseTells", fn := fun _ => fun
  | [d1, d2, d3, d4] => { results := [.lit (.bool true)], args := [d1, d2, d3, d4] }
  | _ => none }
def leaseTellsRow : OpenClaim := { program := "ytjokjbihkejagaa", sum := "dc1943d256de0aecda3501af8e53685a8a6dfd96817a58764bd87e9b7f71d863", func := "conclave/conclavelaw11.LeaseTells", spec := "leaseTells", apart := false }
def LeaseTellsSaid : Prop := leaseTellsRow.holds Try.pinned (OpenSpec.ofChange leaseTellsSpec)

/-- ITS FALSE NEIGHBOUR: 'it returns false'. Refute it at one input. -/
def leaseTellsWrong : ChangeSpec := { name := "leaseTells", fn := fun _ => fun
  | [d1, d2, d3, d4] => { results := [.lit (.bool false)], args := [d1, d2, d3, d4] }
  | _ => none }
def LeaseTellsWrongFalsely : Prop := leaseTellsRow.holds Try.pinned (OpenSpec.ofChange leaseTellsWrong)

/-- 'conclavelaw11.LeaseFair': WHATEVER THE INPUT: true; the input reads as it did. -/
def leaseFairSpec : ChangeSpec := { name := "leaseFair", fn := fun _ => fun
  | [d1, d2, d3, d4, d5] => { results := [.lit (.bool true)], args := [d1, d2, d3, d4, d5] }
  | _ => none }
def leaseFairRow : OpenClaim := { program := "ytjokjbihkejagaa", sum := "dc1943d256de0aecda3501af8e53685a8a6dfd96817a58764bd87e9b7f71d863", func := "conclave/conclavelaw11.LeaseFair", spec := "leaseFair", apart := false }
def LeaseFairSaid : Prop := leaseFairRow.holds Try.pinned (OpenSpec.ofChange leaseFairSpec)

/-- ITS FALSE NEIGHBOUR: 'it returns false'. Refute it at one input. -/
def leaseFairWrong : ChangeSpec := { name := "leaseFair", fn := fun _ => fun
  | [d1, d2, d3, d4, d5] => { results := [.lit (.bool false)], args := [d1, d2, d3, d4, d5] }
  | _ => none }
def LeaseFairWrongFalsely : Prop := leaseFairRow.holds Try.pinned (OpenSpec.ofChange leaseFairWrong)

/-- 'conclavelaw11.LeaseNumbers': WHATEVER THE INPUT: true; the input reads as it did. -/
def leaseNumbersSpec : ChangeSpec := { name := "leaseNumbers", fn := fun _ => fun
  | [] => { results := [.lit (.bool true)], args := [] }
  | _ => none }
def leaseNumbersRow : OpenClaim := { program := "ytjokjbihkejagaa", sum := "dc1943d256de0aecda3501af8e53685a8a6dfd96817a58764bd87e9b7f71d863", func := "conclave/conclavelaw11.LeaseNumbers", spec := "leaseNumbers", apart := false }
def LeaseNumbersSaid : Prop := leaseNumbersRow.holds Try.pinned (OpenSpec.ofChange leaseNumbersSpec)

/-- ITS FALSE NEIGHBOUR: 'it returns false'. Refute it at one input. -/
def leaseNumbersWrong : ChangeSpec := { name := "leaseNumbers", fn := fun _ => fun
  | [] => { results := [.lit (.bool false)], args := [] }
  | _ => none }
def LeaseNumbersWrongFalsely : Prop := leaseNumbersRow.holds Try.pinned (OpenSpec.ofChange leaseNumbersWrong)

/- THE SECOND FORM. 'bulk': how many values and letters a reading holds, each counted each time it is reached (what is shared counts as often as it is met; a slice's spare places count too). A statement '..UptoSaid' is the law's where the arguments, and the package variables that the reading takes, are together of bulk at most 1048576: NARROWER than '..Said'. Prove '..Said' where nothing that the law and all that it calls make is longer than what came in: it says more and counts as full. Else prove '..UptoSaid'. A law counts once. -/
mutual
def uptoBulk {H : Type} : DataW H → Nat
  | .lit (.string bytes) => bytes.length + 1
  | .lit _ => 1
  | .nil => 1
  | .ptr d => uptoBulk d + 1
  | .slice elems spare => uptoBulkAll elems + uptoBulkAll spare + 1
  | .agg parts => uptoBulkAll parts + 1
  | .iface _ d => uptoBulk d + 1
  | .map entries => uptoBulkEntries entries + 1
  | .held _ => 1
def uptoBulkAll {H : Type} : List (DataW H) → Nat
  | [] => 0
  | d :: r => uptoBulk d + uptoBulkAll r
def uptoBulkEntries {H : Type} : List (Lit × DataW H) → Nat
  | [] => 0
  | x :: r => uptoBulkEntry x + uptoBulkEntries r
def uptoBulkEntry {H : Type} : Lit × DataW H → Nat
  | (.string bytes, d) => bytes.length + uptoBulk d + 1
  | (_, d) => uptoBulk d + 1
 end
def uptoSmall : (H : Type) → List (DataW H) → Bool := fun _ ds => decide (uptoBulkAll ds ≤ 1048576)
def OpenSpec.upto (s : _root_.Go.ChangeSpec) : _root_.Go.OpenSpec := { _root_.Go.OpenSpec.ofChange s with cond := some uptoSmall }

/-- 'conclavelaw11.LeaseSafe', WHERE WHAT IT READS IS OF BULK AT MOST 1048576: true; the input reads as it did. -/
def leaseSafeUptoRow : OpenClaim := { program := "ytjokjbihkejagaa", sum := "dc1943d256de0aecda3501af8e53685a8a6dfd96817a58764bd87e9b7f71d863", func := "conclave/conclavelaw11.LeaseSafe", spec := "leaseSafe", apart := false, narrowed := true }
def LeaseSafeUptoSaid : Prop := leaseSafeUptoRow.holds Try.pinned (OpenSpec.upto leaseSafeSpec)

/-- 'conclavelaw11.LeaseAlone', WHERE WHAT IT READS IS OF BULK AT MOST 1048576: true; the input reads as it did. -/
def leaseAloneUptoRow : OpenClaim := { program := "ytjokjbihkejagaa", sum := "dc1943d256de0aecda3501af8e53685a8a6dfd96817a58764bd87e9b7f71d863", func := "conclave/conclavelaw11.LeaseAlone", spec := "leaseAlone", apart := false, narrowed := true }
def LeaseAloneUptoSaid : Prop := leaseAloneUptoRow.holds Try.pinned (OpenSpec.upto leaseAloneSpec)

/-- 'conclavelaw11.LeasePlays', WHERE WHAT IT READS IS OF BULK AT MOST 1048576: true; the input reads as it did. -/
def leasePlaysUptoRow : OpenClaim := { program := "ytjokjbihkejagaa", sum := "dc1943d256de0aecda3501af8e53685a8a6dfd96817a58764bd87e9b7f71d863", func := "conclave/conclavelaw11.LeasePlays", spec := "leasePlays", apart := false, narrowed := true }
def LeasePlaysUptoSaid : Prop := leasePlaysUptoRow.holds Try.pinned (OpenSpec.upto leasePlaysSpec)

/-- 'conclavelaw11.LeaseLost', WHERE WHAT IT READS IS OF BULK AT MOST 1048576: true; the input reads as it did. -/
def leaseLostUptoRow : OpenClaim := { program := "ytjokjbihkejagaa", sum := "dc1943d256de0aecda3501af8e53685a8a6dfd96817a58764bd87e9b7f71d863", func := "conclave/conclavelaw11.LeaseLost", spec := "leaseLost", apart := false, narrowed := true }
def LeaseLostUptoSaid : Prop := leaseLostUptoRow.holds Try.pinned (OpenSpec.upto leaseLostSpec)

/-- 'conclavelaw11.LeaseTells', WHERE WHAT IT READS IS OF BULK AT MOST 1048576: true; the input reads as it did. -/
def leaseTellsUptoRow : OpenClaim := { program := "ytjokjbihkejagaa", sum := "dc1943d256de0aecda3501af8e53685a8a6dfd96817a58764bd87e9b7f71d863", func := "conclave/conclavelaw11.LeaseTells", spec := "leaseTells", apart := false, narrowed := true }
def LeaseTellsUptoSaid : Prop := leaseTellsUptoRow.holds Try.pinned (OpenSpec.upto leaseTellsSpec)

/-- 'conclavelaw11.LeaseFair', WHERE WHAT IT READS IS OF BULK AT MOST 1048576: true; the input reads as it did. -/
def leaseFairUptoRow : OpenClaim := { program := "ytjokjbihkejagaa", sum := "dc1943d256de0aecda3501af8e53685a8a6dfd96817a58764bd87e9b7f71d863", func := "conclave/conclavelaw11.LeaseFair", spec := "leaseFair", apart := false, narrowed := true }
def LeaseFairUptoSaid : Prop := leaseFairUptoRow.holds Try.pinned (OpenSpec.upto leaseFairSpec)

/-- 'conclavelaw11.LeaseNumbers', WHERE WHAT IT READS IS OF BULK AT MOST 1048576: true; the input reads as it did. -/
def leaseNumbersUptoRow : OpenClaim := { program := "ytjokjbihkejagaa", sum := "dc1943d256de0aecda3501af8e53685a8a6dfd96817a58764bd87e9b7f71d863", func := "conclave/conclavelaw11.LeaseNumbers", spec := "leaseNumbers", apart := false, narrowed := true }
def LeaseNumbersUptoSaid : Prop := leaseNumbersUptoRow.holds Try.pinned (OpenSpec.upto leaseNumbersSpec)

end Rows
end Go.Proofs.Ytjokjbihkejagaa
