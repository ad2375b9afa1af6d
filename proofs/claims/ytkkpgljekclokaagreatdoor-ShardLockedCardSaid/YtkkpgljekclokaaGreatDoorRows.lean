/-
  NARROWER THAN 'FOR EVERY INPUT', by the rows' own cells (each row's printed sentence says how): ShardLocked: laid · ShardHidden: laid · ShardAgain: laid · ShardMoves: laid · ShardNumbers: laid · ShardKept: laid · ShardCopies: laid · ShardBytes: laid.
  DERIVED. THE GIVEN ROWS OF THIS SEAT. 8 by the template 'for every input the law returns true; each argument reads behind the call as it read before'; 0 by the template 'total and deterministic' (their statements: YtkkpgljekclokaaGreatDoorTotals.lean).
  GIVEN WITH THE SEED: the statements are not yours to turn. If you find one false, say at which input.
  Laid BY PROGRAM, IN A SANDBOX (cutbox-rows.mjs): the forced cells as the released guide's own fill.sh prints them over the translation 6af3fc1fce1c13b6… (all of the seat's roots in one cut). By AI agents, Wed Nov 11 2026. No macro, syntax, notation, axiom, sorry.
-/
import Derived.Test.YtkkpgljekclokaaGreatDoorChecked
import GoSem.Claim
import GoSem.ClaimJoined
import GoSem.ClaimMapViews
import Derived.JoinedTies
import Derived.KernelRfl
namespace Go.Proofs.YtkkpgljekclokaaGreatDoor
/- THE CELL 'sum', in the pinned program and in every row, IS THE sha256 OF THE DUMP (.gsa) THAT YtkkpgljekclokaaGreatDoorProg.lean LOADS. Nothing in Lean hashes anything: it is a label: what it is worth is what the hold of that sum in a sandbox is worth. -/
noncomputable def Tryz.pinned : Pinned := { name := "ytkkpgljekclokaagreatdoor", sum := "6af3fc1fce1c13b6cbd6fa03d1cf51c6f2c2498f2424d22f552159bbf303a9b7", checked := Tryz.checked }
namespace Rows
def none {H : Type} : Left H := { results := [], args := [] }

/- WHAT THE LISTED PACKAGE-LEVEL VARIABLES READ AS WHEN THE CALL BEGINS. Each datum BY PROGRAM (the guide's laid-datum.mjs) off the statement by which the dump's own 'gosem.cut.vars' lays the variable. In a bare row this is a premise. The card (YtkkpgljekclokaaGreatDoorCards.lean) ties it to the program's text. -/
def laid_math_bits_deBruijn32tab {H : Type} : DataW H := .agg [.lit (.int .u8 0), .lit (.int .u8 1), .lit (.int .u8 28), .lit (.int .u8 2), .lit (.int .u8 29), .lit (.int .u8 14), .lit (.int .u8 24), .lit (.int .u8 3), .lit (.int .u8 30), .lit (.int .u8 22), .lit (.int .u8 20), .lit (.int .u8 15), .lit (.int .u8 25), .lit (.int .u8 17), .lit (.int .u8 4), .lit (.int .u8 8), .lit (.int .u8 31), .lit (.int .u8 27), .lit (.int .u8 13), .lit (.int .u8 23), .lit (.int .u8 21), .lit (.int .u8 19), .lit (.int .u8 16), .lit (.int .u8 7), .lit (.int .u8 26), .lit (.int .u8 12), .lit (.int .u8 18), .lit (.int .u8 6), .lit (.int .u8 11), .lit (.int .u8 5), .lit (.int .u8 10), .lit (.int .u8 9)]
def laid_math_bits_deBruijn64tab {H : Type} : DataW H := .agg [.lit (.int .u8 0), .lit (.int .u8 1), .lit (.int .u8 56), .lit (.int .u8 2), .lit (.int .u8 57), .lit (.int .u8 49), .lit (.int .u8 28), .lit (.int .u8 3), .lit (.int .u8 61), .lit (.int .u8 58), .lit (.int .u8 42), .lit (.int .u8 50), .lit (.int .u8 38), .lit (.int .u8 29), .lit (.int .u8 17), .lit (.int .u8 4), .lit (.int .u8 62), .lit (.int .u8 47), .lit (.int .u8 59), .lit (.int .u8 36), .lit (.int .u8 45), .lit (.int .u8 43), .lit (.int .u8 51), .lit (.int .u8 22), .lit (.int .u8 53), .lit (.int .u8 39), .lit (.int .u8 33), .lit (.int .u8 30), .lit (.int .u8 24), .lit (.int .u8 18), .lit (.int .u8 12), .lit (.int .u8 5), .lit (.int .u8 63), .lit (.int .u8 55), .lit (.int .u8 48), .lit (.int .u8 27), .lit (.int .u8 60), .lit (.int .u8 41), .lit (.int .u8 37), .lit (.int .u8 16), .lit (.int .u8 46), .lit (.int .u8 35), .lit (.int .u8 44), .lit (.int .u8 21), .lit (.int .u8 52), .lit (.int .u8 32), .lit (.int .u8 23), .lit (.int .u8 11), .lit (.int .u8 54), .lit (.int .u8 26), .lit (.int .u8 40), .lit (.int .u8 15), .lit (.int .u8 34), .lit (.int .u8 20), .lit (.int .u8 31), .lit (.int .u8 10), .lit (.int .u8 25), .lit (.int .u8 14), .lit (.int .u8 19), .lit (.int .u8 9), .lit (.int .u8 13), .lit (.int .u8 8), .lit (.int .u8 7), .lit (.int .u8 6)]
def laid_internal_strconv_uint64pow10 {H : Type} : DataW H := .agg [.lit (.int .u64 1), .lit (.int .u64 10), .lit (.int .u64 100), .lit (.int .u64 1000), .lit (.int .u64 10000), .lit (.int .u64 100000), .lit (.int .u64 1000000), .lit (.int .u64 10000000), .lit (.int .u64 100000000), .lit (.int .u64 1000000000), .lit (.int .u64 10000000000), .lit (.int .u64 100000000000), .lit (.int .u64 1000000000000), .lit (.int .u64 10000000000000), .lit (.int .u64 100000000000000), .lit (.int .u64 1000000000000000), .lit (.int .u64 10000000000000000), .lit (.int .u64 100000000000000000), .lit (.int .u64 1000000000000000000), .lit (.int .u64 10000000000000000000)]
def laid_strconv_ErrRange {H : Type} : DataW H := .iface "*errors.errorString" (.ptr (.agg [.lit (.string [118, 97, 108, 117, 101, 32, 111, 117, 116, 32, 111, 102, 32, 114, 97, 110, 103, 101])]))
def laid_strconv_ErrSyntax {H : Type} : DataW H := .iface "*errors.errorString" (.ptr (.agg [.lit (.string [105, 110, 118, 97, 108, 105, 100, 32, 115, 121, 110, 116, 97, 120])]))

/-- 'conclavelaw16.ShardLocked': WHATEVER THE INPUT: true; the input reads as it did. -/
def shardLockedSpec : ChangeSpec := { name := "shardLocked", fn := fun _ => fun
  | [d1, d2, d3] => { results := [.lit (.bool true)], args := [d1, d2, d3] }
  | _ => none }
def shardLockedRow : OpenClaim := { program := "ytkkpgljekclokaagreatdoor", sum := "6af3fc1fce1c13b6cbd6fa03d1cf51c6f2c2498f2424d22f552159bbf303a9b7", func := "conclave/conclavelaw16.ShardLocked", spec := "shardLocked", unfollowed := true, recurses := true, named := ["strconv.ErrSyntax", "strconv.ErrRange", "internal/strconv.uint64pow10", "math/bits.deBruijn32tab", "math/bits.deBruijn64tab"], apart := false, laid := [("math/bits.deBruijn32tab", laid_math_bits_deBruijn32tab), ("math/bits.deBruijn64tab", laid_math_bits_deBruijn64tab), ("internal/strconv.uint64pow10", laid_internal_strconv_uint64pow10), ("strconv.ErrRange", laid_strconv_ErrRange), ("strconv.ErrSyntax", laid_strconv_ErrSyntax)] }
def ShardLockedSaid : Prop := shardLockedRow.holds Tryz.pinned (OpenSpec.ofChange shardLockedSpec)

/-- ITS FALSE NEIGHBOUR: 'it returns false'. Refute it at one input. -/
def shardLockedWrong : ChangeSpec := { name := "shardLocked", fn := fun _ => fun
  | [d1, d2, d3] => { results := [.lit (.bool false)], args := [d1, d2, d3] }
  | _ => none }
def ShardLockedWrongFalsely : Prop := shardLockedRow.holds Tryz.pinned (OpenSpec.ofChange shardLockedWrong)

/-- 'conclavelaw16.ShardHidden': WHATEVER THE INPUT: true; the input reads as it did. -/
def shardHiddenSpec : ChangeSpec := { name := "shardHidden", fn := fun _ => fun
  | [d1, d2, d3] => { results := [.lit (.bool true)], args := [d1, d2, d3] }
  | _ => none }
def shardHiddenRow : OpenClaim := { program := "ytkkpgljekclokaagreatdoor", sum := "6af3fc1fce1c13b6cbd6fa03d1cf51c6f2c2498f2424d22f552159bbf303a9b7", func := "conclave/conclavelaw16.ShardHidden", spec := "shardHidden", unfollowed := true, recurses := true, named := ["strconv.ErrSyntax", "strconv.ErrRange", "internal/strconv.uint64pow10", "math/bits.deBruijn32tab", "math/bits.deBruijn64tab"], apart := false, laid := [("math/bits.deBruijn32tab", laid_math_bits_deBruijn32tab), ("math/bits.deBruijn64tab", laid_math_bits_deBruijn64tab), ("internal/strconv.uint64pow10", laid_internal_strconv_uint64pow10), ("strconv.ErrRange", laid_strconv_ErrRange), ("strconv.ErrSyntax", laid_strconv_ErrSyntax)] }
def ShardHiddenSaid : Prop := shardHiddenRow.holds Tryz.pinned (OpenSpec.ofChange shardHiddenSpec)

/-- ITS FALSE NEIGHBOUR: 'it returns false'. Refute it at one input. -/
def shardHiddenWrong : ChangeSpec := { name := "shardHidden", fn := fun _ => fun
  | [d1, d2, d3] => { results := [.lit (.bool false)], args := [d1, d2, d3] }
  | _ => none }
def ShardHiddenWrongFalsely : Prop := shardHiddenRow.holds Tryz.pinned (OpenSpec.ofChange shardHiddenWrong)

/-- 'conclavelaw16.ShardAgain': WHATEVER THE INPUT: true; the input reads as it did. -/
def shardAgainSpec : ChangeSpec := { name := "shardAgain", fn := fun _ => fun
  | [d1, d2, d3, d4] => { results := [.lit (.bool true)], args := [d1, d2, d3, d4] }
  | _ => none }
def shardAgainRow : OpenClaim := { program := "ytkkpgljekclokaagreatdoor", sum := "6af3fc1fce1c13b6cbd6fa03d1cf51c6f2c2498f2424d22f552159bbf303a9b7", func := "conclave/conclavelaw16.ShardAgain", spec := "shardAgain", unfollowed := true, recurses := true, named := ["strconv.ErrSyntax", "strconv.ErrRange", "internal/strconv.uint64pow10", "math/bits.deBruijn32tab", "math/bits.deBruijn64tab"], apart := false, laid := [("math/bits.deBruijn32tab", laid_math_bits_deBruijn32tab), ("math/bits.deBruijn64tab", laid_math_bits_deBruijn64tab), ("internal/strconv.uint64pow10", laid_internal_strconv_uint64pow10), ("strconv.ErrRange", laid_strconv_ErrRange), ("strconv.ErrSyntax", laid_strconv_ErrSyntax)] }
def ShardAgainSaid : Prop := shardAgainRow.holds Tryz.pinned (OpenSpec.ofChange shardAgainSpec)

/-- ITS FALSE NEIGHBOUR: 'it returns false'. Refute it at one input. -/
def shardAgainWrong : ChangeSpec := { name := "shardAgain", fn := fun _ => fun
  | [d1, d2, d3, d4] => { results := [.lit (.bool false)], args := [d1, d2, d3, d4] }
  | _ => none }
def ShardAgainWrongFalsely : Prop := shardAgainRow.holds Tryz.pinned (OpenSpec.ofChange shardAgainWrong)

/-- 'conclavelaw16.ShardMoves': WHATEVER THE INPUT: true; the input reads as it did. -/
def shardMovesSpec : ChangeSpec := { name := "shardMoves", fn := fun _ => fun
  | [d1, d2, d3, d4] => { results := [.lit (.bool true)], args := [d1, d2, d3, d4] }
  | _ => none }
def shardMovesRow : OpenClaim := { program := "ytkkpgljekclokaagreatdoor", sum := "6af3fc1fce1c13b6cbd6fa03d1cf51c6f2c2498f2424d22f552159bbf303a9b7", func := "conclave/conclavelaw16.ShardMoves", spec := "shardMoves", unfollowed := true, recurses := true, named := ["strconv.ErrSyntax", "strconv.ErrRange", "internal/strconv.uint64pow10", "math/bits.deBruijn32tab", "math/bits.deBruijn64tab"], apart := false, laid := [("math/bits.deBruijn32tab", laid_math_bits_deBruijn32tab), ("math/bits.deBruijn64tab", laid_math_bits_deBruijn64tab), ("internal/strconv.uint64pow10", laid_internal_strconv_uint64pow10), ("strconv.ErrRange", laid_strconv_ErrRange), ("strconv.ErrSyntax", laid_strconv_ErrSyntax)] }
def ShardMovesSaid : Prop := shardMovesRow.holds Tryz.pinned (OpenSpec.ofChange shardMovesSpec)

/-- ITS FALSE NEIGHBOUR: 'it returns false'. Refute it at one input. -/
def shardMovesWrong : ChangeSpec := { name := "shardMoves", fn := fun _ => fun
  | [d1, d2, d3, d4] => { results := [.lit (.bool false)], args := [d1, d2, d3, d4] }
  | _ => none }
def ShardMovesWrongFalsely : Prop := shardMovesRow.holds Tryz.pinned (OpenSpec.ofChange shardMovesWrong)

/-- 'conclavelaw16.ShardNumbers': WHATEVER THE INPUT: true; the input reads as it did. -/
def shardNumbersSpec : ChangeSpec := { name := "shardNumbers", fn := fun _ => fun
  | [] => { results := [.lit (.bool true)], args := [] }
  | _ => none }
def shardNumbersRow : OpenClaim := { program := "ytkkpgljekclokaagreatdoor", sum := "6af3fc1fce1c13b6cbd6fa03d1cf51c6f2c2498f2424d22f552159bbf303a9b7", func := "conclave/conclavelaw16.ShardNumbers", spec := "shardNumbers", unfollowed := true, recurses := true, named := ["strconv.ErrSyntax", "strconv.ErrRange", "internal/strconv.uint64pow10", "math/bits.deBruijn32tab", "math/bits.deBruijn64tab"], apart := false, laid := [("math/bits.deBruijn32tab", laid_math_bits_deBruijn32tab), ("math/bits.deBruijn64tab", laid_math_bits_deBruijn64tab), ("internal/strconv.uint64pow10", laid_internal_strconv_uint64pow10), ("strconv.ErrRange", laid_strconv_ErrRange), ("strconv.ErrSyntax", laid_strconv_ErrSyntax)] }
def ShardNumbersSaid : Prop := shardNumbersRow.holds Tryz.pinned (OpenSpec.ofChange shardNumbersSpec)

/-- ITS FALSE NEIGHBOUR: 'it returns false'. Refute it at one input. -/
def shardNumbersWrong : ChangeSpec := { name := "shardNumbers", fn := fun _ => fun
  | [] => { results := [.lit (.bool false)], args := [] }
  | _ => none }
def ShardNumbersWrongFalsely : Prop := shardNumbersRow.holds Tryz.pinned (OpenSpec.ofChange shardNumbersWrong)

/-- 'conclavelaw16.ShardKept': WHATEVER THE INPUT: true; the input reads as it did. -/
def shardKeptSpec : ChangeSpec := { name := "shardKept", fn := fun _ => fun
  | [d] => { results := [.lit (.bool true)], args := [d] }
  | _ => none }
def shardKeptRow : OpenClaim := { program := "ytkkpgljekclokaagreatdoor", sum := "6af3fc1fce1c13b6cbd6fa03d1cf51c6f2c2498f2424d22f552159bbf303a9b7", func := "conclave/conclavelaw16.ShardKept", spec := "shardKept", unfollowed := true, recurses := true, named := ["strconv.ErrSyntax", "strconv.ErrRange", "internal/strconv.uint64pow10", "math/bits.deBruijn32tab", "math/bits.deBruijn64tab"], apart := false, laid := [("math/bits.deBruijn32tab", laid_math_bits_deBruijn32tab), ("math/bits.deBruijn64tab", laid_math_bits_deBruijn64tab), ("internal/strconv.uint64pow10", laid_internal_strconv_uint64pow10), ("strconv.ErrRange", laid_strconv_ErrRange), ("strconv.ErrSyntax", laid_strconv_ErrSyntax)] }
def ShardKeptSaid : Prop := shardKeptRow.holds Tryz.pinned (OpenSpec.ofChange shardKeptSpec)

/-- ITS FALSE NEIGHBOUR: 'it returns false'. Refute it at one input. -/
def shardKeptWrong : ChangeSpec := { name := "shardKept", fn := fun _ => fun
  | [d] => { results := [.lit (.bool false)], args := [d] }
  | _ => none }
def ShardKeptWrongFalsely : Prop := shardKeptRow.holds Tryz.pinned (OpenSpec.ofChange shardKeptWrong)

/-- 'conclavelaw16.ShardCopies': WHATEVER THE INPUT: true; the input reads as it did. -/
def shardCopiesSpec : ChangeSpec := { name := "shardCopies", fn := fun _ => fun
  | [d1, d2] => { results := [.lit (.bool true)], args := [d1, d2] }
  | _ => none }
def shardCopiesRow : OpenClaim := { program := "ytkkpgljekclokaagreatdoor", sum := "6af3fc1fce1c13b6cbd6fa03d1cf51c6f2c2498f2424d22f552159bbf303a9b7", func := "conclave/conclavelaw16.ShardCopies", spec := "shardCopies", unfollowed := true, recurses := true, named := ["strconv.ErrSyntax", "strconv.ErrRange", "internal/strconv.uint64pow10", "math/bits.deBruijn32tab", "math/bits.deBruijn64tab"], apart := false, laid := [("math/bits.deBruijn32tab", laid_math_bits_deBruijn32tab), ("math/bits.deBruijn64tab", laid_math_bits_deBruijn64tab), ("internal/strconv.uint64pow10", laid_internal_strconv_uint64pow10), ("strconv.ErrRange", laid_strconv_ErrRange), ("strconv.ErrSyntax", laid_strconv_ErrSyntax)] }
def ShardCopiesSaid : Prop := shardCopiesRow.holds Tryz.pinned (OpenSpec.ofChange shardCopiesSpec)

/-- ITS FALSE NEIGHBOUR: 'it returns false'. Refute it at one input. -/
def shardCopiesWrong : ChangeSpec := { name := "shardCopies", fn := fun _ => fun
  | [d1, d2] => { results := [.lit (.bool false)], args := [d1, d2] }
  | _ => none }
def ShardCopiesWrongFalsely : Prop := shardCopiesRow.holds Tryz.pinned (OpenSpec.ofChange shardCopiesWrong)

/-- 'conclavelaw16.ShardBytes': WHATEVER THE INPUT: true; the input reads as it did. -/
def shardBytesSpec : ChangeSpec := { name := "shardBytes", fn := fun _ => fun
  | [d1, d2] => { results := [.lit (.bool true)], args := [d1, d2] }
  | _ => none }
def shardBytesRow : OpenClaim := { program := "ytkkpgljekclokaagreatdoor", sum := "6af3fc1fce1c13b6cbd6fa03d1cf51c6f2c2498f2424d22f552159bbf303a9b7", func := "conclave/conclavelaw16.ShardBytes", spec := "shardBytes", unfollowed := true, recurses := true, named := ["strconv.ErrSyntax", "strconv.ErrRange", "internal/strconv.uint64pow10", "math/bits.deBruijn32tab", "math/bits.deBruijn64tab"], apart := false, laid := [("math/bits.deBruijn32tab", laid_math_bits_deBruijn32tab), ("math/bits.deBruijn64tab", laid_math_bits_deBruijn64tab), ("internal/strconv.uint64pow10", laid_internal_strconv_uint64pow10), ("strconv.ErrRange", laid_strconv_ErrRange), ("strconv.ErrSyntax", laid_strconv_ErrSyntax)] }
def ShardBytesSaid : Prop := shardBytesRow.holds Tryz.pinned (OpenSpec.ofChange shardBytesSpec)

/-- ITS FALSE NEIGHBOUR: 'it returns false'. Refute it at one input. -/
def shardBytesWrong : ChangeSpec := { name := "shardBytes", fn := fun _ => fun
  | [d1, d2] => { results := [.lit (.bool false)], args := [d1, d2] }
  | _ => none }
def ShardBytesWrongFalsely : Prop := shardBytesRow.holds Tryz.pinned (OpenSpec.ofChange shardBytesWrong)

/- THE SECOND FORM. 'bulk': how many values and letters a reading holds, each counted each time it is reached (what is shared counts as often as it is met; a slice's spare places count too). A statement '..UptoSaid' is the law's where the arguments, and the package variables that the reading takes, are together of bulk at most 1048576: NARROWER than '..Said'. Prove '..Said' where nothing that the law and all that it calls make is longer than what came in: it says more and counts as full. Else prove '..UptoSaid'. A law counts once. -/
mutual
def uptoBulk {H : Type} : DataW H → Nat
  | .lit (.string bytes) => bytes.length + 1
  | .lit _ => 1
  | .nil => 1
  | .ptr d => uptoBulk d + 1
  | .slice elems spare => uptoBulkAll elems + uptoBulkAll spare + 1
  | .agg parts => uptoBulkAll parts + 1
  | .iface _ d => uptoBulk d + 1
  | .map entries => uptoBulkEntries entries + 1
  | .held _ => 1
def uptoBulkAll {H : Type} : List (DataW H) → Nat
  | [] => 0
  | d :: r => uptoBulk d + uptoBulkAll r
def uptoBulkEntries {H : Type} : List (Lit × DataW H) → Nat
  | [] => 0
  | x :: r => uptoBulkEntry x + uptoBulkEntries r
def uptoBulkEntry {H : Type} : Lit × DataW H → Nat
  | (.string bytes, d) => bytes.length + uptoBulk d + 1
  | (_, d) => uptoBulk d + 1
 end
def uptoSmall : (H : Type) → List (DataW H) → Bool := fun _ ds => decide (uptoBulkAll ds ≤ 1048576)
def OpenSpec.upto (s : _root_.Go.ChangeSpec) : _root_.Go.OpenSpec := { _root_.Go.OpenSpec.ofChange s with cond := some uptoSmall }

/-- 'conclavelaw16.ShardLocked', WHERE WHAT IT READS IS OF BULK AT MOST 1048576: true; the input reads as it did. -/
def shardLockedUptoRow : OpenClaim := { program := "ytkkpgljekclokaagreatdoor", sum := "6af3fc1fce1c13b6cbd6fa03d1cf51c6f2c2498f2424d22f552159bbf303a9b7", func := "conclave/conclavelaw16.ShardLocked", spec := "shardLocked", unfollowed := true, recurses := true, named := ["strconv.ErrSyntax", "strconv.ErrRange", "internal/strconv.uint64pow10", "math/bits.deBruijn32tab", "math/bits.deBruijn64tab"], apart := false, laid := [("math/bits.deBruijn32tab", laid_math_bits_deBruijn32tab), ("math/bits.deBruijn64tab", laid_math_bits_deBruijn64tab), ("internal/strconv.uint64pow10", laid_internal_strconv_uint64pow10), ("strconv.ErrRange", laid_strconv_ErrRange), ("strconv.ErrSyntax", laid_strconv_ErrSyntax)], narrowed := true }
def ShardLockedUptoSaid : Prop := shardLockedUptoRow.holds Tryz.pinned (OpenSpec.upto shardLockedSpec)

/-- 'conclavelaw16.ShardHidden', WHERE WHAT IT READS IS OF BULK AT MOST 1048576: true; the input reads as it did. -/
def shardHiddenUptoRow : OpenClaim := { program := "ytkkpgljekclokaagreatdoor", sum := "6af3fc1fce1c13b6cbd6fa03d1cf51c6f2c2498f2424d22f552159bbf303a9b7", func := "conclave/conclavelaw16.ShardHidden", spec := "shardHidden", unfollowed := true, recurses := true, named := ["strconv.ErrSyntax", "strconv.ErrRange", "internal/strconv.uint64pow10", "math/bits.deBruijn32tab", "math/bits.deBruijn64tab"], apart := false, laid := [("math/bits.deBruijn32tab", laid_math_bits_deBruijn32tab), ("math/bits.deBruijn64tab", laid_math_bits_deBruijn64tab), ("internal/strconv.uint64pow10", laid_internal_strconv_uint64pow10), ("strconv.ErrRange", laid_strconv_ErrRange), ("strconv.ErrSyntax", laid_strconv_ErrSyntax)], narrowed := true }
def ShardHiddenUptoSaid : Prop := shardHiddenUptoRow.holds Tryz.pinned (OpenSpec.upto shardHiddenSpec)

/-- 'conclavelaw16.ShardAgain', WHERE WHAT IT READS IS OF BULK AT MOST 1048576: true; the input reads as it did. -/
def shardAgainUptoRow : OpenClaim := { program := "ytkkpgljekclokaagreatdoor", sum := "6af3fc1fce1c13b6cbd6fa03d1cf51c6f2c2498f2424d22f552159bbf303a9b7", func := "conclave/conclavelaw16.ShardAgain", spec := "shardAgain", unfollowed := true, recurses := true, named := ["strconv.ErrSyntax", "strconv.ErrRange", "internal/strconv.uint64pow10", "math/bits.deBruijn32tab", "math/bits.deBruijn64tab"], apart := false, laid := [("math/bits.deBruijn32tab", laid_math_bits_deBruijn32tab), ("math/bits.deBruijn64tab", laid_math_bits_deBruijn64tab), ("internal/strconv.uint64pow10", laid_internal_strconv_uint64pow10), ("strconv.ErrRange", laid_strconv_ErrRange), ("strconv.ErrSyntax", laid_strconv_ErrSyntax)], narrowed := true }
def ShardAgainUptoSaid : Prop := shardAgainUptoRow.holds Tryz.pinned (OpenSpec.upto shardAgainSpec)

/-- 'conclavelaw16.ShardMoves', WHERE WHAT IT READS IS OF BULK AT MOST 1048576: true; the input reads as it did. -/
def shardMovesUptoRow : OpenClaim := { program := "ytkkpgljekclokaagreatdoor", sum := "6af3fc1fce1c13b6cbd6fa03d1cf51c6f2c2498f2424d22f552159bbf303a9b7", func := "conclave/conclavelaw16.ShardMoves", spec := "shardMoves", unfollowed := true, recurses := true, named := ["strconv.ErrSyntax", "strconv.ErrRange", "internal/strconv.uint64pow10", "math/bits.deBruijn32tab", "math/bits.deBruijn64tab"], apart := false, laid := [("math/bits.deBruijn32tab", laid_math_bits_deBruijn32tab), ("math/bits.deBruijn64tab", laid_math_bits_deBruijn64tab), ("internal/strconv.uint64pow10", laid_internal_strconv_uint64pow10), ("strconv.ErrRange", laid_strconv_ErrRange), ("strconv.ErrSyntax", laid_strconv_ErrSyntax)], narrowed := true }
def ShardMovesUptoSaid : Prop := shardMovesUptoRow.holds Tryz.pinned (OpenSpec.upto shardMovesSpec)

/-- 'conclavelaw16.ShardNumbers', WHERE WHAT IT READS IS OF BULK AT MOST 1048576: true; the input reads as it did. -/
def shardNumbersUptoRow : OpenClaim := { program := "ytkkpgljekclokaagreatdoor", sum := "6af3fc1fce1c13b6cbd6fa03d1cf51c6f2c2498f2424d22f552159bbf303a9b7", func := "conclave/conclavelaw16.ShardNumbers", spec := "shardNumbers", unfollowed := true, recurses := true, named := ["strconv.ErrSyntax", "strconv.ErrRange", "internal/strconv.uint64pow10", "math/bits.deBruijn32tab", "math/bits.deBruijn64tab"], apart := false, laid := [("math/bits.deBruijn32tab", laid_math_bits_deBruijn32tab), ("math/bits.deBruijn64tab", laid_math_bits_deBruijn64tab), ("internal/strconv.uint64pow10", laid_internal_strconv_uint64pow10), ("strconv.ErrRange", laid_strconv_ErrRange), ("strconv.ErrSyntax", laid_strconv_ErrSyntax)], narrowed := true }
def ShardNumbersUptoSaid : Prop := shardNumbersUptoRow.holds Tryz.pinned (OpenSpec.upto shardNumbersSpec)

/-- 'conclavelaw16.ShardKept', WHERE WHAT IT READS IS OF BULK AT MOST 1048576: true; the input reads as it did. -/
def shardKeptUptoRow : OpenClaim := { program := "ytkkpgljekclokaagreatdoor", sum := "6af3fc1fce1c13b6cbd6fa03d1cf51c6f2c2498f2424d22f552159bbf303a9b7", func := "conclave/conclavelaw16.ShardKept", spec := "shardKept", unfollowed := true, recurses := true, named := ["strconv.ErrSyntax", "strconv.ErrRange", "internal/strconv.uint64pow10", "math/bits.deBruijn32tab", "math/bits.deBruijn64tab"], apart := false, laid := [("math/bits.deBruijn32tab", laid_math_bits_deBruijn32tab), ("math/bits.deBruijn64tab", laid_math_bits_deBruijn64tab), ("internal/strconv.uint64pow10", laid_internal_strconv_uint64pow10), ("strconv.ErrRange", laid_strconv_ErrRange), ("strconv.ErrSyntax", laid_strconv_ErrSyntax)], narrowed := true }
def ShardKeptUptoSaid : Prop := shardKeptUptoRow.holds Tryz.pinned (OpenSpec.upto shardKeptSpec)

/-- 'conclavelaw16.ShardCopies', WHERE WHAT IT READS IS OF BULK AT MOST 1048576: true; the input reads as it did. -/
def shardCopiesUptoRow : OpenClaim := { program := "ytkkpgljekclokaagreatdoor", sum := "6af3fc1fce1c13b6cbd6fa03d1cf51c6f2c2498f2424d22f552159bbf303a9b7", func := "conclave/conclavelaw16.ShardCopies", spec := "shardCopies", unfollowed := true, recurses := true, named := ["strconv.ErrSyntax", "strconv.ErrRange", "internal/strconv.uint64pow10", "math/bits.deBruijn32tab", "math/bits.deBruijn64tab"], apart := false, laid := [("math/bits.deBruijn32tab", laid_math_bits_deBruijn32tab), ("math/bits.deBruijn64tab", laid_math_bits_deBruijn64tab), ("internal/strconv.uint64pow10", laid_internal_strconv_uint64pow10), ("strconv.ErrRange", laid_strconv_ErrRange), ("strconv.ErrSyntax", laid_strconv_ErrSyntax)], narrowed := true }
def ShardCopiesUptoSaid : Prop := shardCopiesUptoRow.holds Tryz.pinned (OpenSpec.upto shardCopiesSpec)

/-- 'conclavelaw16.ShardBytes', WHERE WHAT IT READS IS OF BULK AT MOST 1048576: true; the input reads as it did. -/
def shardBytesUptoRow : OpenClaim := { program := "ytkkpgljekclokaagreatdoor", sum := "6af3fc1fce1c13b6cbd6fa03d1cf51c6f2c2498f2424d22f552159bbf303a9b7", func := "conclave/conclavelaw16.ShardBytes", spec := "shardBytes", unfollowed := true, recurses := true, named := ["strconv.ErrSyntax", "strconv.ErrRange", "internal/strconv.uint64pow10", "math/bits.deBruijn32tab", "math/bits.deBruijn64tab"], apart := false, laid := [("math/bits.deBruijn32tab", laid_math_bits_deBruijn32tab), ("math/bits.deBruijn64tab", laid_math_bits_deBruijn64tab), ("internal/strconv.uint64pow10", laid_internal_strconv_uint64pow10), ("strconv.ErrRange", laid_strconv_ErrRange), ("strconv.ErrSyntax", laid_strconv_ErrSyntax)], narrowed := true }
def ShardBytesUptoSaid : Prop := shardBytesUptoRow.holds Tryz.pinned (OpenSpec.upto shardBytesSpec)

end Rows
end Go.Proofs.YtkkpgljekclokaaGreatDoor
