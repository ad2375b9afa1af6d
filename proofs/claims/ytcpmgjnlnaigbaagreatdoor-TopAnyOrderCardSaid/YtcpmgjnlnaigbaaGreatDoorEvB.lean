/- The abstract machine's operations, regions, code, calls. -/
import Derived.Test.YtcpmgjnlnaigbaaGreatDoorEvA
set_option linter.unusedVariables false
noncomputable section
namespace Go.Ev
open Go

/-- what an operation is: it reckons, reads, makes, acts -/
inductive Cl where
  | pure | read | make | act

def cls (P : Program) (o : Op) : Cl :=
  match o with
  | .move _ | .assign _ | .pick .. | .nilCheck _ | .binOp .. | .unOp .. | .makeInterface .. | .makeFunc .. | .fieldAddr .. | .field .. | .indexAddr .. | .index .. | .slice .. | .extract .. | .build .. => .pure
  | .load .. | .lookup .. => .read
  | .alloc _ | .box .. | .buildSlice .. | .makeMap .. | .makeSlice .. => .make
  | .convert s _ _ => match P.underlying s with
    | some .string => .make
    | some (.slice _) => .read
    | _ => .pure
  | .call c => match c.callee with
    | .builtin .len => match (c.argTypes[0]?).bind P.underlying with
      | some (.map _ _) => .read
      | _ => .pure
    | .builtin .cap | .builtin .max | .builtin .min => .pure
    | _ => .act
  | _ => .act

abbrev PureF := Program → Env → Option AV

def kMove (x : Operand) : PureF := fun _ ρ => ρ x
def kPick (c a b : Operand) : PureF := fun _ ρ => ob (ρ c) fun v => onBool v fun t => bc t (ρ a) (ρ b)
/-- a value that is no nil pointer, method or nil function -/
def notNil (v : AV) : Option AV :=
  match v with
  | .ptr a => Option.casesOn (motive := fun _ => Option AV) a none fun _ => some v
  | .func f _ _ => Fn.casesOn (motive := fun _ => Option AV) f (fun _ => some v) (fun _ => none) (fun _ _ => none) (fun _ _ _ _ => none) (fun _ => none)
  | .iface _ _ => some v
  | _ => none
def kNil (x : Operand) : PureF := fun _ ρ => ob (ρ x) notNil
def isConstO (x : Operand) : Bool := Operand.casesOn (motive := fun _ => Bool) x (fun _ => false) (fun _ => true) (fun _ => false) (fun _ => false)
/-- an operation of two numbers, made ready -/
def intB (op : BinOp) : Bx (IntKind → Int → Int → Option AV) :=
  match op with
  | .add => ⟨fun k a b => some (.int k (wrapA k (Int.add a b)))⟩
  | .sub => ⟨fun k a b => some (.int k (wrapA k (Int.sub a b)))⟩
  | .mul => ⟨fun k a b => some (.int k (wrapA k (Int.mul a b)))⟩
  | .eql => ⟨fun _ a b => some (.bool (eqI a b))⟩
  | .neq => ⟨fun _ a b => some (.bool (!(eqI a b)))⟩
  | .lss => ⟨fun _ a b => some (.bool (ltI a b))⟩
  | .leq => ⟨fun _ a b => some (.bool (!(ltI b a)))⟩
  | .gtr => ⟨fun _ a b => some (.bool (ltI b a))⟩
  | .geq => ⟨fun _ a b => some (.bool (!(ltI a b)))⟩
  | op => ⟨intBinA op⟩
abbrev TwoF := AV → AV → Option AV
def binIntB (op : BinOp) : Bx TwoF :=
  bc (isShift op) ⟨fun x y => ob (asInt x) fun p => ob (asInt y) fun q => shiftA op p.1 p.2 q.2⟩
    (Bx.rec (motive := fun _ => Bx TwoF) (fun f => ⟨fun x y => ob (asInt x) fun p => ob (asInt y) fun q => bc (eqK p.1 q.1) (f p.1 p.2 q.2) none⟩) (intB op))
def binB (P : Program) (op : BinOp) (t : TypeId) (c : Bool) : Bx TwoF :=
  match P.underlying t with
  | some (.int _) => binIntB op
  | _ => ⟨binA op (eqKind P t) c⟩
def kBin (op : BinOp) (t : TypeId) (x y : Operand) (_ : TypeId) : PureF := fun P ρ => ob (ρ x) fun a => ob (ρ y) fun b => Bx.rec (motive := fun _ => Option AV) (fun f => f a b) (binB P op t (bc (isConstO x) true (isConstO y)))
def kUn (op : UnOp) (_ : TypeId) (x : Operand) : PureF := fun _ ρ => ob (ρ x) (unA op)
def intKindOf (P : Program) (t : TypeId) : Option IntKind := match P.underlying t with | some (.int k) => some k | _ => none
def isStr (P : Program) (t : TypeId) : Bool := match P.underlying t with | some .string => true | _ => false
def kConv (s d : TypeId) (x : Operand) : PureF := fun P ρ => og (P.underlying s).isSome <| ob (ρ x) fun a => bc (isStr P d) (og (intKindOf P s).isSome (onInt a fun _ n => some (.str (utf8N n)))) (ob (intKindOf P d) fun k => onInt a fun _ n => some (.int k (wrapA k n)))
def concrete (P : Program) (t : TypeId) : Bool := match P.underlying t with | some (.interface _) | none => false | _ => true
def kIface (t : TypeId) (x : Operand) : PureF := fun P ρ => og (concrete P t) (om (ρ x) (.iface t))
def kFunc (fn : Fn) (first cap : Array Operand) : PureF := fun _ ρ => ob (mapO ρ first.toList) fun a => om (mapO ρ cap.toList) fun c => .func fn a c
def fieldOff (P : Program) (s : TypeId) (f : Nat) : Option Nat :=
  match P.underlying s with
  | some (.struct fs) => ob fs[f]? fun g => ob (sizeA P g.type) fun n => bc (Nat.beq n 0) none (some g.offset)
  | _ => none
def kFieldAddr (s : TypeId) (x : Operand) (f : Nat) : PureF := fun P ρ => ob (ρ x) fun a => ob (fieldOff P s f) fun d => onPtr a fun n o => some (.ptr (some (n, o + d)))
def fieldPart (P : Program) (s : TypeId) (f : Nat) : Option (Option Nat × Nat) :=
  match P.underlying s with
  | some (.struct fs) => ob fs[f]? fun g => om (aggSize P g.type) fun z => (z, g.offset)
  | _ => none
def kField (s : TypeId) (x : Operand) (f : Nat) : PureF := fun P ρ => ob (ρ x) fun a => ob (fieldPart P s f) fun d => onAgg a fun cs => partA d.1 cs d.2
def natOf (v : AV) (f : Nat → Option AV) : Option AV := onInt v fun _ n => Int.casesOn (motive := fun _ => Option AV) n f fun _ => none
def elemAt (size : Nat) (i : AV) (a : Option (Nat × Nat)) (len : Nat) : Option AV :=
  natOf i fun k => bc (Nat.ble (k + 1) len) (Option.casesOn (motive := fun _ => Option AV) a none fun p => some (.ptr (some (p.1, p.2 + k * size)))) none
def kIndexAddr (t : TypeId) (x i : Operand) : PureF := fun P ρ => ob (ρ x) fun a => ob (ρ i) fun b =>
  SlK.casesOn (motive := fun _ => Option AV) (slKind P t) none (fun size => onSl a (fun p n _ => elemAt size b p n) (fun m o n _ _ => elemAt size b (some (m, o)) n) none)
    (fun n size => onPtr a fun m o => elemAt size b (some (m, o)) n) none
/-- an array's length, its element's size, how the element is read -/
def arrPart (P : Program) (t : TypeId) : Option (Nat × Nat × Option Nat) :=
  match P.underlying t with
  | some (.array n e) => ob (sizeA P e) fun s => om (aggSize P e) fun z => (n, s, z)
  | _ => none
def kIndex (t : TypeId) (x i : Operand) : PureF := fun P ρ => ob (ρ x) fun a => ob (ρ i) fun b =>
  bc (isStr P t) (onStr a fun s => natOf b fun k => om (getN s k) fun c => .int .u8 (.ofNat c))
    (ob (arrPart P t) fun d => onAgg a fun cs => natOf b fun k => bc (Nat.ble (k + 1) d.1) (partA d.2.2 cs (k * d.2.1)) none)
def kSlice (t : TypeId) (x : Operand) (lo hi mx : Option Operand) : PureF := fun P ρ => ob (ρ x) fun a => ob (optO ρ lo) fun l => ob (optO ρ hi) fun h => ob (optO ρ mx) fun m => og (bc mx.isSome hi.isSome true) (sliceA (slKind P t) a l h m)
def kExtract (x : Operand) (i : Nat) : PureF := fun _ ρ => ob (ρ x) fun a => onTuple a fun vs => getN vs i
def partsO (ρ : Env) (parts : Array (Nat × Operand)) : Option (List (Nat × AV)) := mapO (fun p => om (ρ p.2) fun v => (p.1, v)) parts.toList
/-- the parts of the type have sizes -/
def buildOk (P : Program) (t : TypeId) : Bool :=
  match P.underlying t with
  | some (.struct fs) => fs.toList.all fun g => (sizeA P g.type).isSome
  | some (.array _ e) => (sizeA P e).isSome
  | _ => false
def kBuild (t : TypeId) (parts : Array (Nat × Operand)) : PureF := fun P ρ => og (buildOk P t) <| ob (partsO ρ parts) fun ps => ob (zeroA P t) fun z => om (fillAll (placeS P t) ps (cellsA z)) .agg
def kLen (t : Option TypeId) (xs : List Operand) : PureF := fun P ρ => ob t fun t => ob (getN xs 0) fun x => ob (ρ x) (lenA (lnKind P t))
def kCap (t : Option TypeId) (xs : List Operand) : PureF := fun P ρ => ob t fun t => ob (getN xs 0) fun x => ob (ρ x) (capA (lnKind P t))
def kMm (mx : Bool) (xs : List Operand) : PureF := fun _ ρ => ob (mapO ρ xs) fun l => List.casesOn (motive := fun _ => Option AV) l none fun a r => minMaxA mx r a
def kNone : PureF := fun _ _ => none
def kCall (c : Call) : PureF :=
  match c.callee with
  | .builtin .len => kLen c.argTypes[0]? c.args.toList
  | .builtin .cap => kCap c.argTypes[0]? c.args.toList
  | .builtin .max => kMm true c.args.toList
  | .builtin .min => kMm false c.args.toList
  | _ => kNone

def pureB (o : Op) : Bx (PureF) :=
  Op.rec (motive := fun _ => Bx (PureF)) (fun x0 => ⟨kMove x0⟩) (fun x0 => ⟨kMove x0⟩) (fun x0 x1 x2 => ⟨kPick x0 x1 x2⟩) (fun _ => ⟨kNone⟩) (fun _ _ => ⟨kNone⟩) (fun x0 x1 => ⟨kBuild x0 x1⟩) (fun _ _ _ => ⟨kNone⟩) (fun _ _ _ _ => ⟨kNone⟩) (fun _ _ => ⟨kNone⟩) (fun _ _ _ => ⟨kNone⟩) (fun _ => ⟨kNone⟩) (fun _ => ⟨kNone⟩) (fun x0 => ⟨kNil x0⟩) (fun x0 x1 x2 x3 x4 => ⟨kBin x0 x1 x2 x3 x4⟩) (fun x0 x1 x2 => ⟨kUn x0 x1 x2⟩) (fun x0 x1 x2 => ⟨kConv x0 x1 x2⟩) (fun _ _ => ⟨kNone⟩) (fun x0 x1 => ⟨kIface x0 x1⟩) (fun x0 x1 x2 => ⟨kFunc x0 x1 x2⟩) (fun _ _ => ⟨kNone⟩) (fun _ _ => ⟨kNone⟩) (fun _ _ _ => ⟨kNone⟩) (fun x0 x1 x2 x3 x4 => ⟨kSlice x0 x1 x2 x3 x4⟩) (fun x0 x1 x2 => ⟨kFieldAddr x0 x1 x2⟩) (fun x0 x1 x2 => ⟨kField x0 x1 x2⟩) (fun x0 x1 x2 => ⟨kIndexAddr x0 x1 x2⟩) (fun x0 x1 x2 => ⟨kIndex x0 x1 x2⟩) (fun _ _ _ _ => ⟨kNone⟩) (fun _ _ _ _ => ⟨kNone⟩) (fun _ _ _ => ⟨kNone⟩) (fun _ _ _ _ => ⟨kNone⟩) (fun _ _ => ⟨kNone⟩) (fun _ _ => ⟨kNone⟩) (fun _ => ⟨kNone⟩) (fun _ _ _ _ => ⟨kNone⟩) (fun x0 x1 => ⟨kExtract x0 x1⟩) (fun x0 => ⟨kCall x0⟩) (fun _ => ⟨kNone⟩) (fun _ => ⟨kNone⟩) (fun _ => ⟨kNone⟩) (fun _ _ => ⟨kNone⟩) (fun _ _ _ => ⟨kNone⟩) (fun _ _ => ⟨kNone⟩) o
def pureA (o : Op) : PureF := Bx.rec (motive := fun _ => PureF) (fun f => f) (pureB o)

/-- keys are scalars, or aggregates of such -/
def keyEq (k q : AV) : Option Bool :=
  match k with
  | .agg a => onAgg q (scalarsEq a)
  | _ => scalarEq k q
def findA (k : AV) (es : List (AV × AV)) : Option (Option AV) :=
  List.rec (motive := fun _ => Option (Option AV)) (some none) (fun p _ ih => ob (keyEq k p.1) fun e => bc e (some (some p.2)) ih) es

/-- which keys a map's type has: numbers, texts, bools, structs of such -/
inductive KeyK where
  | int (k : IntKind) | str | bool | agg (ks : List ScK) | none
def keyKind (P : Program) (t : TypeId) : KeyK :=
  match P.underlying t with
  | some (.int k) => .int k
  | some .string => .str
  | some .bool => .bool
  | some (.struct _) => Option.casesOn (motive := fun _ => KeyK) (structKs P t) .none .agg
  | _ => .none
def fitKs (ks : List ScK) : List AV → Bool :=
  List.rec (motive := fun _ => List AV → Bool) (fun l => List.casesOn (motive := fun _ => Bool) l true fun _ _ => false) (fun k _ ih l => List.casesOn (motive := fun _ => Bool) l false fun x r => bc (fitK k x) (ih r) false) ks
def keyOk (k : KeyK) (v : AV) : Bool :=
  match k, v with
  | .int i, .int j _ => eqK i j
  | .str, .str _ => true
  | .bool, .bool _ => true
  | .agg ks, .agg l => fitKs ks l
  | _, _ => false
/-- a map's type: its keys, its elements' zero -/
def mapInfo (P : Program) (t : TypeId) : Option (KeyK × Option AV) :=
  match P.underlying t with
  | some (.map k e) => some (keyKind P k, zeroA P e)
  | _ => none

def rdVar (sz : Option Nat) (cs : Cs) (o : Nat) : Option AV :=
  Option.casesOn (motive := fun _ => Option AV) sz (cs.get o) fun n => om (rdCells cs o n) .agg

def rdAt (sz : Option Nat) (h : AH) (n o : Nat) : Option AV := ob (h.get n) fun ob1 => onCells ob1 fun cs _ _ => rdVar sz cs o

abbrev ReadF := Program → Env → AH → Option AV
def kLoad (t : TypeId) (a : Operand) : ReadF := fun P ρ h => ob (ρ a) fun p => onPtr p fun n o => ob (aggSize P t) fun sz => rdAt sz h n o
def lookRes (ok : Bool) (z : Option AV) (r : Option AV) : Option AV :=
  Option.casesOn (motive := fun _ => Option AV) r (om z fun z => bc ok (.tuple [z, .bool false]) z) fun v => some (bc ok (.tuple [v, .bool true]) v)
def entries (h : AH) (m : Option Nat) : Option (List (AV × AV)) :=
  Option.casesOn (motive := fun _ => Option (List (AV × AV))) m (some []) fun n => ob (h.get n) fun ob1 => onMapO ob1 fun es _ => some es
def kLookup (t : TypeId) (x i : Operand) (ok : Bool) : ReadF := fun P ρ h => ob (ρ x) fun m => ob (ρ i) fun k => ob (mapInfo P t) fun mi =>
  og (keyOk mi.1 k) (onMap m fun r => ob (entries h r) fun es => ob (findA k es) (lookRes ok mi.2))
def byteOfA (v : AV) : Option Nat := onInt v fun k n => og (eqK k .u8) (Int.casesOn (motive := fun _ => Option Nat) n (fun c => og (Nat.ble c 255) (some c)) fun _ => none)
def isBytes (P : Program) (t : TypeId) : Bool := match P.underlying t with | some (.slice e) => (match P.underlying e with | some (.int .u8) => true | _ => false) | _ => false
def strOf (h : AH) (n o len : Nat) : Option AV := ob (h.get n) fun ob1 => onCells ob1 fun cs _ _ => ob (rdCells cs o len) fun l => om (mapO byteOfA l) .str
def kToStr (s d : TypeId) (x : Operand) : ReadF := fun P ρ h => og (bc (isBytes P s) (isStr P d) false) (ob (ρ x) fun a =>
  onSl a (fun p len _ => Option.casesOn (motive := fun _ => Option AV) p (og (Nat.beq len 0) (some (.str []))) fun q => strOf h q.1 q.2 len) (fun n o len _ _ => strOf h n o len) (some (.str [])))
def isMapT (P : Program) (t : TypeId) : Bool := match P.underlying t with | some (.map _ _) => true | _ => false
def kLenMap (t : Option TypeId) (xs : List Operand) : ReadF := fun P ρ h => ob t fun t => og (isMapT P t) (ob (getN xs 0) fun x => ob (ρ x) fun m => onMap m fun r => om (entries h r) fun es => intN (lenN es))
def kNoneR : ReadF := fun _ _ _ => none

def kReadCall (c : Call) : ReadF := match c.callee with | .builtin .len => kLenMap c.argTypes[0]? c.args.toList | _ => kNoneR

def readB (o : Op) : Bx (ReadF) :=
  Op.rec (motive := fun _ => Bx (ReadF)) (fun _ => ⟨kNoneR⟩) (fun _ => ⟨kNoneR⟩) (fun _ _ _ => ⟨kNoneR⟩) (fun _ => ⟨kNoneR⟩) (fun _ _ => ⟨kNoneR⟩) (fun _ _ => ⟨kNoneR⟩) (fun _ _ _ => ⟨kNoneR⟩) (fun _ _ _ _ => ⟨kNoneR⟩) (fun x0 x1 => ⟨kLoad x0 x1⟩) (fun _ _ _ => ⟨kNoneR⟩) (fun _ => ⟨kNoneR⟩) (fun _ => ⟨kNoneR⟩) (fun _ => ⟨kNoneR⟩) (fun _ _ _ _ _ => ⟨kNoneR⟩) (fun _ _ _ => ⟨kNoneR⟩) (fun x0 x1 x2 => ⟨kToStr x0 x1 x2⟩) (fun _ _ => ⟨kNoneR⟩) (fun _ _ => ⟨kNoneR⟩) (fun _ _ _ => ⟨kNoneR⟩) (fun _ _ => ⟨kNoneR⟩) (fun _ _ => ⟨kNoneR⟩) (fun _ _ _ => ⟨kNoneR⟩) (fun _ _ _ _ _ => ⟨kNoneR⟩) (fun _ _ _ => ⟨kNoneR⟩) (fun _ _ _ => ⟨kNoneR⟩) (fun _ _ _ => ⟨kNoneR⟩) (fun _ _ _ => ⟨kNoneR⟩) (fun x0 x1 x2 x3 => ⟨kLookup x0 x1 x2 x3⟩) (fun _ _ _ _ => ⟨kNoneR⟩) (fun _ _ _ => ⟨kNoneR⟩) (fun _ _ _ _ => ⟨kNoneR⟩) (fun _ _ => ⟨kNoneR⟩) (fun _ _ => ⟨kNoneR⟩) (fun _ => ⟨kNoneR⟩) (fun _ _ _ _ => ⟨kNoneR⟩) (fun _ _ => ⟨kNoneR⟩) (fun x0 => ⟨kReadCall x0⟩) (fun _ => ⟨kNoneR⟩) (fun _ => ⟨kNoneR⟩) (fun _ => ⟨kNoneR⟩) (fun _ _ => ⟨kNoneR⟩) (fun _ _ _ => ⟨kNoneR⟩) (fun _ _ => ⟨kNoneR⟩) o
def readA (o : Op) : ReadF := Bx.rec (motive := fun _ => ReadF) (fun f => f) (readB o)

/-- what an operation makes: the block, and the value, told the block's name -/
abbrev MakeF := Program → Env → Option (AObj × (Nat → AV))
def ptrTo (n : Nat) : AV := .ptr (some (n, 0))
def cellsOf (l : List AV) : AObj := .cells (mkCells l) none false
/-- a variable of its own: its block's type is told in the place of what grows -/
def cellsT (t : TypeId) (l : List AV) : AObj := .cells (mkCells l) (bc (Nat.ble (lenN l) 1048575) (some (0, t * 1048576 + lenN l)) none) false
def kAlloc (t : TypeId) : MakeF := fun P _ => om (zeroA P t) fun z =>  (cellsT t (cellsA z), ptrTo)
def kBox (_ : TypeId) (x : Operand) : MakeF := fun _ ρ => om (ρ x) fun v => (cellsOf (cellsA v), ptrTo)
/-- a slice's element: size, bytes, zero's cells -/
def elemInfo (P : Program) (t : TypeId) : Option (Nat × Nat × List AV) :=
  match P.underlying t with
  | some (.slice e) => ob (sizeA P e) fun s => ob (bytesA P e) fun b => ob (zeroA P e) fun z => og (bc (Nat.beq (lenN (cellsA z)) s) (!(bc (Nat.beq s 0) true (Nat.beq b 0))) false) (some (s, b, cellsA z))
  | _ => none
def kBuildSlice (t : TypeId) (len : Nat) (parts : Array (Nat × Operand)) : MakeF := fun P ρ => ob (partsO ρ parts) fun ps => ob (elemInfo P t) fun e =>
  og (Nat.ble (len * e.1) 16777216) (om (fillAll (fun i => some (i * e.1, e.1)) ps (repeatL e.2.2 len)) fun cs => (cellsOf cs, fun n => .slice (some (n, 0)) len len))
def kMakeMap (t : TypeId) (r : Option Operand) : MakeF := fun P ρ => og (isMapT P t) (ob (optO ρ r) fun v =>
  Option.casesOn (motive := fun _ => Option (AObj × (Nat → AV))) v (some (.map [] ⟨0, []⟩, fun n => .map (some n))) fun v => onInt v fun _ _ => some (.map [] ⟨0, []⟩, fun n => .map (some n)))
def natArg (v : AV) : Option Nat := onInt v fun _ n => Int.casesOn (motive := fun _ => Option Nat) n some fun _ => none
def kMakeSlice (t : TypeId) (l c : Operand) : MakeF := fun P ρ => ob (ρ l) fun a => ob (ρ c) fun b => ob (elemInfo P t) fun e => ob (natArg a) fun n => ob (natArg b) fun m =>
  og (Nat.ble n m && Nat.ble (e.2.1 * m) 16777216 && Nat.ble (e.1 * m) 16777216) (some (cellsOf (repeatL e.2.2 m), fun k => .slice (some (k, 0)) n m))
def byteAV (c : Nat) : AV := .int .u8 (.ofNat c)
def kToBytes (s d : TypeId) (x : Operand) : MakeF := fun P ρ => og (bc (isStr P s) (isBytes P d) false) (ob (ρ x) fun a => onStr a fun l =>
  some (.cells (mkCells (l.map byteAV)) (some (1, lenN l)) false, fun n => .gslice n 0 (lenN l) 0 (lenN l)))
def kNoneM : MakeF := fun _ _ => none

def makeB (o : Op) : Bx (MakeF) :=
  Op.rec (motive := fun _ => Bx (MakeF)) (fun _ => ⟨kNoneM⟩) (fun _ => ⟨kNoneM⟩) (fun _ _ _ => ⟨kNoneM⟩) (fun x0 => ⟨kAlloc x0⟩) (fun x0 x1 => ⟨kBox x0 x1⟩) (fun _ _ => ⟨kNoneM⟩) (fun x0 x1 x2 => ⟨kBuildSlice x0 x1 x2⟩) (fun _ _ _ _ => ⟨kNoneM⟩) (fun _ _ => ⟨kNoneM⟩) (fun _ _ _ => ⟨kNoneM⟩) (fun _ => ⟨kNoneM⟩) (fun _ => ⟨kNoneM⟩) (fun _ => ⟨kNoneM⟩) (fun _ _ _ _ _ => ⟨kNoneM⟩) (fun _ _ _ => ⟨kNoneM⟩) (fun x0 x1 x2 => ⟨kToBytes x0 x1 x2⟩) (fun _ _ => ⟨kNoneM⟩) (fun _ _ => ⟨kNoneM⟩) (fun _ _ _ => ⟨kNoneM⟩) (fun x0 x1 => ⟨kMakeMap x0 x1⟩) (fun _ _ => ⟨kNoneM⟩) (fun x0 x1 x2 => ⟨kMakeSlice x0 x1 x2⟩) (fun _ _ _ _ _ => ⟨kNoneM⟩) (fun _ _ _ => ⟨kNoneM⟩) (fun _ _ _ => ⟨kNoneM⟩) (fun _ _ _ => ⟨kNoneM⟩) (fun _ _ _ => ⟨kNoneM⟩) (fun _ _ _ _ => ⟨kNoneM⟩) (fun _ _ _ _ => ⟨kNoneM⟩) (fun _ _ _ => ⟨kNoneM⟩) (fun _ _ _ _ => ⟨kNoneM⟩) (fun _ _ => ⟨kNoneM⟩) (fun _ _ => ⟨kNoneM⟩) (fun _ => ⟨kNoneM⟩) (fun _ _ _ _ => ⟨kNoneM⟩) (fun _ _ => ⟨kNoneM⟩) (fun _ => ⟨kNoneM⟩) (fun _ => ⟨kNoneM⟩) (fun _ => ⟨kNoneM⟩) (fun _ => ⟨kNoneM⟩) (fun _ _ => ⟨kNoneM⟩) (fun _ _ _ => ⟨kNoneM⟩) (fun _ _ => ⟨kNoneM⟩) o
def makeA (o : Op) : MakeF := Bx.rec (motive := fun _ => MakeF) (fun f => f) (makeB o)

/-- the cells of a slice or a text -/
def srcCells (h : AH) (size : Nat) (x : AV) (n : Nat) : Option (List AV) :=
  let at_ (m o : Nat) : Option (List AV) := ob (h.get m) fun ob1 => onCells ob1 fun cs _ _ => rdCells cs o (n * size)
  match x with
  | .str s => some ((takeN n s).map byteAV)
  | x => onSl x (fun p _ _ => Option.casesOn (motive := fun _ => Option (List AV)) p (some []) fun q => at_ q.1 q.2) (fun m o _ _ _ => at_ m o) (some [])

def srcLen (x : AV) : Option Nat :=
  match x with
  | .str s => some (lenN s)
  | x => onSl x (fun p n _ => Option.casesOn (motive := fun _ => Option Nat) p (og (Nat.beq n 0) (some 0)) fun _ => some n) (fun _ _ n _ _ => some n) (some 0)

/-- a value of one cell -/
def oneA (v : AV) : Bool := AV.rec (motive_1 := fun _ => Bool) (motive_2 := fun _ => Unit) (fun _ => true) (fun _ _ => true) (fun _ => true) (fun _ => true) (fun _ _ _ => true) (fun _ _ _ _ _ => true) true (fun _ => true) (fun _ _ _ _ _ => true) true (fun _ _ _ => true) true (fun _ _ => false) (fun _ _ => false) () (fun _ _ _ _ => ()) v
def allOne (l : List AV) : Bool := List.rec (motive := fun _ => Bool) true (fun x _ ih => bc (oneA x) ih false) l
def storeA (h : AH) (n o : Nat) (vs : List AV) : Option AH :=
  ob (h.get n) fun ob1 => onCells ob1 fun cs g ro => bc ro none (og (bc (allOne vs) (hasCells cs o (lenN vs)) false) (some (h.set n (.cells (wrCells vs cs o) g false))))

abbrev CallFn := FuncId → List AV → AH → Option (AV × AH)
abbrev ActF := Program → CallFn → Env → AH → Option (AV × AH)

def kStore (t : TypeId) (a x : Operand) : ActF := fun P _ ρ h => ob (ρ a) fun p => ob (ρ x) fun v => onPtr p fun n o =>
  ob (sizeA P t) fun s => og (Nat.beq (lenN (cellsA v)) s) (om (storeA h n o (cellsA v)) fun h' => (undefA, h'))

def insertA (k v : AV) (es : List (AV × AV)) : Option (Option (List (AV × AV))) :=
  List.rec (motive := fun _ => Option (Option (List (AV × AV)))) (some none)
    (fun p r ih => ob (keyEq k p.1) fun e => bc e (some (some ((k, v) :: r))) (om ih fun o => om o fun l => p :: l)) es
def kUpdate (t : TypeId) (m k x : Operand) : ActF := fun P _ ρ h => ob (ρ m) fun a => ob (ρ k) fun b => ob (ρ x) fun v => ob (mapInfo P t) fun mi => og (keyOk mi.1 b)
  (onMap a fun r => ob r fun n => ob (h.get n) fun ob1 => onMapO ob1 fun es c => om (insertA b v es) fun r =>
    Option.casesOn (motive := fun _ => AV × AH) r (undefA, h.set n (.map (es ++ [(b, v)]) c.ins)) fun es' => (undefA, h.set n (.map es' c)))

def newIter (h : AH) (m : Option Nat) (c : Nat) : Option (AV × AH) := og h.has (some (ptrTo h.next, h.push (.mapIter m c [] c)))
def kRange (t : TypeId) (x : Operand) : ActF := fun P _ ρ h => og (isMapT P t) (ob (ρ x) fun a => onMap a fun r =>
  Option.casesOn (motive := fun _ => Option (AV × AH)) r (newIter h none 0) fun n => ob (h.get n) fun ob1 => onMapO ob1 fun es c => og (Nat.beq (lenN c.bs) (lenN es)) (newIter h (some n) c.clock))
/-- entries by when they were born -/
def keepB (f : Nat → Bool) (es : List (AV × AV)) : List Nat → Option (List ((AV × AV) × Nat)) :=
  List.rec (motive := fun _ => List Nat → Option (List ((AV × AV) × Nat))) (fun _ => some []) (fun p _ ih bs => List.casesOn (motive := fun _ => Option (List ((AV × AV) × Nat))) bs none fun b r => bc (f b) (om (ih r) fun l => (p, b) :: l) (ih r)) es
/-- none left, or one, that was there when the loop began: no other way is open -/
def kNext (it : Operand) : ActF := fun _ _ ρ h => ob (ρ it) fun p => onPtr p fun i o => og (Nat.beq o 0) (ob (h.get i) fun ob1 => onIter ob1 fun m since seen last =>
  Option.casesOn (motive := fun _ => Option (AV × AH)) m (some (.tuple [.bool false], h)) fun n => ob (h.get n) fun ob2 => onMapO ob2 fun es c => og (bc (c.bs.all fun b => Nat.ble (b + 1) since) (Nat.beq c.bs.length es.length) false) (ob (keepB (fun b => !seen.contains b) es c.bs) fun l =>
    List.casesOn (motive := fun _ => Option (AV × AH)) l (og (bc (seen.isEmpty) true (bc (es.isEmpty) true (c.bs.any fun b => Nat.ble (b + 1) last))) (some (.tuple [.bool false], h))) fun p r => og (bc (r.isEmpty) (bc (seen.isEmpty) true (c.bs.any fun b => Nat.ble (b + 1) last)) false) (some (.tuple [.bool true, p.1.1, p.1.2], h.set i (.mapIter (some n) since (seen ++ [p.2]) c.clock)))))

def kEntry (it : Operand) : ActF := fun _ _ ρ h => ob (ρ it) fun p => onPtr p fun i o => og (Nat.beq o 0) (ob (h.get i) fun ob1 => onIter ob1 fun m _ seen stepped =>
  ob m fun n => ob seen.getLast? fun b => ob (h.get n) fun ob2 => onMapO ob2 fun es c => og (bc (Nat.beq c.clock stepped) (Nat.beq (lenN c.bs) (lenN es)) false) (ob (keepB (fun x => Nat.beq x b) es c.bs) fun l =>
    List.casesOn (motive := fun _ => Option (AV × AH)) l none fun p r => og r.isEmpty (some (.tuple [p.1.1, p.1.2], h))))

/-- what is appended: how many, and the cells; z: so many zeros -/
def newA (z : Bool) (h : AH) (size : Nat) (zs : List AV) (x : AV) : Option (Nat × List AV) :=
  bc z (ob (natArg x) fun n => og (Nat.ble n 16777216) (some (n, repeatL zs n))) (ob (srcLen x) fun n => ob (srcCells h size x n) fun new => og (Nat.beq (lenN new) (n * size)) (some (n, new)))

def appNew (h : AH) (size len : Nat) (l : List AV) : Option (AV × AH) := og h.has (some (.gslice h.next 0 len 0 len, h.push (.cells (mkCells l) (some (size, len * size)) false)))
/-- onto a slice of a block whose room is known -/
def appSl (h : AH) (size n : Nat) (new : List AV) (p : Option (Nat × Nat)) (len cap : Nat) : Option (AV × AH) :=
  Option.casesOn (motive := fun _ => Option (AV × AH)) p
    (og (bc (Nat.beq len 0) (Nat.beq cap 0) false) (bc (Nat.beq n 0) (some (.slice none 0 0, h)) (appNew h size n new)))
    (fun q => bc (Nat.ble (len + n) cap) (om (storeA h q.1 (q.2 + len * size) new) fun h' => (.slice (some q) (len + n) cap, h'))
      (ob (srcCells h size (.slice (some q) len cap) len) fun old => appNew h size (len + n) (old ++ new)))
/-- cells from o on laid behind those that are there; in a greater tree, if there's no room -/
def growCs (cs : Cs) (o : Nat) (new : List AV) : Option Cs :=
  bc (Nat.ble (o + lenN new) cs.room) (some (wrCells new cs o)) (om (rdCells cs 0 o) fun old => mkCells (old ++ new))
/-- onto a slice of a block that grew: in place, if there is room for certain; else the block is known no more by its name -/
def appG (h : AH) (size n : Nat) (new : List AV) (m o len eo mc : Nat) : Option (AV × AH) :=
  bc (Nat.ble (len + n) mc) (om (storeA h m (o + len * size) new) fun h' => (.gslice m o (len + n) eo mc, h'))
    (ob (h.get m) fun ob1 => onCells ob1 fun cs g ro => ob g fun sz =>
      og (!ro && allOne new && h.has && Nat.beq sz.1 size && Nat.beq o 0 && Nat.beq eo 0 && Nat.ble (len * size) sz.2 && Nat.ble sz.2 ((len + n) * size) && hasCells cs 0 (len * size))
        (ob (growCs cs (len * size) new) fun cs' => some (.gslice h.next 0 (len + n) 0 (len + n), (h.set m .dead).push (.cells cs' (some (size, (len + n) * size)) false))))
def kAppend (t : Option TypeId) (z : Bool) (xs : List Operand) : ActF := fun P _ ρ h => ob (getN xs 0) fun s => ob (getN xs 1) fun x => ob (ρ s) fun s => ob (ρ x) fun x => ob t fun t => ob (elemInfo P t) fun e =>
  ob (newA z h e.1 e.2.2 x) fun nn => og (Nat.ble (nn.1 * e.2.1) 16777216)
    (onSl s (fun p len cap => og (Nat.ble (len * e.2.1) 16777216 && Nat.ble (cap * e.2.1) 16777216) (appSl h e.1 nn.1 nn.2 p len cap)) (fun m o len eo mc => og (Nat.ble (len * e.2.1) 16777216) (appG h e.1 nn.1 nn.2 m o len eo mc)) none)

def kCopy (t : Option TypeId) (xs : List Operand) : ActF := fun P _ ρ h => ob (getN xs 0) fun d => ob (getN xs 1) fun x => ob (ρ d) fun d => ob (ρ x) fun x => ob t fun t => ob (elemInfo P t) fun e =>
  ob (srcLen d) fun dl => ob (srcLen x) fun xl => ob (srcCells h e.1 x (Nat.min xl dl)) fun cs =>
    onSl d (fun p _ _ => Option.casesOn (motive := fun _ => Option (AV × AH)) p (some (intN 0, h)) fun q => om (storeA h q.1 q.2 cs) fun h' => (intN (Nat.min xl dl), h')) (fun m o _ _ _ => om (storeA h m o cs) fun h' => (intN (Nat.min xl dl), h')) none

def deleteA (k : AV) (es : List (AV × AV)) : List Nat → Option (List (AV × AV) × List Nat) :=
  List.rec (motive := fun _ => List Nat → Option (List (AV × AV) × List Nat)) (fun bs => some ([], bs)) (fun p r ih bs => ob (keyEq k p.1) fun e => bc e (some (r, bs.tail)) (List.casesOn (motive := fun _ => Option (List (AV × AV) × List Nat)) bs none fun b bs => om (ih bs) fun l => (p :: l.1, b :: l.2))) es
def kDelete (t : Option TypeId) (xs : List Operand) : ActF := fun P _ ρ h => ob (getN xs 0) fun m => ob (getN xs 1) fun k => ob (ρ m) fun m => ob (ρ k) fun k => ob t fun t => ob (mapInfo P t) fun mi => og (keyOk mi.1 k)
  (onMap m fun r => Option.casesOn (motive := fun _ => Option (AV × AH)) r (some (undefA, h)) fun n => ob (h.get n) fun ob1 => onMapO ob1 fun es c => og (Nat.ble (lenN es) (lenN c.bs)) (om (deleteA k es c.bs) fun x => (undefA, h.set n (.map x.1 ⟨c.clock, x.2⟩))))

def kClear (t : Option TypeId) (xs : List Operand) : ActF := fun P _ ρ h => ob (getN xs 0) fun x => ob (ρ x) fun x => ob t fun t => ob (elemInfo P t) fun e =>
  onSl x (fun p n _ => Option.casesOn (motive := fun _ => Option (AV × AH)) p (some (undefA, h)) fun q => bc (Nat.beq n 0) (some (undefA, h)) (om (storeA h q.1 q.2 (repeatL e.2.2 n)) fun h' => (undefA, h')))
    (fun m o n _ _ => bc (Nat.beq n 0) (some (undefA, h)) (om (storeA h m o (repeatL e.2.2 n)) fun h' => (undefA, h'))) (some (undefA, h))

def kValue (f : Operand) (xs : List Operand) : ActF := fun _ call ρ h => ob (mapO ρ xs) fun l => ob (ρ f) fun g => onFunc g fun fn first cap =>
  Fn.casesOn (motive := fun _ => Option (AV × AH)) fn (fun k => call k (first ++ l ++ cap) h) (fun _ => none) (fun _ _ => none) (fun _ _ _ _ => none) (fun _ => none)
/-- the function of a pointer's own method -/
def methodOf (P : Program) (t : TypeId) (name : String) : Option FuncId :=
  match P.info? t with
  | some i => (match i.methods.find? (·.name == name) with
    | some m => (match m.path.toList, m.func, P.underlying t with
      | [], some (k, true), some (.pointer _) => some k
      | _, _, _ => none)
    | none => none)
  | none => none
def kInvoke (r : Operand) (name : String) (xs : List Operand) : ActF := fun P call ρ h => ob (mapO ρ xs) fun l => ob (ρ r) fun g => onIface g fun t v => ob (methodOf P t name) fun k => call k (v :: l) h
def kNoneA : ActF := fun _ _ _ _ => none
def isIntT (P : Program) (t : Option TypeId) : Bool := match t.bind P.underlying with | some (.int _) => true | _ => false
def kAppendC (c : Call) : ActF := fun P call ρ h => og (c.argTypes[1]?.bind P.underlying).isSome (kAppend c.argTypes[0]? (isIntT P c.argTypes[1]?) c.args.toList P call ρ h)
def kActCall (c : Call) : ActF :=
  match c.callee with
  | .value f => kValue f c.args.toList
  | .invoke r name => kInvoke r name c.args.toList
  | .builtin .append => kAppendC c
  | .builtin .copy => kCopy c.argTypes[0]? c.args.toList
  | .builtin .delete => kDelete c.argTypes[0]? c.args.toList
  | .builtin .clear => kClear c.argTypes[0]? c.args.toList
  | _ => kNoneA

def kNextS (it : Operand) (s : Bool) : ActF := bc s kNoneA (kNext it)

def actB (o : Op) : Bx (ActF) :=
  Op.rec (motive := fun _ => Bx (ActF)) (fun _ => ⟨kNoneA⟩) (fun _ => ⟨kNoneA⟩) (fun _ _ _ => ⟨kNoneA⟩) (fun _ => ⟨kNoneA⟩) (fun _ _ => ⟨kNoneA⟩) (fun _ _ => ⟨kNoneA⟩) (fun _ _ _ => ⟨kNoneA⟩) (fun x0 x1 x2 x3 => ⟨kUpdate x0 x1 x2 x3⟩) (fun _ _ => ⟨kNoneA⟩) (fun x0 x1 x2 => ⟨kStore x0 x1 x2⟩) (fun _ => ⟨kNoneA⟩) (fun _ => ⟨kNoneA⟩) (fun _ => ⟨kNoneA⟩) (fun _ _ _ _ _ => ⟨kNoneA⟩) (fun _ _ _ => ⟨kNoneA⟩) (fun _ _ _ => ⟨kNoneA⟩) (fun _ _ => ⟨kNoneA⟩) (fun _ _ => ⟨kNoneA⟩) (fun _ _ _ => ⟨kNoneA⟩) (fun _ _ => ⟨kNoneA⟩) (fun _ _ => ⟨kNoneA⟩) (fun _ _ _ => ⟨kNoneA⟩) (fun _ _ _ _ _ => ⟨kNoneA⟩) (fun _ _ _ => ⟨kNoneA⟩) (fun _ _ _ => ⟨kNoneA⟩) (fun _ _ _ => ⟨kNoneA⟩) (fun _ _ _ => ⟨kNoneA⟩) (fun _ _ _ _ => ⟨kNoneA⟩) (fun x0 x1 x2 x3 => ⟨kUpdate x0 x1 x2 x3⟩) (fun _ _ _ => ⟨kNoneA⟩) (fun _ _ _ _ => ⟨kNoneA⟩) (fun x0 x1 => ⟨kRange x0 x1⟩) (fun x0 x1 => ⟨kNextS x0 x1⟩) (fun x0 => ⟨kEntry x0⟩) (fun _ _ _ _ => ⟨kNoneA⟩) (fun _ _ => ⟨kNoneA⟩) (fun x0 => ⟨kActCall x0⟩) (fun _ => ⟨kNoneA⟩) (fun _ => ⟨kNoneA⟩) (fun _ => ⟨kNoneA⟩) (fun _ _ => ⟨kNoneA⟩) (fun _ _ _ => ⟨kNoneA⟩) (fun _ _ => ⟨kNoneA⟩) o
def actA (o : Op) : ActF := Bx.rec (motive := fun _ => ActF) (fun f => f) (actB o)

def putT (n : Nat) (t : Tp) (d : Option Nat) (v : AV) : Option Tp :=
  Option.casesOn (motive := fun _ => Option Tp) d (some t) fun i => og (Nat.ble (i + 1) n) (some (put3 t i v))

def dstAt (ops : Array Oper) (j : Nat) : Option Nat := (ops[j]?).bind (·.dst)
def guardVal (want : Bool) (v : AV) : Option Bool :=
  match v with
  | .bool b => some (b == want)
  | .tuple [] => some false
  | _ => none
/-- is the operation carried out? -/
def wantA (ops : Array Oper) (ρ : Env) (g : Option (Nat × Bool)) : Option Bool :=
  Option.casesOn (motive := fun _ => Option Bool) g (some true) fun p => Option.casesOn (motive := fun _ => Option Bool) (dstAt ops p.1) (some false) fun d => ob (ρ (.tmp d)) (guardVal p.2)

/-- one operation, whatever it is -/
def opA (P : Program) (call : CallFn) (ρ : Env) (h : AH) (o : Op) : Option (AV × AH) :=
  Cl.casesOn (motive := fun _ => Option (AV × AH)) (cls P o)
    (om (pureA o P ρ) fun v => (v, h)) (om (readA o P ρ h) fun v => (v, h)) (ob (makeA o P ρ) fun r => og h.has (some (r.2 h.next, h.push r.1))) (ob (actA o P call ρ h) fun x => og (Nat.ble h.next x.2.next) (some x))

def opsStep (P : Program) (call : CallFn) (n : Nat) (ops : Array Oper) (o : Oper) (t : Tp) (h : AH) : Option (Tp × AH) :=
  ob (wantA ops (opd t) o.guard) fun w => bc w (ob (opA P call (opd t) h o.op) fun x => om (putT n t o.dst x.1) fun t' => (t', x.2)) (om (putT n t o.dst undefA) fun t' => (t', h))

def opsA (P : Program) (call : CallFn) (n : Nat) (ops : Array Oper) (l : List Oper) : Tp → AH → Option (Tp × AH) :=
  List.rec (motive := fun _ => Tp → AH → Option (Tp × AH)) (fun t h => some (t, h)) (fun o _ ih t h => ob (opsStep P call n ops o t h) fun x => ih x.1 x.2) l

/-- a region whose order is drawn: by segments; past: the acting operations that came, and the heap ahead of each -/
structure DSt where
  t : Tp
  g : AH
  h : AH
  past : List (Nat × AH)

def readAll (P : Program) (ρ : Env) (o : Op) (anc : Nat) (v : AV) (l : List (Nat × AH)) : Bool :=
  List.rec (motive := fun _ => Bool) true (fun p _ ih => bc (anc.testBit p.1) ih (Option.casesOn (motive := fun _ => Bool) (readA o P ρ p.2) false fun u => bc (AV.beq u v) ih false)) l

def drawOp (P : Program) (call : CallFn) (n : Nat) (o : Oper) (anc i : Nat) (ρ : Env) (s : DSt) : Option DSt :=
  Cl.casesOn (motive := fun _ => Option DSt) (cls P o.op)
    (ob (pureA o.op P ρ) fun v => om (putT n s.t o.dst v) fun t' => { s with t := t' })
    (ob (readA o.op P ρ s.g) fun v => og (readAll P ρ o.op anc v s.past) (om (putT n s.t o.dst v) fun t' => { s with t := t' }))
    (ob (makeA o.op P ρ) fun r => og s.h.has (om (putT n s.t o.dst (r.2 s.h.next)) fun t' => { s with t := t', h := s.h.push r.1 }))
    (ob (actA o.op P call ρ s.h) fun x => og (Nat.ble s.h.next x.2.next) (om (putT n s.t o.dst x.1) fun t' => { t := t', g := x.2, h := x.2, past := (i, s.g) :: s.past }))

def drawStep (P : Program) (call : CallFn) (n : Nat) (ops : Array Oper) (bef : Array Nat) (i : Nat) (s : DSt) : Option DSt :=
  ob ops[i]? fun o => ob (wantA ops (opdR (o.looksAt ops) s.t) o.guard) fun w =>
    bc w (drawOp P call n o (bef.getD i 0) i (opdR (o.looksAt ops) s.t) s) (om (putT n s.t o.dst undefA) fun t' => { s with t := t' })

def drawGo (P : Program) (call : CallFn) (n : Nat) (ops : Array Oper) (bef : Array Nat) (l : List Nat) : DSt → Option DSt :=
  List.rec (motive := fun _ => DSt → Option DSt) some (fun i _ ih s => ob (drawStep P call n ops bef i s) ih) l

def isAct (P : Program) (ops : Array Oper) (i : Nat) : Bool :=
  match ops[i]? with
  | some o => (match cls P o.op with | .act => true | _ => false)
  | none => false

/-- the order: ahead of each acting operation what it waits for, else behind all -/
def drawOrder (P : Program) (ops : Array Oper) (bef : Array Nat) : List Nat :=
  let all := List.range ops.size
  let acts := all.filter (isAct P ops)
  let l := acts.foldl (fun acc b => acc ++ (all.filter fun i => !acc.contains i && (bef.getD b 0).testBit i) ++ [b]) []
  l ++ all.filter fun i => !l.contains i

/-- along the order: what an operation waits for has come; what acts waits for all that came -/
def orderOk (P : Program) (ops : Array Oper) (bef : Array Nat) : List Nat → Nat → Bool
  | [], _ => true
  | i :: r, done =>
    Nat.ble (i + 1) ops.size && !done.testBit i &&
    (bc (isAct P ops i) (Nat.beq (bef.getD i 0) done) (Nat.beq (bef.getD i 0 ||| done) done)) &&
    orderOk P ops bef r (done ||| 2 ^ i)

/-- the mask of operation i is what its edges say -/
def maskOk (ops : Array Oper) (bef : Array Nat) (i : Nat) : Bool :=
  match ops[i]? with
  | some o => Nat.beq (bef.getD i 0) (o.after.foldl (fun s e => if Region.binds .any e then s ||| 2 ^ e.on ||| bef.getD e.on 0 else s) 0)
  | none => false

/-- names that two operations share, and one writes, are in an order -/
def nameOk (ops : Array Oper) (bef : Array Nat) (i j : Nat) : Bool :=
  Nat.beq i j || (match ops[i]?, ops[j]? with
    | some a, some b => (match a.dst with
      | some d => !((b.looksAt ops).contains d || b.dst == some d) || (bef.getD i 0).testBit j || (bef.getD j 0).testBit i
      | none => true)
    | _, _ => false)

/-- what the law of such regions asks, by looks -/
def drawOk (P : Program) (ops : Array Oper) (bef : Array Nat) (order : List Nat) : Bool :=
  Nat.beq order.length ops.size && ((List.range ops.size).all fun i => order.contains i) &&
  ((List.range ops.size).all fun i => maskOk ops bef i) &&
  ((List.range ops.size).all fun i => (List.range ops.size).all fun j => nameOk ops bef i j) &&
  orderOk P ops bef order 0

def noDefer (ops : Array Oper) : Bool := ops.toList.all fun o => match o.op with | .defer _ => false | _ => true

def drawA (P : Program) (call : CallFn) (n : Nat) (ops : Array Oper) (t : Tp) (h : AH) : Option (Tp × AH) :=
  og (drawOk P ops (Region.before ops) (drawOrder P ops (Region.before ops)))
    (om (drawGo P call n ops (Region.before ops) (drawOrder P ops (Region.before ops)) { t, g := h, h, past := [] }) fun s => (s.t, s.h))

inductive Ex where
  | normal
  | exit (id : Nat)
  | goto (l : Nat)
  | ret

abbrev Out := Option (Ex × Tp × AH)
abbrev CodeFn := Nat → Code → Tp → AH → Out
abbrev Body := Tp → AH → Out

/-- behind a normal end the next, else as it is -/
def andThen (r : Out) (f : Body) : Out :=
  Option.casesOn (motive := fun _ => Out) r none fun x => Ex.casesOn (motive := fun _ => Out) x.1 (f x.2.1 x.2.2) (fun _ => r) (fun _ => r) r
def outBlock (id : Nat) (r : Out) : Out :=
  Option.casesOn (motive := fun _ => Out) r none fun x => Ex.casesOn (motive := fun _ => Out) x.1 r (fun i => bc (Nat.beq i id) (some (.normal, x.2)) r) (fun _ => r) r

/-- so many rounds at most -/
def loopD (body : Body) (d : Nat) : Body :=
  Nat.rec (motive := fun _ => Body) (fun _ _ => none) (fun _ ih t h => andThen (body t h) ih) d

/-- rounds of a scope: behind a jump the rest of the body from the label on -/
def scopeD (run : Code → Body) (body : Code) (d : Nat) : Code → Body :=
  Nat.rec (motive := fun _ => Code → Body) (fun _ _ _ => none) (fun _ ih c t h =>
    Option.casesOn (motive := fun _ => Out) (run c t h) none fun x => Ex.casesOn (motive := fun _ => Out) x.1 (some x) (fun _ => some x)
      (fun l => ob (findLabel body l) fun rest => ih rest x.2.1 x.2.2) (some x)) d

abbrev CodeK := Program → CodeFn → CallFn → Nat → Body
def cNorm : CodeK := fun _ _ _ _ t h => some (.normal, t, h)
def cNone : CodeK := fun _ _ _ _ _ _ => none
def cExit (e : Ex) : CodeK := fun _ _ _ _ t h => some (e, t, h)
def norm (r : Option (Tp × AH)) : Out := om r fun x => (.normal, x)
def putB (n : Nat) (d : Option Nat) : Bx (Tp → AV → Option Tp) :=
  Option.rec (motive := fun _ => Bx (Tp → AV → Option Tp)) ⟨fun t _ => some t⟩ (fun i => bc (Nat.ble (i + 1) n) (Bx.rec (motive := fun _ => Bx (Tp → AV → Option Tp)) (fun f => ⟨fun t v => some (f v t)⟩) (st3 AV i)) ⟨fun _ _ => none⟩) d
abbrev StepF := CallFn → Tp → AH → Body → Out
/-- an operation of a region, made ready -/
def stepN (P : Program) (o : Oper) (p : Tp → AV → Option Tp) : Bx StepF :=
  Cl.rec (motive := fun _ => Bx StepF)
    (Bx.rec (motive := fun _ => Bx StepF) (fun f => ⟨fun _ t h k => ob (f P (opd t)) fun v => ob (p t v) fun t' => k t' h⟩) (pureB o.op))
    (Bx.rec (motive := fun _ => Bx StepF) (fun f => ⟨fun _ t h k => ob (f P (opd t) h) fun v => ob (p t v) fun t' => k t' h⟩) (readB o.op))
    (Bx.rec (motive := fun _ => Bx StepF) (fun f => ⟨fun _ t h k => ob (f P (opd t)) fun r => og h.has (ob (p t (r.2 h.next)) fun t' => k t' (h.push r.1))⟩) (makeB o.op))
    (Bx.rec (motive := fun _ => Bx StepF) (fun f => ⟨fun call t h k => ob (f P call (opd t) h) fun x => og (Nat.ble h.next x.2.next) (ob (p t x.1) fun t' => k t' x.2)⟩) (actB o.op)) (cls P o.op)
def stepB (P : Program) (n : Nat) (ops : Array Oper) (o : Oper) : Bx StepF :=
  Option.rec (motive := fun _ => Bx StepF) (Bx.rec (motive := fun _ => Bx StepF) (fun p => stepN P o p) (putB n o.dst))
    (fun _ => ⟨fun call t h k => ob (opsStep P call n ops o t h) fun x => k x.1 x.2⟩) o.guard
def regB (P : Program) (n : Nat) (ops : Array Oper) (l : List Oper) : Bx (CallFn → Body) :=
  List.rec (motive := fun _ => Bx (CallFn → Body)) ⟨fun _ t h => some (.normal, t, h)⟩ (fun o _ ih => Bx.rec (motive := fun _ => Bx (CallFn → Body)) (fun g => Bx.rec (motive := fun _ => Bx (CallFn → Body)) (fun f => ⟨fun call t h => f call t h (g call)⟩) (stepB P n ops o)) ih) l
def cOps (ops : Array Oper) : CodeK := fun P _ call n t h => Bx.rec (motive := fun _ => Out) (fun f => f call t h) (regB P n ops ops.toList)
def cDraw (ops : Array Oper) : CodeK := fun P _ call n t h => norm (drawA P call n ops t h)
def cRegion (ops : Array Oper) (draw : Bool) : CodeK := bc draw (cDraw ops) (cOps ops)
def cSeq (a b : Code) : CodeK := fun _ code _ n t h => andThen (code n a t h) (code n b)
def cCond (x : Operand) (a b : Code) : CodeK := fun _ code _ n t h => ob (opd t x) fun v => onBool v fun c => bc c (code n a t h) (code n b t h)
def cBlock (id : Nat) (b : Code) : CodeK := fun _ code _ n t h => outBlock id (code n b t h)
def cLoop (d : Nat) (b : Code) : CodeK := fun _ code _ n t h => loopD (code n b) d t h
def cScope (d : Nat) (b : Code) : CodeK := fun _ code _ n t h => scopeD (code n) b d b t h

/-- no loop over a function, no scope -/
def noRF : Code → Bool
  | .seq a b => noRF a && noRF b
  | .cond _ a b => noRF a && noRF b
  | .block _ b => noRF b
  | .loop b => noRF b
  | .scope _ => false
  | .rangeFunc .. => false
  | .region _ ops _ => noDefer ops
  | _ => true

/-- the iterators of slices.Backward: an element's size, how it is read -/
abbrev Backs := FuncId → Option (Nat × Option Nat)
/-- a block that is written no more -/
def sealA (h : AH) (n : Nat) : Option AH := ob (h.get n) fun o => onCells o fun cs g _ => some (h.set n (.cells cs g true))
def isCellsA (o : Option AObj) : Bool := Option.rec (motive := fun _ => Bool) true (fun o => AObj.rec (motive := fun _ => Bool) (fun _ _ _ => true) (fun _ _ => false) (fun _ _ _ _ => false) true o) o
/-- what was made from a name on are cells -/
def cellsFrom (h : AH) (n k : Nat) : Bool := Nat.rec (motive := fun _ => Bool) true (fun k ih => bc (isCellsA (h.get (n + k))) ih false) k
def onlyCells (h0 h : AH) : Bool := cellsFrom h h0.next (h.next - h0.next)
/-- a list's elements, the last first, with their places -/
def backL (sz : Option Nat) (size : Nat) (cells : List AV) (n : Nat) : Option (List (Nat × AV)) :=
  Nat.rec (motive := fun _ => Option (List (Nat × AV))) (some []) (fun k ih => ob (partA sz cells (k * size)) fun x => om ih fun l => (k, x) :: l) n
def isNormal (r : Out) (f : Tp → AH → Option AH) : Option AH :=
  Option.casesOn (motive := fun _ => Option AH) r none fun x => Ex.casesOn (motive := fun _ => Option AH) x.1 (f x.2.1 x.2.2) (fun _ => none) (fun _ => none) none
def roundsA (n p q : Nat) (ra rb : Body) (h0 : AH) (t : Tp) (l : List (Nat × AV)) : AH → Option AH :=
  List.rec (motive := fun _ => AH → Option AH) some (fun x _ ih h => ob (putT n t (some p) (intN x.1)) fun t1 => ob (putT n t1 (some q) x.2) fun t2 =>
    isNormal (ra t2 h) fun t3 h1 => og (onlyCells h0 h1) (isNormal (rb t3 h1) fun _ h2 => og (onlyCells h0 h2) (ih h2))) l
/-- a slice's block, and its cells -/
def rowOf (h : AH) (size : Nat) (v : AV) : Option (Option (Nat × Nat) × Nat × List AV) :=
  onSl v (fun p n _ => Option.casesOn (motive := fun _ => Option (Option (Nat × Nat) × Nat × List AV)) p (og (Nat.beq n 0) (some (none, 0, []))) fun q => ob (h.get q.1) fun o => onCells o fun cs _ _ => om (rdCells cs q.2 (n * size)) fun l => (some q, n, l))
    (fun m o n _ _ => ob (h.get m) fun ob1 => onCells ob1 fun cs _ _ => om (rdCells cs o (n * size)) fun l => (some (m, o), n, l)) (some (none, 0, []))
def sealO (h : AH) (p : Option (Nat × Nat)) : Option AH := Option.casesOn (motive := fun _ => Option AH) p (some h) fun q => sealA h q.1
def two (ps : Array Tmp) (f : Nat → Nat → Out) : Out := match ps.toList with | [p, q] => f p q | _ => none
def backFn (back : Backs) (fn : Fn) (first cap : List AV) (f : Nat × Option Nat → Nat → Out) : Out :=
  match fn, first, cap with
  | .func g, [], [c] => ob (back g) fun b => onPtr c fun m o => og (Nat.beq o 0) (f b m)
  | _, _, _ => none
def cRange (back : Backs) (f : Operand) (ps : Array Tmp) (assign body : Code) : CodeK := fun P code _ n t h =>
  og (bc (noRF assign) (noRF body) false) (two ps fun p q => ob (opd t f) fun v => onFunc v fun fn first cap => backFn back fn first cap fun b m =>
    ob (rdAt none h m 0) fun sv => ob (rowOf h b.1 sv) fun r => og (Nat.ble r.2.1 1099511627776) <| ob (backL b.2 b.1 r.2.2 r.2.1) fun l => ob (sealA h m) fun h1 => ob (sealO h1 r.1) fun h2 =>
      om (roundsA n p q (code n assign) (code n body) h2 t l h2) fun h3 => (.normal, t, h3))

def codeB (d : Nat) (back : Backs) (c : Code) : Bx CodeK :=
  Code.rec (motive := fun _ => Bx CodeK) ⟨cNorm⟩ (fun _ ops q => ⟨cRegion ops q⟩) (fun a b _ _ => ⟨cSeq a b⟩) (fun x a b _ _ => ⟨cCond x a b⟩) (fun id b _ => ⟨cBlock id b⟩) (fun b _ => ⟨cLoop d b⟩) (fun f ps a b _ _ => ⟨cRange back f ps a b⟩)
    (fun id => ⟨cExit (.exit id)⟩) (fun b _ => ⟨cScope d b⟩) (fun _ => ⟨cNorm⟩) (fun l => ⟨cExit (.goto l)⟩) ⟨cExit .ret⟩ (fun _ => ⟨cNone⟩) c
def codeK (d : Nat) (back : Backs) (c : Code) : CodeK := Bx.rec (motive := fun _ => CodeK) (fun f => f) (codeB d back c)

def codeA (P : Program) (d : Nat) (back : Backs) (code : CodeFn) (call : CallFn) : CodeFn := fun n c => codeK d back c P code call n

def resA (P : Program) (t : Tp) (h : AH) (r : ResultVar) : Option AV :=
  ResultVar.casesOn (motive := fun _ => Option AV) r (fun i => get3 t i) fun a ty => ob (get3 t a) fun p => onPtr p fun n o => ob (aggSize P ty) fun sz => rdAt sz h n o
def resOf (l : List AV) : AV := match l with | [v] => v | l => .tuple l

def putArgs (l : List AV) : Nat → Tp → Tp :=
  List.rec (motive := fun _ => Nat → Tp → Tp) (fun _ t => t) (fun v _ ih i t => ih (i + 1) (put3 t i v)) l

def atEnd (r : Out) (f : Tp → AH → Option (AV × AH)) : Option (AV × AH) :=
  ob r fun x => Ex.casesOn (motive := fun _ => Option (AV × AH)) x.1 (f x.2.1 x.2.2) (fun _ => none) (fun _ => none) (f x.2.1 x.2.2)

/-- what is known of functions: what they answer; the iterators -/
structure Prims where
  fn : FuncId → Option (List AV → AH → Option (AV × AH))
  back : Backs

/-- a function's number of temporaries, results, body -/
def funcOf (P : Program) (f : FuncId) : Option (Nat × List ResultVar × Code) :=
  match P.funcs[f]? with
  | some fn => (match fn.body with
    | some b => bc (Nat.ble fn.ntmps 512) (some (fn.ntmps, fn.results.toList, b)) none
    | none => none)
  | none => none

def callA (P : Program) (prims : Prims) (code : CodeFn) : CallFn := fun f args h =>
  Option.casesOn (motive := fun _ => Option (AV × AH)) (prims.fn f)
    (ob (funcOf P f) fun x => og (Nat.ble (lenN args) x.1) (atEnd (code x.1 x.2.2 (putArgs args 0 (n3 AV)) h) fun t h' => om (mapO (resA P t h') x.2.1) fun l => (resOf l, h')))
    (fun p => p args h)

structure Fns where
  code : CodeFn
  call : CallFn

def evS (P : Program) (prims : Prims) (d k : Nat) : Fns :=
  Nat.rec (motive := fun _ => Fns) ⟨fun _ _ _ _ => none, fun _ _ _ => none⟩ (fun _ ih => ⟨codeA P d prims.back ih.code ih.call, callA P prims ih.code⟩) k

end Go.Ev
