/- The abstract machine's operations that reckon: the model's come to the same. -/
import Derived.Test.YtcpmgjnlnaigbaaGreatDoorEvD
import Derived.Laws.Cells
import Derived.ChangeKeysEq
set_option linter.unusedVariables false
set_option linter.unusedSimpArgs false
namespace Go.Ev
open Go

def Good (E : Ren) (ρ : Env) (f : Operand → Value) : Prop := ∀ x v, ρ x = some v → VR E v (f x)

/-- what an operation that reckons comes to -/
def Pok (P : Program) (E : Ren) (f : Operand → Value) (o : Oper) (v : AV) : Prop := ∃ v', VR E v v' ∧ ∀ w, (execOp f o).run P w = .ok (.value v') w

theorem asBool_some {v : AV} {b : Bool} : asBool v = some b ↔ v = .bool b := by cases v <;> simp [asBool]
theorem asInt_some {v : AV} {p : IntKind × Int} : asInt v = some p ↔ v = .int p.1 p.2 := by cases v <;> simp [asInt, Prod.ext_iff, eq_comm]
theorem asStr_some {v : AV} {b : List Nat} : asStr v = some b ↔ v = .str b := by cases v <;> simp [asStr]
theorem asPtr_some {v : AV} {p : Nat × Nat} : asPtr v = some p ↔ v = .ptr (some p) := by cases v <;> simp [asPtr]
theorem asMap_some {v : AV} {m : Option Nat} : asMap v = some m ↔ v = .map m := by cases v <;> simp [asMap]
theorem asAgg_some {v : AV} {m : List AV} : asAgg v = some m ↔ v = .agg m := by cases v <;> simp [asAgg]
theorem asTuple_some {v : AV} {m : List AV} : asTuple v = some m ↔ v = .tuple m := by cases v <;> simp [asTuple]
theorem asFunc_some {v : AV} {p : Fn × List AV × List AV} : asFunc v = some p ↔ v = .func p.1 p.2.1 p.2.2 := by cases v <;> simp [asFunc, Prod.ext_iff, eq_comm]
theorem asIface_some {v : AV} {p : TypeId × AV} : asIface v = some p ↔ v = .iface p.1 p.2 := by cases v <;> simp [asIface, Prod.ext_iff, eq_comm]

variable {P : Program} {E : Ren} {ρ : Env} {f : Operand → Value} {v : AV}

theorem onBool_some {β : Type} {v : AV} {g : Bool → Option β} {y : β} : onBool v g = some y ↔ ∃ b, v = .bool b ∧ g b = some y := by simp [onBool, ob_some, asBool_some]
theorem onInt_some {β : Type} {v : AV} {g : IntKind → Int → Option β} {y : β} : onInt v g = some y ↔ ∃ k n, v = .int k n ∧ g k n = some y := by simp [onInt, ob_some, asInt_some]
theorem onStr_some {β : Type} {v : AV} {g : List Nat → Option β} {y : β} : onStr v g = some y ↔ ∃ b, v = .str b ∧ g b = some y := by simp [onStr, ob_some, asStr_some]
theorem onPtr_some {β : Type} {v : AV} {g : Nat → Nat → Option β} {y : β} : onPtr v g = some y ↔ ∃ n o, v = .ptr (some (n, o)) ∧ g n o = some y := by simp [onPtr, ob_some, asPtr_some]
theorem onMap_some {β : Type} {v : AV} {g : Option Nat → Option β} {y : β} : onMap v g = some y ↔ ∃ b, v = .map b ∧ g b = some y := by simp [onMap, ob_some, asMap_some]
theorem onAgg_some {β : Type} {v : AV} {g : List AV → Option β} {y : β} : onAgg v g = some y ↔ ∃ b, v = .agg b ∧ g b = some y := by simp [onAgg, ob_some, asAgg_some]
theorem onTuple_some {β : Type} {v : AV} {g : List AV → Option β} {y : β} : onTuple v g = some y ↔ ∃ b, v = .tuple b ∧ g b = some y := by simp [onTuple, ob_some, asTuple_some]
theorem onFunc_some {β : Type} {v : AV} {g : Fn → List AV → List AV → Option β} {y : β} : onFunc v g = some y ↔ ∃ a b c, v = .func a b c ∧ g a b c = some y := by simp [onFunc, ob_some, asFunc_some]
theorem onIface_some {β : Type} {v : AV} {g : TypeId → AV → Option β} {y : β} : onIface v g = some y ↔ ∃ a b, v = .iface a b ∧ g a b = some y := by simp [onIface, ob_some, asIface_some]
theorem onSl_some {β : Type} {v : AV} {g : Option (Nat × Nat) → Nat → Nat → Option β} {h : Nat → Nat → Nat → Nat → Nat → Option β} {e : Option β} {y : β} : onSl v g h e = some y ↔
    (∃ a l c, v = .slice a l c ∧ g a l c = some y) ∨ (∃ n o l eo mc, v = .gslice n o l eo mc ∧ h n o l eo mc = some y) ∨ (v = .eslice ∧ e = some y) := by
  constructor
  · intro h
    cases v <;> simp [onSl, asSl, ob] at h
    · exact .inl ⟨_, _, _, rfl, h⟩
    · exact .inr (.inl ⟨_, _, _, _, _, rfl, h⟩)
    · exact .inr (.inr ⟨rfl, h⟩)
  · rintro (⟨a, l, c, rfl, h⟩ | ⟨n, o, l, eo, mc, rfl, h⟩ | ⟨rfl, h⟩) <;> simpa [onSl, asSl, ob] using h

theorem kMove_ok {o : Oper} {x : Operand} (ho : o.op = .move x ∨ o.op = .assign x) (h : kMove x P ρ = some v) (hG : Good E ρ f) : Pok P E f o v :=
  ⟨f x, hG x v h, fun w => by rcases ho with ho | ho <;> simp [execOp, ho]⟩

theorem kPick_ok {o : Oper} {c a b : Operand} (ho : o.op = .pick c a b) (h : kPick c a b P ρ = some v) (hG : Good E ρ f) : Pok P E f o v := by
  simp only [kPick, ob_some, onBool_some] at h
  obtain ⟨t, ht, b', rfl, h⟩ := h
  have hc := hG c _ ht
  simp only [VR] at hc
  cases b' with
  | true => exact ⟨f a, hG a v h, fun w => by simp [execOp, ho, hc, Go.asBool]⟩
  | false => exact ⟨f b, hG b v h, fun w => by simp [execOp, ho, hc, Go.asBool]⟩

theorem kNil_ok {o : Oper} {x : Operand} (ho : o.op = .nilCheck x) (h : kNil x P ρ = some v) (hG : Good E ρ f) : Pok P E f o v := by
  simp only [kNil, ob_some] at h
  obtain ⟨u, hu, h⟩ := h
  have hx := hG x _ hu
  cases u with
  | ptr a =>
    cases a with
    | none => simp [notNil] at h
    | some p =>
      simp only [notNil, Option.some.injEq] at h
      subst h
      refine ⟨f x, hx, fun w => ?_⟩
      simp only [VR] at hx
      obtain ⟨b, κ, _, hx⟩ := hx
      simp [execOp, ho, hx]
  | func g a c =>
    cases g with
    | func k =>
      simp only [notNil, Option.some.injEq] at h
      subst h
      refine ⟨f x, hx, fun w => ?_⟩
      simp only [VR] at hx
      obtain ⟨b, κ, hx, _⟩ := hx
      simp [execOp, ho, hx]
    | _ => simp [notNil] at h
  | iface t y =>
    simp only [notNil, Option.some.injEq] at h
    subst h
    refine ⟨f x, hx, fun w => ?_⟩
    simp only [VR] at hx
    obtain ⟨x', hx, _⟩ := hx
    simp [execOp, ho, hx]
  | _ => simp [notNil] at h

theorem wrapA_eq (k : IntKind) (n : Int) : wrapA k n = k.wrap n := by
  cases n with
  | negSucc m => rfl
  | ofNat m =>
    show bc (Nat.ble m (topN k)) (Int.ofNat m) (k.wrap (Int.ofNat m)) = _
    cases hb : Nat.ble m (topN k) with
    | false => rfl
    | true =>
      have hm := Nat.le_of_ble_eq_true hb
      rw [bc_true]
      cases k <;> simp only [topN] at hm <;> simp [IntKind.wrap, IntKind.bits, IntKind.signed] <;> omega
theorem ltI_eq (a b : Int) : ltI a b = decide (a < b) := by
  cases a <;> cases b <;> simp only [ltI, Int.ofNat_eq_natCast]
  · rename_i m n
    rw [Bool.eq_iff_iff, decide_eq_true_iff, Nat.ble_eq]
    omega
  · rename_i m n; symm; rw [decide_eq_false_iff_not]; omega
  · rename_i m n; symm; rw [decide_eq_true_iff]; omega
  · rename_i m n
    rw [Bool.eq_iff_iff, decide_eq_true_iff, Nat.ble_eq]
    omega
theorem eqI_eq (a b : Int) : eqI a b = (a == b) := by
  cases a <;> cases b <;> simp only [eqI, Int.ofNat_eq_natCast]
  · rename_i m n
    rw [Bool.eq_iff_iff, Nat.beq_eq, beq_iff_eq]
    omega
  · rename_i m n; symm; rw [beq_eq_false_iff_ne]; omega
  · rename_i m n; symm; rw [beq_eq_false_iff_ne]; omega
  · rename_i m n
    rw [Bool.eq_iff_iff, Nat.beq_eq, beq_iff_eq]
    omega
theorem eqK_eq (k j : IntKind) : eqK k j = true ↔ k = j := by cases k <;> cases j <;> decide

theorem dec_le (a b : Int) : (!decide (b < a)) = decide (a ≤ b) := by rw [Bool.eq_iff_iff]; simp
theorem vr_int (E : Ren) (k : IntKind) (n : Int) : VR E (.int k n) (.int k n) := by simp only [VR]
theorem vr_bool (E : Ren) (b : Bool) : VR E (.bool b) (.bool b) := by simp only [VR]

theorem intBin_ok {op : BinOp} {k : IntKind} {a b : Int} {v : AV} (t : TypeId) (hs : isShift op = false) (h : intBinA op k a b = some v) :
    ∃ v', VR E v v' ∧ ∀ w, (binOp op t (.int k a) (.int k b)).run P w = .ok v' w := by
  cases op <;> simp only [intBinA, Option.some.injEq, reduceCtorEq] at h <;> first | (simp [isShift] at hs; done) | skip
  case add => subst h; exact ⟨_, vr_int _ _ _, fun w => by rw [wrapA_eq]; simp [binOp, Op.intArith]⟩
  case sub => subst h; exact ⟨_, vr_int _ _ _, fun w => by rw [wrapA_eq]; simp [binOp, Op.intArith]; rfl⟩
  case mul => subst h; exact ⟨_, vr_int _ _ _, fun w => by rw [wrapA_eq]; simp [binOp, Op.intArith]⟩
  case quo =>
    rw [bc_ite, eqI_eq] at h
    by_cases hb : b = 0
    · simp [hb] at h
    · rw [if_neg (by simpa using hb)] at h
      cases h
      exact ⟨_, vr_int _ _ _, fun w => by simp [binOp, Op.intDiv, wrapA_eq, hb]⟩
  case rem =>
    rw [bc_ite, eqI_eq] at h
    by_cases hb : b = 0
    · simp [hb] at h
    · rw [if_neg (by simpa using hb)] at h
      cases h
      exact ⟨_, vr_int _ _ _, fun w => by simp [binOp, Op.intDiv, hb]⟩
  case and => subst h; exact ⟨_, vr_int _ _ _, fun w => by simp [binOp, Op.intBits]⟩
  case or => subst h; exact ⟨_, vr_int _ _ _, fun w => by simp [binOp, Op.intBits]⟩
  case xor => subst h; exact ⟨_, vr_int _ _ _, fun w => by simp [binOp, Op.intBits]⟩
  case andNot => subst h; exact ⟨_, vr_int _ _ _, fun w => by simp [binOp, Op.intBits]⟩
  case eql => subst h; exact ⟨_, vr_bool _ _, fun w => by simp [binOp, Op.intCmp, eqI_eq]⟩
  case neq => subst h; exact ⟨_, vr_bool _ _, fun w => by simp [binOp, Op.intCmp, eqI_eq, bne]⟩
  case lss => subst h; exact ⟨_, vr_bool _ _, fun w => by simp [binOp, Op.intCmp, ltI_eq]⟩
  case leq => subst h; exact ⟨_, vr_bool _ _, fun w => by simp only [binOp, Op.intCmp, ltI_eq, dec_le]; simp⟩
  case gtr => subst h; exact ⟨_, vr_bool _ _, fun w => by simp [binOp, Op.intCmp, ltI_eq]⟩
  case geq => subst h; exact ⟨_, vr_bool _ _, fun w => by simp only [binOp, Op.intCmp, ltI_eq, dec_le]; simp⟩

theorem shift_ok {op : BinOp} {k j : IntKind} {a b : Int} {v : AV} (t : TypeId) (h : shiftA op k a b = some v) :
    ∃ v', VR E v v' ∧ ∀ w, (binOp op t (.int k a) (.int j b)).run P w = .ok v' w := by
  unfold shiftA at h
  rw [bc_ite, ltI_eq] at h
  by_cases hb : b < 0
  · simp [hb] at h
  · rw [if_neg (by simpa using hb)] at h
    cases op <;> simp only [Option.some.injEq, reduceCtorEq] at h
    case shl => subst h; exact ⟨_, vr_int _ _ _, fun w => by simp [binOp, Op.shift, hb]⟩
    case shr => subst h; exact ⟨_, vr_int _ _ _, fun w => by simp [binOp, Op.shift, hb]⟩

end Go.Ev
