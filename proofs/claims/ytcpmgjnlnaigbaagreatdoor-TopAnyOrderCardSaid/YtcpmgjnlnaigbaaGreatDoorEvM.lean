/- append, in the model, then in the abstract machine. -/
import Derived.Test.YtcpmgjnlnaigbaaGreatDoorEvL
import Derived.Laws.BitsLemmas
set_option linter.unusedVariables false
set_option linter.unusedSimpArgs false
namespace Go.Ev
open Go

variable {P : Program} {E : Ren} {ρ : Env} {f : Operand → Value} {v : AV} {A A' : AH} {w : World}

def isIntD (d : TypeDesc) : Bool := match d with | .int _ => true | _ => false

/-- what is appended -/
def AppIn (P : Program) (zb : Bool) (i : TypeInfo) (z' : Value) (x' : Value) (n : Nat) (new : List Value) (w : World) : Prop :=
  (zb = true ∧ (∃ k, x' = .int k (n : Int)) ∧ n ≤ 16777216 ∧ new = (Builtin.zeroCells z'.cells n).toList) ∨
  (zb = false ∧ (∀ w', (Builtin.lenOf x').run P w' = .ok n w') ∧ ∀ w' : World, w'.heap = w.heap → (Builtin.firstCells i.size n x').run P w' = .ok new.toArray w')

theorem zeroCells_nil {z : Array Value} {n s : Nat} (hs : z.size = s) (h : n * s = 0) : Builtin.zeroCells z n = #[] := by
  apply Array.eq_empty_of_size_eq_zero
  rw [size_zeroCells, hs, h]

theorem isIntD_true {d : TypeDesc} (h : isIntD d = true) : ∃ k, d = .int k := by
  cases d <;> first | (cases h; done) | exact ⟨_, rfl⟩

theorem app_room {at' : Array TypeId} {args : Array Value} {ty t xT el : TypeId} {d : TypeDesc} {i : TypeInfo} {z' x' : Value} {base : Option Addr} {len cap n : Nat} {new : List Value}
    (ha0 : at'[0]? = some t) (ha1 : at'[1]? = some xT) (hx0 : args[0]? = some (.slice base len cap)) (hx1 : args[1]? = some x') (hxT : P.underlying xT = some d) (ht : P.underlying t = some (.slice el)) (hi : P.info? el = some i)
    (hz : ∀ w, (zeroValue el).run P w = .ok z' w) (hzs : z'.cells.size = i.size) (hin : AppIn P (isIntD d) i z' x' n new w) (hb : n * i.bytes ≤ 16777216) (hroom : len + n ≤ cap) :
    (Builtin.append_ at' ty args).run P w = ((match base with | some a => storeCells (a.add (len * i.size)) new | none => pure ()).run P w).andThen fun _ w' => .ok (.slice base (len + n) cap) w' := by
  have hsz : ∀ w, (sizeOf el).run P w = .ok i.size w := fun w => by simp [sizeOf, typeInfo, hi]
  have hti : ∀ w, (typeInfo el).run P w = .ok i w := fun w => by simp [typeInfo, hi]
  unfold Builtin.append_
  simp only [ha0, ha1, hx0, hx1, Sem.run_bind, run_und ht, run_und hxT, hsz, Result.andThen_ok, Sem.run_pure]
  split
  · rcases hin with ⟨hd, ⟨k, rfl⟩, hn, rfl⟩ | ⟨hd, _⟩
    · have hwrap : IntKind.i64.wrap (n : Int) = n := by rw [IntKind.wrap_i64]; omega
      have hbb : ¬ ((n : Int) * (i.bytes : Int) > 2 ^ 48) := by
        have : ((n * i.bytes : Nat) : Int) ≤ 16777216 := by omega
        rw [Int.natCast_mul] at this
        omega
      have hneg : ¬ ((n : Int) < 0) := by omega
      simp only [if_true, Go.asInt, Go.asIntOf, Sem.run_bind, Sem.run_pure, Result.andThen_ok, hwrap, hti, hneg, if_false, hbb, Int.toNat_natCast, hroom]
      by_cases h0 : n * i.size = 0
      · have hzc := zeroCells_nil hzs h0
        rw [if_pos h0, hzc]
        cases base <;> simp
      · rw [if_neg h0]
        cases base <;> simp [hz]
    · cases hd
  · rename_i hnot
    rcases hin with ⟨hd, _⟩ | ⟨hd, hlen, hfc⟩
    · obtain ⟨k, rfl⟩ := isIntD_true hd
      exact (hnot k rfl).elim
    · have hf := hfc w rfl
      cases base <;> simp [hlen, hf, hroom]

theorem app_grow {at' : Array TypeId} {args : Array Value} {ty t xT el : TypeId} {d : TypeDesc} {i : TypeInfo} {z' x' : Value} {base : Option Addr} {len cap n : Nat} {new olds : List Value}
    (ha0 : at'[0]? = some t) (ha1 : at'[1]? = some xT) (hx0 : args[0]? = some (.slice base len cap)) (hx1 : args[1]? = some x') (hxT : P.underlying xT = some d) (ht : P.underlying t = some (.slice el)) (hi : P.info? el = some i)
    (hz : ∀ w, (zeroValue el).run P w = .ok z' w) (hzs : z'.cells.size = i.size) (hin : AppIn P (isIntD d) i z' x' n new w) (hb : n * i.bytes ≤ 16777216) (hlb : len * i.bytes ≤ 16777216) (hb0 : i.bytes ≠ 0) (hroom : cap < len + n)
    (hold : ∀ w' : World, w'.heap = w.heap → (Builtin.firstCells i.size len (.slice base len cap)).run P w' = .ok olds.toArray w') :
    (Builtin.append_ at' ty args).run P w = .ok (.slice (some ⟨w.heap.size, 0, none⟩) (len + n) (grownCap w (len + n) cap el))
      (w.drew.alloc (.cells (olds.toArray ++ new.toArray ++ Builtin.zeroCells z'.cells (grownCap w (len + n) cap el - (len + n))) el)) := by
  have hsz : ∀ w, (sizeOf el).run P w = .ok i.size w := fun w => by simp [sizeOf, typeInfo, hi]
  have hti : ∀ w, (typeInfo el).run P w = .ok i w := fun w => by simp [typeInfo, hi]
  have hsum : (len + n) * i.bytes ≤ 33554432 := by rw [Nat.add_mul]; omega
  have hnr : ¬ (len + n ≤ cap) := by omega
  have hsm : len + n ≤ 33554432 := by
    have : (len + n) * 1 ≤ (len + n) * i.bytes := Nat.mul_le_mul_left _ (by omega)
    omega
  have h63 : ¬ (((len + n : Nat) : Int) > IntKind.i64.max) := by
    have h : IntKind.i64.max = 9223372036854775807 := rfl
    rw [h]; omega
  have h48 : ¬ (Builtin.nextslicecap (len + n) cap * i.bytes > 2 ^ 48) := by
    have := growslice_fits (need := len + n) (old := cap) (bytes := i.bytes) hroom (by omega)
    omega
  have hdr : ∀ w', w' = w.drew → w'.heap = w.heap := fun w' h => by rw [h]; rfl
  have hch : (choose (.appendCap (len + n) cap el)).run P w = .ok (grownCap w (len + n) cap el) w.drew := by
    rw [run_choose, if_neg (by simp [Question.forced])]; rfl
  have hask : ∀ (k : Nat) (w : World), (askRoom k).run P w = .ok () w := fun k w => run_askRoom P w k
  have hrow : ∀ (c : Array Value) (w : World), (newRow el c).run P w = .ok ⟨w.heap.size, 0, none⟩ (w.alloc (.cells c el)) := fun c w => run_newRow el c w
  have hfo := hold w.drew rfl
  unfold Builtin.append_
  simp only [ha0, ha1, hx0, hx1, Sem.run_bind, run_und ht, run_und hxT, hsz, Result.andThen_ok, Sem.run_pure]
  split
  · rcases hin with ⟨hd, ⟨k, rfl⟩, hn, rfl⟩ | ⟨hd, _⟩
    · have hwrap : IntKind.i64.wrap (n : Int) = n := by rw [IntKind.wrap_i64]; omega
      have hbb : ¬ ((n : Int) * (i.bytes : Int) > 2 ^ 48) := by
        have : ((n * i.bytes : Nat) : Int) ≤ 16777216 := by omega
        rw [Int.natCast_mul] at this
        omega
      have hneg : ¬ ((n : Int) < 0) := by omega
      simp only [if_true, Go.asInt, Go.asIntOf, Sem.run_bind, Sem.run_pure, Result.andThen_ok, hwrap, hti, hneg, if_false, hbb, Int.toNat_natCast, hnr, h63, false_and, h48, hch, hask, hfo, Bool.not_true, Bool.false_eq_true]
      by_cases h0 : n * i.size = 0
      · have hzc := zeroCells_nil hzs h0
        rw [if_pos h0, hzc]
        simp only [Sem.run_pure, Result.andThen_ok, hz, hrow]
        rfl
      · rw [if_neg h0]
        simp only [Sem.run_bind, Sem.run_pure, Result.andThen_ok, hz, hrow]
        rfl
    · cases hd
  · rename_i hnot
    rcases hin with ⟨hd, _⟩ | ⟨hd, hlen, hfc⟩
    · obtain ⟨k, rfl⟩ := isIntD_true hd
      exact (hnot k rfl).elim
    · have hf := hfc w.drew rfl
      simp only [if_true, Bool.false_eq_true, Bool.not_false, hlen, Sem.run_bind, Sem.run_pure, Result.andThen_ok, hti, if_false, hnr, h63, false_and, h48, hch, hask, hfo, hf, hz, hrow]
      rfl
end Go.Ev
