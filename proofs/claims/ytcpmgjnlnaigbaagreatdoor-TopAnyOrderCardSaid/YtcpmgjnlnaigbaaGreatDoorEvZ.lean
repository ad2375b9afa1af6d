/- Keys of maps: texts, numbers. -/
import Derived.Test.YtcpmgjnlnaigbaaGreatDoorEvY
set_option linter.unusedVariables false
set_option linter.unusedSimpArgs false
noncomputable section
namespace Go.Ev
open Go Go.RowKit

theorem bytesLess_lt : ∀ a b : List UInt8, Op.bytesLess a b = decide (a < b)
  | _, [] => by simp [Op.bytesLess]
  | [], y :: b => by simp [Op.bytesLess]
  | x :: a, y :: b => by
    have ih := bytesLess_lt a b
    rw [Bool.eq_iff_iff, decide_eq_true_iff, List.cons_lt_cons_iff]
    simp [Op.bytesLess, ih]
theorem eqS_self : ∀ l : List Nat, eqS l l = true
  | [] => rfl
  | x :: r => by
    show bc (Nat.beq x x) (eqS r r) false = true
    rw [Nat.beq_refl, bc_true]; exact eqS_self r

def fitStr (v : AV) : Bool := match v with | .str l => Nat.ble (lenN l) 140737488351232 | _ => false
def keyStr : KeyC (List UInt8) where
  enc := fun l => .string ⟨l.toArray⟩
  abs := fun l => .str (l.map (·.toNat))
  lt := fun a b => decide (a < b)
  le := fun a b => decide (a ≤ b)
  lt_le := fun a b h => by simp at h ⊢; exact List.le_of_lt h
  not_lt := fun a b h => by simpa using h
  trans := fun a b c h k => by simp at h k ⊢; exact List.le_trans h k
  anti := fun a b h k => by simp at h k; exact List.le_antisymm h k
  total := fun a b => by simp; exact List.le_total a b
  ltK := fun a b => by
    show ltS (a.map (·.toNat)) (b.map (·.toNat)) = _
    rw [ltS_eq, bytesLess_lt]
  vr := fun E k => by simp only [VR]; exact ⟨_, rfl, by simp [bytesN]⟩
  self := fun k => by
    show onStr (.str (k.map (·.toNat))) (fun y => some (eqS (k.map (·.toNat)) y)) = some true
    rw [onStr_some]
    exact ⟨_, rfl, by rw [eqS_self]⟩
  fits := fitStr
  ok := fun k => k.length ≤ 140737488351232
  of := fun E a v hf hv => by
    unfold fitStr at hf
    split at hf
    · rename_i l
      simp only [VR] at hv
      obtain ⟨s, rfl, hs⟩ := hv
      rw [Nat.ble_eq, lenN_eq] at hf
      refine ⟨s.data.toList, ?_, ?_, ?_⟩
      · rw [← hs]; rfl
      · simp
      · rw [← hs] at hf; simpa [bytesN] using hf
    · cases hf

def fitInt (v : AV) : Bool := match v with
  | .int .i64 n => Int.casesOn (motive := fun _ => Bool) n (fun m => Nat.ble m 9223372036854775807) (fun m => Nat.ble m 9223372036854775807)
  | _ => false
def keyInt : KeyC Int where
  enc := fun n => .int .i64 n
  abs := fun n => .int .i64 n
  lt := fun a b => decide (a < b)
  le := fun a b => decide (a ≤ b)
  lt_le := fun a b h => by simp at h ⊢; omega
  not_lt := fun a b h => by simpa using h
  trans := fun a b c h k => by simp at h k ⊢; omega
  anti := fun a b h k => by simp at h k; omega
  total := fun a b => by simp; omega
  ltK := fun a b => by
    show ltI a b = _
    rw [ltI_eq]
  vr := fun E k => by simp only [VR]
  self := fun k => by
    show onInt (.int .i64 k) (fun j y => bc (eqK .i64 j) (some (eqI k y)) none) = some true
    rw [onInt_some]
    exact ⟨_, _, rfl, by rw [(eqK_eq _ _).2 rfl, bc_true, eqI_eq]; simp⟩
  fits := fitInt
  ok := fun n => -9223372036854775808 ≤ n ∧ n ≤ 9223372036854775807
  of := fun E a v hf hv => by
    unfold fitInt at hf
    split at hf
    · rename_i n
      simp only [VR] at hv
      refine ⟨n, rfl, hv, ?_⟩
      cases n with
      | ofNat m => have := Nat.le_of_ble_eq_true hf; constructor <;> simp <;> omega
      | negSucc m => have := Nat.le_of_ble_eq_true hf; constructor <;> omega
    · cases hf
end Go.Ev
