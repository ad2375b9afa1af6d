/- The law's own digits: a number as text. -/
import Derived.Test.YtdedklofngjlkaaGreatDoorTt
import Derived.Laws.Strings
import Derived.Lib.Hide
set_option linter.unusedVariables false
set_option linter.unusedSimpArgs false
namespace Go.Proofs.YtdedklofngjlkaaGreatDoor
open Go.RowKit Go.Ev

/-- what stands behind some rounds: the digits that are still to come, ahead of s -/
def DigI (U : Nat) (s : List UInt8) (u : Nat) : Prop := u ≤ U ∧ ((s = [] ∧ u = U) ∨ (s ≠ [] ∧ u = 0 ∧ s = Lib.decDigits U) ∨ (s ≠ [] ∧ 0 < u ∧ Lib.decDigits U = Lib.decDigits u ++ s))
theorem DigI.start (U : Nat) : DigI U [] U := ⟨Nat.le_refl _, .inl ⟨rfl, rfl⟩⟩
theorem decDigits_big {u : Nat} (h : ¬ u < 10) : Lib.decDigits u = Lib.decDigits (u / 10) ++ [UInt8.ofNat (48 + u % 10)] := by rw [Lib.decDigits, dif_neg h]
theorem DigI.step {U : Nat} {s : List UInt8} {u : Nat} (h : DigI U s u) (hgo : 0 < u ∨ s = []) : DigI U (UInt8.ofNat (48 + u % 10) :: s) (u / 10) := by
  obtain ⟨hle, h⟩ := h
  refine ⟨Nat.le_trans (Nat.div_le_self _ _) hle, .inr ?_⟩
  by_cases h10 : u < 10
  · have hz : u / 10 = 0 := by omega
    have hm : u % 10 = u := by omega
    rw [hz, hm]
    refine .inl ⟨by simp, rfl, ?_⟩
    rcases h with ⟨rfl, rfl⟩ | ⟨hs, hu, _⟩ | ⟨hs, hu, he⟩
    · rw [Lib.decDigits_one h10]
    · rcases hgo with h | h
      · omega
      · exact absurd h hs
    · rw [he, Lib.decDigits_one h10]; rfl
  · refine .inr ⟨by simp, by omega, ?_⟩
    rcases h with ⟨rfl, rfl⟩ | ⟨hs, hu, _⟩ | ⟨hs, hu, he⟩
    · rw [decDigits_big h10]
    · omega
    · rw [he, decDigits_big h10]; simp
theorem DigI.done {U : Nat} {s : List UInt8} {u : Nat} (h : DigI U s u) (hu : u = 0) (hs : s ≠ []) : s = Lib.decDigits U := by
  rcases h.2 with ⟨h, _⟩ | ⟨_, _, h⟩ | ⟨_, h, _⟩
  · exact absurd h hs
  · exact h
  · omega

theorem S_isEmpty {l : List UInt8} (h : l ≠ []) : (S l).toList.isEmpty = false := by
  rw [ByteArray.toList_eq, S_data]
  cases l with
  | nil => exact absurd rfl h
  | cons a r => rfl
theorem DigI.len {U : Nat} {s : List UInt8} {u : Nat} (h : DigI U s u) (hU : U < 100000000000000000000) : s.length ≤ 20 := by
  have hn := nDigits_le 19 U (by simpa using hU)
  rw [← Lib.decDigits_length] at hn
  rcases h.2 with ⟨rfl, _⟩ | ⟨_, _, rfl⟩ | ⟨_, _, he⟩
  · simp
  · exact hn
  · rw [he, List.length_append] at hn; omega
def mS (v : Value) : Nat := match v with | .string b => if b.size = 0 then 1 else 0 | _ => 0
def dgB (m : Nat) : UInt8 := UInt8.ofNat (48 + m)
theorem S_one (c : UInt8) (l : List UInt8) : S [c] ++ S l = S (c :: l) := ba_ext (by simp [S, ByteArray.data_append])
set_option maxRecDepth 100000 in
theorem slice10 (d : Nat) (hd : d < 10) (W : World) : (Instr.slice 9 (.string (ByteArray.mk #[48, 49, 50, 51, 52, 53, 54, 55, 56, 57])) (some (.int .u64 (d : Int))) (some (.int .u64 ((d : Int) + 1))) none).run Tryz.prog W = .ok (.string (S [dgB d])) W := by
  rcases (show d = 0 ∨ d = 1 ∨ d = 2 ∨ d = 3 ∨ d = 4 ∨ d = 5 ∨ d = 6 ∨ d = 7 ∨ d = 8 ∨ d = 9 by omega) with rfl | rfl | rfl | rfl | rfl | rfl | rfl | rfl | rfl | rfl
  all_goals rfl
set_option maxHeartbeats 4000000 in
set_option maxRecDepth 100000 in
theorem digits_any (n : Int) (h : in64 n) (w : World) :
    Calls Tryz.prog 4 #[.int .i64 n] w fun e w' => (∃ s : ByteArray, e = .returned (.string s) ∧ s.data.toList = Lib.itoa n) ∧ w' = w := by
  obtain ⟨h1, h2⟩ := h
  by_cases hn : n < 0
  · have hst : (-(n + 1) + 1 : Int) = ((n.natAbs : Nat) : Int) := by omega
    have hUB : n.natAbs ≤ 9223372036854775808 := by omega
    go_enter Tryz.func4, Tryz.ntmps4
    go_wp2_with (fail)
    go_loopw [3, 4] (fun s u wr => ∃ (l : List UInt8) (m : Nat), s = .string (S l) ∧ u = .int .u64 m ∧ DigI n.natAbs l m ∧ l.length ≤ 30 ∧ wr = w)
      (fun s u _ => (intOf u).toNat + mS s)
    case atStart => exact ⟨[], n.natAbs, rfl, rfl, DigI.start _, by simp, rfl⟩
    case round =>
      obtain ⟨l, m, rfl, rfl, hI, hll, rfl⟩ := hrel
      have hmU := hI.1
      have hls : (S l).size ≤ 1099511627776 := by rw [S_size]; omega
      by_cases hm : 0 < m
      · have hgt : (0 : Int) < (m : Int) := by omega
        have hd10 : m % 10 < 10 := Nat.mod_lt _ (by omega)
        have hpc : (Instr.slice 9 (.string (ByteArray.mk #[48, 49, 50, 51, 52, 53, 54, 55, 56, 57])) (some (.int .u64 ((m : Int) % 10))) (some (.int .u64 ((m : Int) % 10 + 1))) none).run Tryz.prog wr = .ok (.string (S [dgB (m % 10)])) wr := by
          have := slice10 (m % 10) hd10 wr
          rwa [show ((m % 10 : Nat) : Int) = (m : Int) % 10 from by omega] at this
        have hsl : (S [dgB (m % 10)]).size + (S l).size ≤ 1099511627776 := by rw [S_size, S_size]; simp only [List.length_cons, List.length_nil]; omega
        go_wp2_with (fail)
        go_roundw
        case rel =>
          refine ⟨dgB (m % 10) :: l, m / 10, by rw [S_one], by simp, ?_, ?_, trivial⟩
          · exact hI.step (.inl hm)
          · have := (hI.step (.inl hm)).len (by omega)
            simpa [dgB] using Nat.le_trans this (by omega : 20 ≤ 30)
        case measure =>
          have : mS (.string (S [dgB (m % 10)] ++ S l)) = 0 := by rw [S_one]; simp [mS, S_size]
          rw [this]
          simp [intOf]
          omega
      by_cases hl : l = []
      · subst hl
        have hm0 : m = 0 := by omega
        subst hm0
        have he : S [] = ByteArray.mk #[] := rfl
        rw [he]
        go_wp2_with (fail)
        go_roundw
        case rel =>
          refine ⟨[48], 0, rfl, rfl, ?_, by simp, trivial⟩
          have := hI.step (.inr rfl)
          exact this
        case measure => decide
      · have hne : ¬ S l = ⟨#[]⟩ := fun e => hl (by have := congrArg (fun x : ByteArray => x.data.toList) e; simpa [S] using this)
        have hm0 : m = 0 := by omega
        subst hm0
        have hem := S_isEmpty hl
        go_wp2_with (fail)
        go_ret
        refine ⟨⟨_, rfl, ?_⟩, rfl⟩
        rw [show Lib.itoa n = 45 :: Lib.decDigits n.natAbs from by unfold Lib.itoa; rw [if_pos hn], ← hI.done (by omega) hl]
        simp [S, ByteArray.data_append]
  · obtain ⟨N, rfl⟩ : ∃ N : Nat, n = (N : Int) := ⟨n.toNat, by omega⟩
    have hUB : N ≤ 9223372036854775808 := by omega
    go_enter Tryz.func4, Tryz.ntmps4
    go_wp2_with (fail)
    go_loopw [3, 4] (fun s u wr => ∃ (l : List UInt8) (m : Nat), s = .string (S l) ∧ u = .int .u64 m ∧ DigI N l m ∧ l.length ≤ 30 ∧ wr = w)
      (fun s u _ => (intOf u).toNat + mS s)
    case atStart => exact ⟨[], N, rfl, rfl, DigI.start _, by simp, rfl⟩
    case round =>
      obtain ⟨l, m, rfl, rfl, hI, hll, rfl⟩ := hrel
      have hmU := hI.1
      have hls : (S l).size ≤ 1099511627776 := by rw [S_size]; omega
      by_cases hm : 0 < m
      · have hgt : (0 : Int) < (m : Int) := by omega
        have hd10 : m % 10 < 10 := Nat.mod_lt _ (by omega)
        have hpc : (Instr.slice 9 (.string (ByteArray.mk #[48, 49, 50, 51, 52, 53, 54, 55, 56, 57])) (some (.int .u64 ((m : Int) % 10))) (some (.int .u64 ((m : Int) % 10 + 1))) none).run Tryz.prog wr = .ok (.string (S [dgB (m % 10)])) wr := by
          have := slice10 (m % 10) hd10 wr
          rwa [show ((m % 10 : Nat) : Int) = (m : Int) % 10 from by omega] at this
        have hsl : (S [dgB (m % 10)]).size + (S l).size ≤ 1099511627776 := by rw [S_size, S_size]; simp only [List.length_cons, List.length_nil]; omega
        go_wp2_with (fail)
        go_roundw
        case rel =>
          refine ⟨dgB (m % 10) :: l, m / 10, by rw [S_one], by simp, ?_, ?_, trivial⟩
          · exact hI.step (.inl hm)
          · have := (hI.step (.inl hm)).len (by omega)
            simpa [dgB] using Nat.le_trans this (by omega : 20 ≤ 30)
        case measure =>
          have : mS (.string (S [dgB (m % 10)] ++ S l)) = 0 := by rw [S_one]; simp [mS, S_size]
          rw [this]
          simp [intOf]
          omega
      by_cases hl : l = []
      · subst hl
        have hm0 : m = 0 := by omega
        subst hm0
        have he : S [] = ByteArray.mk #[] := rfl
        rw [he]
        go_wp2_with (fail)
        go_roundw
        case rel =>
          refine ⟨[48], 0, rfl, rfl, ?_, by simp, trivial⟩
          have := hI.step (.inr rfl)
          exact this
        case measure => decide
      · have hne : ¬ S l = ⟨#[]⟩ := fun e => hl (by have := congrArg (fun x : ByteArray => x.data.toList) e; simpa [S] using this)
        have hm0 : m = 0 := by omega
        subst hm0
        have hem := S_isEmpty hl
        go_wp2_with (fail)
        go_ret
        refine ⟨⟨_, rfl, ?_⟩, rfl⟩
        rw [Lib.itoa_nonneg, ← hI.done (by omega) hl, S_data]
end Go.Proofs.YtdedklofngjlkaaGreatDoor
