/- Chapter 11: floats of whole numbers are exact; contracts of span.Of and within. -/
import Derived.Test.YtjokjbihkejagaaLc
namespace Go.Proofs.Ytjokjbihkejagaa
open Go.RowKit

theorem pow_split (L : Nat) (h : L ≤ 52) : (2:Nat) ^ 52 = 2 ^ L * 2 ^ (52 - L) := by
  rw [← Nat.pow_add]; congr 1; omega

/-- the rung of a whole number below 2^53 -/
theorem nearest_small (neg : Bool) (m : Nat) (h0 : m ≠ 0) (h : m < 2 ^ 53) :
    Ieee.double.nearest neg m 0 = Ieee.double.word neg ((m.log2 + 1022) * 2 ^ 52 + m * 2 ^ (52 - m.log2)) := by
  have hL : m.log2 < 53 := (Nat.log2_lt h0).2 h
  have hlt : m < 2 ^ (m.log2 + 1) := Nat.lt_log2_self
  have hK : m * 2 ^ (52 - m.log2) < 2 ^ 53 := by
    have h1 : m * 2 ^ (52 - m.log2) < 2 ^ (m.log2 + 1) * 2 ^ (52 - m.log2) := Nat.mul_lt_mul_of_pos_right hlt (Nat.two_pow_pos _)
    rw [← Nat.pow_add] at h1
    have e : m.log2 + 1 + (52 - m.log2) = 53 := by omega
    rwa [e] at h1
  have hlast : max ((0 : Int) + (m.log2 : Nat) - (52 : Nat)) (-1074) = (m.log2 : Int) - 52 := by omega
  unfold Ieee.Format.nearest
  rw [if_neg h0]
  have hp : Ieee.double.leastPlace = -1074 := by decide
  have hb : Ieee.double.binade = 2 ^ 52 := rfl
  have hf : Ieee.double.fractionBits = 52 := rfl
  have hi : Ieee.double.infRung = 2047 * 2 ^ 52 := by decide
  simp only [hp, hf, hb, hi, hlast]
  have e1 : ((m.log2 : Int) - 52 - 0).toNat = 0 := by omega
  have e2 : ((0 : Int) - ((m.log2 : Int) - 52)).toNat = 52 - m.log2 := by omega
  have e3 : ((m.log2 : Int) - 52 - -1074).toNat = m.log2 + 1022 := by omega
  rw [e1, e2, e3]
  have e4 : Ieee.Toward.even.cut neg (m <<< (52 - m.log2)) 0 = m * 2 ^ (52 - m.log2) := by
    simp [Ieee.Toward.cut, Nat.shiftLeft_eq, Nat.mod_one]
  rw [e4, Nat.min_eq_left (by omega)]

theorem read_small (neg : Bool) (m : Nat) (h0 : m ≠ 0) (h : m < 2 ^ 53) :
    Ieee.double.read (Ieee.double.nearest neg m 0) = .number neg (m * 2 ^ (52 - m.log2)) ((m.log2 : Int) - 52) := by
  have hL : m.log2 < 53 := (Nat.log2_lt h0).2 h
  have hlt : m < 2 ^ (m.log2 + 1) := Nat.lt_log2_self
  have hge : 2 ^ m.log2 ≤ m := Nat.log2_self_le h0
  have hK : m * 2 ^ (52 - m.log2) < 2 ^ 53 := by
    have h1 : m * 2 ^ (52 - m.log2) < 2 ^ (m.log2 + 1) * 2 ^ (52 - m.log2) := Nat.mul_lt_mul_of_pos_right hlt (Nat.two_pow_pos _)
    rw [← Nat.pow_add] at h1
    have e : m.log2 + 1 + (52 - m.log2) = 53 := by omega
    rwa [e] at h1
  have hK2 : 2 ^ 52 ≤ m * 2 ^ (52 - m.log2) := by
    rw [pow_split m.log2 (by omega)]
    exact Nat.mul_le_mul_right _ hge
  rw [nearest_small neg m h0 h]
  generalize m * 2 ^ (52 - m.log2) = K at *
  generalize m.log2 = L at *
  have hp : Ieee.double.leastPlace = -1074 := by decide
  have hb : Ieee.double.binade = 2 ^ 52 := rfl
  have hi : Ieee.double.infRung = 2047 * 2 ^ 52 := by decide
  have hs : Ieee.double.signWeight = 2 ^ 63 := rfl
  unfold Ieee.Format.read Ieee.Format.word
  simp only [hp, hb, hi, hs]
  have hr : (L + 1022) * 2 ^ 52 + K < 2 ^ 63 := by omega
  obtain ⟨R, hR⟩ : ∃ R, R = (L + 1022) * 2 ^ 52 + K := ⟨_, rfl⟩
  rw [← hR]
  rw [← hR] at hr
  have a1 : (if neg = true then 2 ^ 63 + R else R) / 2 ^ 63 % 2 = if neg = true then 1 else 0 := by cases neg <;> simp <;> omega
  have a2 : (if neg = true then 2 ^ 63 + R else R) % 2 ^ 63 = R := by cases neg <;> simp <;> omega
  rw [a1, a2, if_neg (by omega), if_pos (by omega)]
  have a3 : 2 ^ 52 + R % 2 ^ 52 = K := by omega
  have a4 : (-1074 : Int) + ((R / 2 ^ 52 - 1 : Nat) : Int) = (L : Int) - 52 := by omega
  rw [a3, a4]
  cases neg <;> rfl

/-- the depth of the format: kept behind a name -/
def E74 : Nat := 1074

/-- a datum stands for a whole number -/
def Stands (d : Ieee.Datum) (a : Int) : Prop := ∃ s m i, d = .number s m i ∧ -(E74 : Int) ≤ i ∧ Ieee.signed s m (i + (E74 : Int)).toNat = a * 2 ^ E74

theorem stands_of (a : Int) (h : a.natAbs < 2 ^ 53) : Stands (Ieee.double.read (floatOfInt .f64 a)) a := by
  have hE : (E74 : Int) = 1074 := rfl
  have e : floatOfInt .f64 a = Ieee.double.nearest (decide (a < 0)) a.natAbs 0 := rfl
  rw [e]
  by_cases h0 : a.natAbs = 0
  · have : a = 0 := by omega
    subst this
    exact ⟨false, 0, -1074, by decide, by omega, by unfold Ieee.signed; simp⟩
  · rw [read_small _ _ h0 h]
    have hL : a.natAbs.log2 < 53 := (Nat.log2_lt h0).2 h
    refine ⟨_, _, _, rfl, by omega, ?_⟩
    have e1 : ((a.natAbs.log2 : Int) - 52 + (E74 : Int)).toNat = a.natAbs.log2 + 1022 := by omega
    rw [e1]
    have e2 : a.natAbs * 2 ^ (52 - a.natAbs.log2) * 2 ^ (a.natAbs.log2 + 1022) = a.natAbs * 2 ^ E74 := by
      rw [Nat.mul_assoc, ← Nat.pow_add, show 52 - a.natAbs.log2 + (a.natAbs.log2 + 1022) = E74 by unfold E74; omega]
    unfold Ieee.signed
    rw [Nat.shiftLeft_eq, e2]
    have e3 : ((a.natAbs * 2 ^ E74 : Nat) : Int) = (a.natAbs : Int) * 2 ^ E74 := by rw [Int.natCast_mul, Int.natCast_pow]; rfl
    rw [e3]
    by_cases hn : a < 0
    · rw [if_pos (by simpa using hn), ← Int.neg_mul]
      rw [show -((a.natAbs : Nat) : Int) = a by omega]
    · rw [if_neg (by simpa using hn)]
      rw [show ((a.natAbs : Nat) : Int) = a by omega]

theorem signed_scale (s : Bool) (m u v : Nat) : Ieee.signed s m (u + v) = Ieee.signed s m u * 2 ^ v := by
  unfold Ieee.signed
  have e : ((m <<< (u + v) : Nat) : Int) = ((m <<< u : Nat) : Int) * 2 ^ v := by
    rw [Nat.shiftLeft_eq, Nat.shiftLeft_eq, Nat.pow_add, ← Nat.mul_assoc, Int.natCast_mul, Int.natCast_pow]; rfl
  rw [e]
  split
  · rw [Int.neg_mul]
  · rfl

theorem cmp_scale (x y c : Int) (hc : 0 < c) : compare (x * c) (y * c) = compare x y := by
  rcases Int.lt_trichotomy x y with h | h | h
  · have h' : x * c < y * c := Int.mul_lt_mul_of_pos_right h hc
    rw [Int.compare_eq_lt.2 h, Int.compare_eq_lt.2 h']
  · rw [h, Int.compare_eq_eq.2 rfl, Int.compare_eq_eq.2 rfl]
  · have h' : y * c < x * c := Int.mul_lt_mul_of_pos_right h hc
    rw [Int.compare_eq_gt.2 h, Int.compare_eq_gt.2 h']

theorem two_pow_pos (v : Nat) : (0 : Int) < 2 ^ v := Int.pow_pos (by omega)

theorem order_stands {d e : Ieee.Datum} {a b : Int} (h : Stands d a) (k : Stands e b) : d.order e = some (compare a b) := by
  obtain ⟨s, m, i, rfl, hi, hs⟩ := h
  obtain ⟨t, n, j, rfl, hj, ht⟩ := k
  unfold Ieee.Datum.order
  simp only
  congr 1
  have e1 : (i + (E74 : Int)).toNat = (i - min i j).toNat + (min i j + (E74 : Int)).toNat := by omega
  have e2 : (j + (E74 : Int)).toNat = (j - min i j).toNat + (min i j + (E74 : Int)).toNat := by omega
  rw [← cmp_scale _ _ (2 ^ (min i j + (E74 : Int)).toNat) (two_pow_pos _), ← signed_scale, ← signed_scale, ← e1, ← e2, hs, ht]
  exact cmp_scale _ _ _ (two_pow_pos _)

theorem float_order (a b : Int) (ha : a.natAbs < 2 ^ 53) (hb : b.natAbs < 2 ^ 53) :
    FloatKind.f64.format.order (floatOfInt .f64 a) (floatOfInt .f64 b) = some (compare a b) :=
  order_stands (stands_of a ha) (stands_of b hb)

theorem float_ge (a b : Int) (ha : a.natAbs < 2 ^ 53) (hb : b.natAbs < 2 ^ 53) :
    (FloatKind.f64.format.order (floatOfInt .f64 a) (floatOfInt .f64 b) == some .gt || FloatKind.f64.format.order (floatOfInt .f64 a) (floatOfInt .f64 b) == some .eq) = decide (b ≤ a) := by
  rw [float_order a b ha hb]
  rcases Int.lt_trichotomy a b with h | h | h
  · rw [Int.compare_eq_lt.2 h, decide_eq_false (by omega)]; rfl
  · subst h; rw [Int.compare_eq_eq.2 rfl, decide_eq_true (by omega)]; rfl
  · rw [Int.compare_eq_gt.2 h, decide_eq_true (by omega)]; rfl

theorem float_le (a b : Int) (ha : a.natAbs < 2 ^ 53) (hb : b.natAbs < 2 ^ 53) :
    (FloatKind.f64.format.order (floatOfInt .f64 a) (floatOfInt .f64 b) == some .lt || FloatKind.f64.format.order (floatOfInt .f64 a) (floatOfInt .f64 b) == some .eq) = decide (a ≤ b) := by
  rw [float_order a b ha hb]
  rcases Int.lt_trichotomy a b with h | h | h
  · rw [Int.compare_eq_lt.2 h, decide_eq_true (by omega)]; rfl
  · subst h; rw [Int.compare_eq_eq.2 rfl, decide_eq_true (by omega)]; rfl
  · rw [Int.compare_eq_gt.2 h, decide_eq_false (by omega)]; rfl

theorem of_any (a b : Int) (w : World) :
    Calls Try.prog 32 #[.int .i64 a, .int .i64 b] w fun e w' => e = .returned (.complex .f64 (floatOfInt .f64 a) (floatOfInt .f64 b)) ∧ w = w' := by
  go_enter Try.func32, Try.ntmps32
  go_wp2
  go_ret
  exact ⟨rfl, rfl⟩

set_option maxHeartbeats 400000 in
theorem win_any (n a b : Int) (w : World) (hn : n.natAbs < 2 ^ 53) (ha : a.natAbs < 2 ^ 53) (hb : b.natAbs < 2 ^ 53) :
    Calls Try.prog 31 #[.int .i64 n, .complex .f64 (floatOfInt .f64 a) (floatOfInt .f64 b)] w fun e w' => e = .returned (.bool (decide (a ≤ n ∧ n ≤ b))) ∧ w = w' := by
  have g1 := float_ge n a hn ha
  have g2 := float_le n b hn hb
  have G1 := Lib.hid g1; clear g1
  have G2 := Lib.hid g2; clear g2
  clear hn ha hb
  generalize floatOfInt .f64 a = x at *
  generalize floatOfInt .f64 b = y at *
  go_enter Try.func31, Try.ntmps31
  go_wp2
  all_goals
    go_ret
    refine ⟨ret_bool ?_, rfl⟩
    rename_i h
    first
      | (rw [G1.out, G2.out, ← Bool.decide_and]; done)
      | (have t : (FloatKind.f64.format.order (floatOfInt .f64 n) x == some Ordering.gt || FloatKind.f64.format.order (floatOfInt .f64 n) x == some Ordering.eq) = false := by simpa using h
         rw [G1.out] at t
         symm
         simp at t ⊢
         omega)

end Go.Proofs.Ytjokjbihkejagaa
