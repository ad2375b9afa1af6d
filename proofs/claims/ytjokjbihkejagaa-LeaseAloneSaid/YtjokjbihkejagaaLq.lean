/- Chapter 11: the plain law behind LeaseAlone: never both holders may answer alone. -/
import Derived.Test.YtjokjbihkejagaaLd
import Derived.Test.YtjokjbihkejagaaLk
namespace Go.Proofs.Ytjokjbihkejagaa
open Go.RowKit

def upd {α : Type} (f : Nat → α) (k : Nat) (v : α) : Nat → α := fun j => if j = k then v else f j
@[simp] theorem upd_same {α : Type} (f : Nat → α) (k : Nat) (v : α) : upd f k v k = v := by simp [upd]
theorem upd_other {α : Type} (f : Nat → α) {k j : Nat} (v : α) (h : j ≠ k) : upd f k v j = f j := by simp [upd, h]

/-- A granter n granted for k at some time from A on, and bars for it as long. -/
def Qg (rn now k A gw gn gt : Int) : Prop := ∃ t, A ≤ t ∧ t ≤ now ∧ (now * rn < t * rn + 40000 → gw = 1 ∧ gn = k ∧ t * rn + 40000 ≤ gt)

def HH (rho : Int) : Int := 40000 * (1000 - rho) / (1000 + rho)

structure AInv (rho : Int) (rate : Nat → Int) (now : Int) (asked till : Nat → Int) (got : Nat → Nat) (gw gn gt : Nat → Int) : Prop where
  as0 : ∀ k, k < 2 → 0 ≤ asked k ∧ asked k ≤ now + 1
  gb : ∀ k, k < 2 → got k < 8
  gq : ∀ k, k < 2 → ∀ n, n < 3 → (got k).testBit n = true → 1 ≤ asked k ∧ Qg (rate (2 + n)) now k (asked k - 1) (gw n) (gn n) (gt n)
  tl : ∀ k, k < 2 → till k = 0 ∨ ∃ (A : Int) (n m : Nat), 0 ≤ A ∧ A ≤ now ∧ till k = A * rate k + HH rho ∧ n < 3 ∧ m < 3 ∧ n ≠ m ∧
    Qg (rate (2 + n)) now k A (gw n) (gn n) (gt n) ∧ Qg (rate (2 + m)) now k A (gw m) (gn m) (gt m)

structure Rates (rho : Int) (rate : Nat → Int) : Prop where
  r0 : 0 ≤ rho
  r1 : rho ≤ 500
  lo : ∀ j, j < 5 → 1000 - rho ≤ rate j
  hi : ∀ j, j < 5 → rate j ≤ 1000 + rho

theorem Qg.later {rn now now' k A gw gn gt : Int} (hr : 0 ≤ rn) (hn : now ≤ now') (h : Qg rn now k A gw gn gt) : Qg rn now' k A gw gn gt := by
  obtain ⟨t, a, b, c⟩ := h
  refine ⟨t, a, by omega, fun hp => c ?_⟩
  have := Int.mul_le_mul_of_nonneg_right hn hr
  omega

theorem AInv.later {rho : Int} {rate : Nat → Int} {now now' : Int} {asked till : Nat → Int} {got : Nat → Nat} {gw gn gt : Nat → Int} (R : Rates rho rate) (hn : now ≤ now') (h : AInv rho rate now asked till got gw gn gt) :
    AInv rho rate now' asked till got gw gn gt := by
  have pos : ∀ n, n < 3 → 0 ≤ rate (2 + n) := fun n hn => by have := R.lo (2 + n) (by omega); have := R.r1; omega
  refine ⟨fun k hk => ⟨(h.as0 k hk).1, by have := (h.as0 k hk).2; omega⟩, h.gb, fun k hk n hn' hb => ⟨(h.gq k hk n hn' hb).1, (h.gq k hk n hn' hb).2.later (pos n hn') hn⟩, fun k hk => ?_⟩
  rcases h.tl k hk with h0 | ⟨A, n, m, a0, a1, e, hn', hm, hne, q1, q2⟩
  · exact .inl h0
  · exact .inr ⟨A, n, m, a0, by omega, e, hn', hm, hne, q1.later (pos n hn') hn, q2.later (pos m hm) hn⟩

theorem AInv.asks {rho : Int} {rate : Nat → Int} {now : Int} {asked till : Nat → Int} {got : Nat → Nat} {gw gn gt : Nat → Int} (h0 : 0 ≤ now) (k : Nat) (h : AInv rho rate now asked till got gw gn gt) :
    AInv rho rate now (upd asked k (now + 1)) till (upd got k 0) gw gn gt := by
  refine ⟨fun j hj => ?_, fun j hj => ?_, fun j hj n hn hb => ?_, h.tl⟩
  · by_cases e : j = k
    · subst e; rw [upd_same]; omega
    · rw [upd_other _ _ e]; exact h.as0 j hj
  · by_cases e : j = k
    · subst e; rw [upd_same]; omega
    · rw [upd_other _ _ e]; exact h.gb j hj
  · by_cases e : j = k
    · subst e; rw [upd_same] at hb; simp at hb
    · rw [upd_other _ _ e] at hb ⊢; exact h.gq j hj n hn hb

/-- what a grant makes of what stands -/
theorem Qg.grants {rn now : Int} {k k' : Nat} {A gw gn gt : Int} (hb : barB gw gn gt k (now * rn) = false) (h : Qg rn now k' A gw gn gt) :
    Qg rn now k' A 1 k (max gt (now * rn + 40000)) := by
  obtain ⟨t, a, b, c⟩ := h
  refine ⟨t, a, b, fun hp => ?_⟩
  obtain ⟨c1, c2, c3⟩ := c hp
  by_cases e : k' = k
  · subst e; exact ⟨rfl, rfl, by omega⟩
  · exfalso
    have : barB gw gn gt k (now * rn) = true := by
      simp only [barB, decide_eq_true_eq]
      exact ⟨by omega, .inr ⟨c1, by omega⟩⟩
    rw [this] at hb
    cases hb

theorem AInv.grants {rho : Int} {rate : Nat → Int} {now : Int} {asked till : Nat → Int} {got : Nat → Nat} {gw gn gt : Nat → Int} (h0 : 0 ≤ now) {k n : Nat} (hk : k < 2) (hn : n < 3) (ha : 1 ≤ asked k)
    (hb : barB (gw n) (gn n) (gt n) k (now * rate (2 + n)) = false) (h : AInv rho rate now asked till got gw gn gt) :
    AInv rho rate now asked till (upd got k (got k ||| 2 ^ n)) (upd gw n 1) (upd gn n k) (upd gt n (max (gt n) (now * rate (2 + n) + 40000))) := by
  have turn : ∀ (j k' : Nat) (A : Int), Qg (rate (2 + j)) now k' A (gw j) (gn j) (gt j) → Qg (rate (2 + j)) now k' A (upd gw n 1 j) (upd gn n (k : Int) j) (upd gt n (max (gt n) (now * rate (2 + n) + 40000)) j) := fun j k' A q => by
    by_cases e : j = n
    · subst e; rw [upd_same, upd_same, upd_same]; exact q.grants hb
    · rw [upd_other _ _ e, upd_other _ _ e, upd_other _ _ e]; exact q
  refine ⟨h.as0, fun j hj => ?_, fun j hj m hm hbit => ?_, fun j hj => ?_⟩
  · by_cases e : j = k
    · subst e; rw [upd_same]
      have h1 : got j < 2 ^ 3 := h.gb j hj
      have h2 : 2 ^ n < 2 ^ 3 := Nat.pow_lt_pow_right (by omega) hn
      exact Nat.or_lt_two_pow h1 h2
    · rw [upd_other _ _ e]; exact h.gb j hj
  · by_cases e : j = k
    · subst e
      rw [upd_same, Nat.testBit_or, Nat.testBit_two_pow] at hbit
      by_cases em : n = m
      · subst em
        refine ⟨ha, now, by have := (h.as0 j hj).2; omega, Int.le_refl _, fun _ => ?_⟩
        rw [upd_same, upd_same, upd_same]
        exact ⟨rfl, rfl, by omega⟩
      · simp [em] at hbit
        exact ⟨ha, turn m j _ (h.gq j hj m hm hbit).2⟩
    · rw [upd_other _ _ e] at hbit
      exact ⟨(h.gq j hj m hm hbit).1, turn m j _ (h.gq j hj m hm hbit).2⟩
  · rcases h.tl j hj with h1 | ⟨A, a, b, a0, a1, ee, hn', hm, hne, q1, q2⟩
    · exact .inl h1
    · exact .inr ⟨A, a, b, a0, a1, ee, hn', hm, hne, turn _ _ _ q1, turn _ _ _ q2⟩

/-- most of three bits -/
def Most (m : Nat) : Prop := m = 3 ∨ m = 5 ∨ m = 6 ∨ m = 7
theorem most_two {m : Nat} (h : Most m) : ∃ a b : Nat, a < 3 ∧ b < 3 ∧ a ≠ b ∧ m.testBit a = true ∧ m.testBit b = true := by
  rcases h with rfl | rfl | rfl | rfl
  · exact ⟨0, 1, by decide⟩
  · exact ⟨0, 2, by decide⟩
  · exact ⟨1, 2, by decide⟩
  · exact ⟨0, 1, by decide⟩

theorem AInv.holds {rho : Int} {rate : Nat → Int} {now : Int} {asked till : Nat → Int} {got : Nat → Nat} {gw gn gt : Nat → Int} {k : Nat} (hk : k < 2) (hm : Most (got k)) (h : AInv rho rate now asked till got gw gn gt) :
    AInv rho rate now asked (upd till k ((asked k - 1) * rate k + HH rho)) got gw gn gt := by
  refine ⟨h.as0, h.gb, h.gq, fun j hj => ?_⟩
  by_cases e : j = k
  · subst e
    rw [upd_same]
    obtain ⟨a, b, ha, hb, hne, t1, t2⟩ := most_two hm
    obtain ⟨p, q1⟩ := h.gq j hj a ha t1
    obtain ⟨_, q2⟩ := h.gq j hj b hb t2
    exact .inr ⟨asked j - 1, a, b, by omega, by have := (h.as0 j hj).2; omega, rfl, ha, hb, hne, q1, q2⟩
  · rw [upd_other _ _ e]; exact h.tl j hj

theorem Qg.bars {rho : Int} {rate : Nat → Int} (R : Rates rho rate) {now : Int} {k n : Nat} (hk : k < 2) (hn : n < 3) {A gw gn gt : Int} (hu : now * rate k < A * rate k + HH rho) (q : Qg (rate (2 + n)) now k A gw gn gt) : gn = k := by
  obtain ⟨t, a, b, c⟩ := q
  have := safe_math (rho := rho) (one := rate k) (two := rate (2 + n)) (asked := A) (later := t) (length := 40000) (now := now) R.r0 R.r1 (R.lo k (by omega)) (R.hi (2 + n) (by omega)) (by have := R.lo (2 + n) (by omega); have := R.r1; omega) a b hu
  exact (c this).2.1

theorem AInv.alone {rho : Int} {rate : Nat → Int} (R : Rates rho rate) {now : Int} (h0 : 0 ≤ now) {asked till : Nat → Int} {got : Nat → Nat} {gw gn gt : Nat → Int} (h : AInv rho rate now asked till got gw gn gt) :
    ¬ (now * rate 0 < till 0 ∧ now * rate 1 < till 1) := by
  rintro ⟨u0, u1⟩
  have p0 : 0 ≤ now * rate 0 := Int.mul_nonneg h0 (by have := R.lo 0 (by omega); have := R.r1; omega)
  have p1 : 0 ≤ now * rate 1 := Int.mul_nonneg h0 (by have := R.lo 1 (by omega); have := R.r1; omega)
  rcases h.tl 0 (by omega) with e0 | ⟨A, a, b, _, _, e0, ha, hb, hab, qa, qb⟩
  · omega
  rcases h.tl 1 (by omega) with e1 | ⟨B, c, d, _, _, e1, hc, hd, hcd, qc, qd⟩
  · omega
  rw [e0] at u0
  rw [e1] at u1
  have ka := qa.bars R (by omega) ha u0
  have kb := qb.bars R (by omega) hb u0
  have kc := qc.bars R (by omega) hc u1
  have kd := qd.bars R (by omega) hd u1
  have hor : a = c ∨ a = d ∨ b = c ∨ b = d := by omega
  rcases hor with rfl | rfl | rfl | rfl
  · rw [ka] at kc; simp at kc
  · rw [ka] at kd; simp at kd
  · rw [kb] at kc; simp at kc
  · rw [kb] at kd; simp at kd

end Go.Proofs.Ytjokjbihkejagaa
