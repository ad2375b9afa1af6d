/- Chapter 11: what LeaseAlone keeps in memory, and how it turns. -/
import Derived.Test.YtjokjbihkejagaaLq
import Derived.Test.YtjokjbihkejagaaLl
namespace Go.Proofs.Ytjokjbihkejagaa
open Go.RowKit

structure AMem (w : World) (bG bR bA bO bU : Nat) (gr : Nat → Nat) (rate asked till : Nat → Int) (got : Nat → Nat) (gw gn gt : Nat → Int) : Prop where
  cG : ∀ j, j < 3 → w.cell? ⟨bG, j, none⟩ = some (.pointer (some ⟨gr j, 0, none⟩))
  cR : ∀ j, j < 5 → w.cell? ⟨bR, j, none⟩ = some (.int .i64 (rate j))
  cA : ∀ j, j < 2 → w.cell? ⟨bA, j, none⟩ = some (.int .i64 (asked j))
  cO : ∀ j, j < 2 → w.cell? ⟨bO, j, none⟩ = some (.int .i64 (got j : Int))
  cU : ∀ j, j < 2 → w.cell? ⟨bU, j, none⟩ = some (.int .i64 (till j))
  fA : ∀ j, w.frozen? ⟨bA, j, none⟩ = false
  fO : ∀ j, w.frozen? ⟨bO, j, none⟩ = false
  fU : ∀ j, w.frozen? ⟨bU, j, none⟩ = false
  gs : ∀ j, j < 3 → Gr w (gr j) (gw j) (gn j) (gt j)
  lU : bU < w.heap.size

/-- the order of the blocks -/
structure ADis (B bG bR bA bO bU : Nat) (gr : Nat → Nat) : Prop where
  h0 : B ≤ bG
  h1 : bG < bR
  h2 : bR < gr 0
  h3 : gr 0 < gr 1
  h4 : gr 1 < gr 2
  h5 : gr 2 < bA
  h6 : bA < bO
  h7 : bO < bU

theorem ADis.gr3 {B bG bR bA bO bU : Nat} {gr : Nat → Nat} (h : ADis B bG bR bA bO bU gr) {j : Nat} (hj : j < 3) : bR < gr j ∧ gr j < bA ∧ B ≤ gr j := by
  have := h.h0; have := h.h1; have := h.h2; have := h.h3; have := h.h4; have := h.h5
  obtain rfl | rfl | rfl : j = 0 ∨ j = 1 ∨ j = 2 := by omega
  all_goals omega
theorem ADis.inj {B bG bR bA bO bU : Nat} {gr : Nat → Nat} (h : ADis B bG bR bA bO bU gr) {j k : Nat} (hj : j < 3) (hk : k < 3) (hne : j ≠ k) : gr j ≠ gr k := by
  have := h.h3; have := h.h4
  obtain rfl | rfl | rfl : j = 0 ∨ j = 1 ∨ j = 2 := by omega
  all_goals (obtain rfl | rfl | rfl : k = 0 ∨ k = 1 ∨ k = 2 := by omega)
  all_goals first | omega | (exact absurd rfl hne)

variable {w : World} {B bG bR bA bO bU : Nat} {gr : Nat → Nat} {rate asked till : Nat → Int} {got : Nat → Nat} {gw gn gt : Nat → Int}

theorem gr_setCell {g : Nat} {a b c : Int} (h : Gr w g a b c) (p : Addr) (hp : p.block ≠ g) (u : Value) : Gr (w.setCell p u) g a b c := by
  have ne : ∀ k, p ≠ ⟨g, k, none⟩ := fun k e => hp (by rw [e])
  exact ⟨by rw [World.cell?_setCell_other _ _ _ _ (ne 0)]; exact h.c0, by rw [World.cell?_setCell_other _ _ _ _ (ne 1)]; exact h.c1, by rw [World.cell?_setCell_other _ _ _ _ (ne 2)]; exact h.c2,
    by simpa using h.f0, by simpa using h.f1, by simpa using h.f2⟩

theorem AMem.setA (D : ADis B bG bR bA bO bU gr) (h : AMem w bG bR bA bO bU gr rate asked till got gw gn gt) (k : Nat) (hk : k < 2) (v : Int) :
    AMem (w.setCell ⟨bA, k, none⟩ (.int .i64 v)) bG bR bA bO bU gr rate (upd asked k v) till got gw gn gt := by
  have d0 := D.h1; have d2 := D.h2; have d3 := D.h3; have d4 := D.h4; have d5 := D.h5; have d6 := D.h6; have d7 := D.h7
  have ne : ∀ (b j : Nat), bA ≠ b → (⟨bA, k, none⟩ : Addr) ≠ ⟨b, j, none⟩ := fun b j hb e => hb (by injection e)
  refine ⟨fun j hj => ?_, fun j hj => ?_, fun j hj => ?_, fun j hj => ?_, fun j hj => ?_, fun j => by simpa using h.fA j, fun j => by simpa using h.fO j, fun j => by simpa using h.fU j, fun j hj => gr_setCell (h.gs j hj) _ (by have := D.gr3 hj; simp; omega) _, by simpa using h.lU⟩
  · rw [World.cell?_setCell_other _ _ _ _ (ne _ _ (by omega))]; exact h.cG j hj
  · rw [World.cell?_setCell_other _ _ _ _ (ne _ _ (by omega))]; exact h.cR j hj
  · by_cases e : j = k
    · subst e; rw [upd_same]; exact World.cell?_setCell_same _ _ _ (h.cA j hj)
    · rw [upd_other _ _ e, World.cell?_setCell_other _ _ _ _ (fun x => e (by injection x with _ x _; exact x.symm))]; exact h.cA j hj
  · rw [World.cell?_setCell_other _ _ _ _ (ne _ _ (by omega))]; exact h.cO j hj
  · rw [World.cell?_setCell_other _ _ _ _ (ne _ _ (by omega))]; exact h.cU j hj

theorem AMem.setO (D : ADis B bG bR bA bO bU gr) (h : AMem w bG bR bA bO bU gr rate asked till got gw gn gt) (k : Nat) (hk : k < 2) (v : Nat) {u : Int} (hu : u = v) :
    AMem (w.setCell ⟨bO, k, none⟩ (.int .i64 u)) bG bR bA bO bU gr rate asked till (upd got k v) gw gn gt := by
  subst hu
  have d0 := D.h1; have d2 := D.h2; have d3 := D.h3; have d4 := D.h4; have d5 := D.h5; have d6 := D.h6; have d7 := D.h7
  have ne : ∀ (b j : Nat), bO ≠ b → (⟨bO, k, none⟩ : Addr) ≠ ⟨b, j, none⟩ := fun b j hb e => hb (by injection e)
  refine ⟨fun j hj => ?_, fun j hj => ?_, fun j hj => ?_, fun j hj => ?_, fun j hj => ?_, fun j => by simpa using h.fA j, fun j => by simpa using h.fO j, fun j => by simpa using h.fU j, fun j hj => gr_setCell (h.gs j hj) _ (by have := D.gr3 hj; simp; omega) _, by simpa using h.lU⟩
  · rw [World.cell?_setCell_other _ _ _ _ (ne _ _ (by omega))]; exact h.cG j hj
  · rw [World.cell?_setCell_other _ _ _ _ (ne _ _ (by omega))]; exact h.cR j hj
  · rw [World.cell?_setCell_other _ _ _ _ (ne _ _ (by omega))]; exact h.cA j hj
  · by_cases e : j = k
    · subst e; rw [upd_same]; exact World.cell?_setCell_same _ _ _ (h.cO j hj)
    · rw [upd_other _ _ e, World.cell?_setCell_other _ _ _ _ (fun x => e (by injection x with _ x _; exact x.symm))]; exact h.cO j hj
  · rw [World.cell?_setCell_other _ _ _ _ (ne _ _ (by omega))]; exact h.cU j hj

theorem AMem.setU (D : ADis B bG bR bA bO bU gr) (h : AMem w bG bR bA bO bU gr rate asked till got gw gn gt) (k : Nat) (hk : k < 2) (v : Int) :
    AMem (w.setCell ⟨bU, k, none⟩ (.int .i64 v)) bG bR bA bO bU gr rate asked (upd till k v) got gw gn gt := by
  have d0 := D.h1; have d2 := D.h2; have d3 := D.h3; have d4 := D.h4; have d5 := D.h5; have d6 := D.h6; have d7 := D.h7
  have ne : ∀ (b j : Nat), bU ≠ b → (⟨bU, k, none⟩ : Addr) ≠ ⟨b, j, none⟩ := fun b j hb e => hb (by injection e)
  refine ⟨fun j hj => ?_, fun j hj => ?_, fun j hj => ?_, fun j hj => ?_, fun j hj => ?_, fun j => by simpa using h.fA j, fun j => by simpa using h.fO j, fun j => by simpa using h.fU j, fun j hj => gr_setCell (h.gs j hj) _ (by have := D.gr3 hj; simp; omega) _, by simpa using h.lU⟩
  · rw [World.cell?_setCell_other _ _ _ _ (ne _ _ (by omega))]; exact h.cG j hj
  · rw [World.cell?_setCell_other _ _ _ _ (ne _ _ (by omega))]; exact h.cR j hj
  · rw [World.cell?_setCell_other _ _ _ _ (ne _ _ (by omega))]; exact h.cA j hj
  · rw [World.cell?_setCell_other _ _ _ _ (ne _ _ (by omega))]; exact h.cO j hj
  · by_cases e : j = k
    · subst e; rw [upd_same]; exact World.cell?_setCell_same _ _ _ (h.cU j hj)
    · rw [upd_other _ _ e, World.cell?_setCell_other _ _ _ _ (fun x => e (by injection x with _ x _; exact x.symm))]; exact h.cU j hj

/-- only granter n's block has turned -/
theorem AMem.grown (D : ADis B bG bR bA bO bU gr) (h : AMem w bG bR bA bO bU gr rate asked till got gw gn gt) {n : Nat} (hn : n < 3) {w' : World} (hg : w.grownBy w' (some (gr n))) {a b c : Int} (hG : Gr w' (gr n) a b c) :
    AMem w' bG bR bA bO bU gr rate asked till got (upd gw n a) (upd gn n b) (upd gt n c) := by
  have d0 := D.h1; have d2 := D.h2; have d3 := D.h3; have d4 := D.h4; have d5 := D.h5; have d6 := D.h6; have d7 := D.h7
  have g3 := D.gr3 hn
  have lU := h.lU
  have far : ∀ (x j : Nat), x < w.heap.size → x ≠ gr n → w'.cell? ⟨x, j, none⟩ = w.cell? ⟨x, j, none⟩ := fun x j hx hne => hg.cell_far ⟨x, j, none⟩ hx (fun e => hne (by injection e))
  have ffar : ∀ (x j : Nat), x < w.heap.size → x ≠ gr n → w'.frozen? ⟨x, j, none⟩ = w.frozen? ⟨x, j, none⟩ := fun x j hx hne => hg.frozen_far ⟨x, j, none⟩ hx (fun e => hne (by injection e))
  refine ⟨fun j hj => (far _ _ (by omega) (by omega)).trans (h.cG j hj), fun j hj => (far _ _ (by omega) (by omega)).trans (h.cR j hj), fun j hj => (far _ _ (by omega) (by omega)).trans (h.cA j hj),
    fun j hj => (far _ _ (by omega) (by omega)).trans (h.cO j hj), fun j hj => (far _ _ (by omega) (by omega)).trans (h.cU j hj), fun j => (ffar _ _ (by omega) (by omega)).trans (h.fA j),
    fun j => (ffar _ _ (by omega) (by omega)).trans (h.fO j), fun j => (ffar _ _ (by omega) (by omega)).trans (h.fU j), fun j hj => ?_, Nat.lt_of_lt_of_le lU hg.size⟩
  by_cases e : j = n
  · subst e; rw [upd_same, upd_same, upd_same]; exact hG
  · rw [upd_other _ _ e, upd_other _ _ e, upd_other _ _ e]
    exact (h.gs j hj).grown hg (by have := D.gr3 hj; omega) (D.inj hj hn e)

theorem AMem.below (D : ADis B bG bR bA bO bU gr) (h : AMem w bG bR bA bO bU gr rate asked till got gw gn gt) {w' : World} (hb : Below w.heap.size w w') :
    AMem w' bG bR bA bO bU gr rate asked till got gw gn gt := by
  have d0 := D.h1; have d2 := D.h2; have d3 := D.h3; have d4 := D.h4; have d5 := D.h5; have d6 := D.h6; have d7 := D.h7
  have lU := h.lU
  have far : ∀ (x j : Nat), x < w.heap.size → w'.cell? ⟨x, j, none⟩ = w.cell? ⟨x, j, none⟩ := fun x j hx => hb.cell (p := ⟨x, j, none⟩) hx
  have ffar : ∀ (x j : Nat), x < w.heap.size → w'.frozen? ⟨x, j, none⟩ = w.frozen? ⟨x, j, none⟩ := fun x j hx => hb.frozen (p := ⟨x, j, none⟩) hx
  exact ⟨fun j hj => (far _ _ (by omega)).trans (h.cG j hj), fun j hj => (far _ _ (by omega)).trans (h.cR j hj), fun j hj => (far _ _ (by omega)).trans (h.cA j hj),
    fun j hj => (far _ _ (by omega)).trans (h.cO j hj), fun j hj => (far _ _ (by omega)).trans (h.cU j hj), fun j => (ffar _ _ (by omega)).trans (h.fA j),
    fun j => (ffar _ _ (by omega)).trans (h.fO j), fun j => (ffar _ _ (by omega)).trans (h.fU j), fun j hj => (h.gs j hj).below hb (by have := D.gr3 hj; omega), Nat.lt_of_lt_of_le lU hb.size⟩

theorem AMem.drewN (h : AMem w bG bR bA bO bU gr rate asked till got gw gn gt) (n : Nat) : AMem (w.drewN n) bG bR bA bO bU gr rate asked till got gw gn gt :=
  ⟨h.cG, h.cR, h.cA, h.cO, h.cU, h.fA, h.fO, h.fU, fun j hj => (h.gs j hj).drewN n, h.lU⟩

def Grw (w : World) (g : Nat) (a b c : Int) : Prop := Gr w g a b c

end Go.Proofs.Ytjokjbihkejagaa
