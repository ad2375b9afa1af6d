/- Chapter 11: the walk of LeaseAlone. -/
import Derived.Test.YtjokjbihkejagaaLr
import Derived.Test.YtjokjbihkejagaaLp
import Derived.Deep.CutBlock
import Derived.Deep.DeepCutAuto
import Derived.Deep.RegionHeld3
import Derived.IntWalk
namespace Go.Proofs.Ytjokjbihkejagaa
open Go.RowKit

def Nums (w : World) (a : Option Addr) (n : Nat) (xs : Nat → Int) : Prop :=
  n = 0 ∨ ∃ b o, a = some ⟨b, o, none⟩ ∧ b < w.heap.size ∧ ∀ j, j < n → w.cell? ⟨b, o + j, none⟩ = some (.int .i64 (xs j)) ∧ (Lit.int .i64 (xs j)).wf = true
def Rows4 (w : World) (a : Option Addr) (n : Nat) (xs : Nat → Nat → Int) : Prop :=
  n = 0 ∨ ∃ b o, a = some ⟨b, o, none⟩ ∧ b < w.heap.size ∧ Lies4 w b o n xs

/-- rates are being laid -/
structure RateAt (w : World) (bG bR : Nat) (rho : Int) (k : Nat) (rate : Nat → Int) (wr : World) : Prop where
  cR : ∀ j, j < 5 → wr.cell? ⟨bR, j, none⟩ = some (.int .i64 (rate j))
  fR : ∀ j, wr.frozen? ⟨bR, j, none⟩ = false
  rb : ∀ j, j < k → 1000 - rho ≤ rate j ∧ rate j ≤ 1000 + rho
  cG : ∀ j, j < 3 → wr.cell? ⟨bG, j, none⟩ = some (.pointer none)
  fG : ∀ j, wr.frozen? ⟨bG, j, none⟩ = false
  bw : Below w.heap.size w wr
  lR : bR < wr.heap.size

theorem RateAt.set {w : World} {bG bR : Nat} {rho : Int} {k : Nat} {rate : Nat → Int} {wr : World} (h : RateAt w bG bR rho k rate wr) (hw : w.heap.size ≤ bR) (hne : bG ≠ bR) (hk : k < 5) (v : Int) :
    RateAt w bG bR rho k (upd rate k v) (wr.setCell ⟨bR, k, none⟩ (.int .i64 v)) := by
  refine ⟨fun j hj => ?_, fun j => by simpa using h.fR j, fun j hj => by rw [upd_other _ _ (by omega)]; exact h.rb j hj, fun j hj => ?_, fun j => by simpa using h.fG j, h.bw.setCell hw _, by simpa using h.lR⟩
  · by_cases e : j = k
    · subst e; rw [upd_same]; exact World.cell?_setCell_same _ _ _ (h.cR j hj)
    · rw [upd_other _ _ e, World.cell?_setCell_other _ _ _ _ (fun x => e (by injection x with _ x _; exact x.symm))]; exact h.cR j hj
  · rw [World.cell?_setCell_other _ _ _ _ (fun x => hne (by injection x with x; exact x.symm))]; exact h.cG j hj

theorem RateAt.up {w : World} {bG bR : Nat} {rho : Int} {k : Nat} {rate : Nat → Int} {wr : World} (h : RateAt w bG bR rho k rate wr) (hv : 1000 - rho ≤ rate k ∧ rate k ≤ 1000 + rho) : RateAt w bG bR rho (k + 1) rate wr :=
  ⟨h.cR, h.fR, fun j hj => by
    by_cases e : j = k
    · subst e; exact hv
    · exact h.rb j (by omega), h.cG, h.fG, h.bw, h.lR⟩

def RateRel (w : World) (bG bR : Nat) (rho : Int) (i : Value) (wr : World) : Prop := ∃ (k : Nat) (rate : Nat → Int), k ≤ 5 ∧ i = .int .i64 k ∧ RateAt w bG bR rho k rate wr

/-- granters are being made -/
structure MadeAt (w : World) (bG bR : Nat) (rate : Nat → Int) (k : Nat) (gr : Nat → Nat) (wr : World) : Prop where
  cR : ∀ j, j < 5 → wr.cell? ⟨bR, j, none⟩ = some (.int .i64 (rate j))
  cG : ∀ j, j < 3 → wr.cell? ⟨bG, j, none⟩ = some (.pointer (if j < k then some ⟨gr j, 0, none⟩ else none))
  fG : ∀ j, wr.frozen? ⟨bG, j, none⟩ = false
  gs : ∀ j, j < k → Gr wr (gr j) 0 0 0
  up : ∀ j, j < k → bR < gr j ∧ gr j < wr.heap.size
  inc : ∀ i j, i < j → j < k → gr i < gr j
  bw : Below w.heap.size w wr
  lR : bR < wr.heap.size

theorem MadeAt.made {w : World} {bG bR : Nat} {rate : Nat → Int} {k : Nat} {gr : Nat → Nat} {wr w1 : World} (h : MadeAt w bG bR rate k gr wr) (hw : w.heap.size ≤ bG) (hGR : bG < bR) (hk : k < 3)
    (hG : Gr w1 wr.heap.size 0 0 0) (hb : Below wr.heap.size wr w1) (hs : w1.heap.size = wr.heap.size + 1) :
    MadeAt w bG bR rate (k + 1) (upd gr k wr.heap.size) (w1.setCell ⟨bG, k, none⟩ (.pointer (some ⟨wr.heap.size, 0, none⟩))) := by
  have lR := h.lR
  have far : ∀ x j : Nat, x < wr.heap.size → w1.cell? ⟨x, j, none⟩ = wr.cell? ⟨x, j, none⟩ := fun x j hx => hb.cell (p := ⟨x, j, none⟩) hx
  have ne : ∀ x j : Nat, bG ≠ x → (⟨bG, k, none⟩ : Addr) ≠ ⟨x, j, none⟩ := fun x j hx e => hx (by injection e)
  refine ⟨fun j hj => ?_, fun j hj => ?_, fun j => ?_, fun j hj => ?_, fun j hj => ?_, fun i j hij hj => ?_, (h.bw.trans (hb.mono h.bw.size)).setCell hw _, by simp; omega⟩
  · rw [World.cell?_setCell_other _ _ _ _ (ne _ _ (by omega)), far _ _ lR]; exact h.cR j hj
  · by_cases e : j = k
    · subst e
      rw [if_pos (by omega), upd_same]
      exact World.cell?_setCell_same _ _ _ ((far _ _ (by omega)).trans (h.cG j hj))
    · rw [World.cell?_setCell_other _ _ _ _ (fun x => e (by injection x with _ x _; exact x.symm)), far _ _ (by omega), h.cG j hj, upd_other _ _ e]
      congr 2
      by_cases e2 : j < k
      · rw [if_pos e2, if_pos (by omega)]
      · rw [if_neg e2, if_neg (by omega)]
  · simpa using (hb.frozen (p := ⟨bG, j, none⟩) (by simp; omega)).trans (h.fG j)
  · by_cases e : j = k
    · subst e; rw [upd_same]; exact gr_setCell hG _ (by simp; omega) _
    · rw [upd_other _ _ e]
      have u := h.up j (by omega)
      exact gr_setCell ((h.gs j (by omega)).below hb u.2) _ (by simp; omega) _
  · by_cases e : j = k
    · subst e; rw [upd_same]; simp; omega
    · rw [upd_other _ _ e]
      have u := h.up j (by omega)
      simp; omega
  · by_cases e : j = k
    · subst e
      rw [upd_same, upd_other _ _ (by omega)]
      exact (h.up i (by omega)).2
    · rw [upd_other _ _ e, upd_other _ _ (by omega)]
      exact h.inc i j hij (by omega)

def MadeRel (w : World) (bG bR : Nat) (rate : Nat → Int) (i : Value) (wr : World) : Prop := ∃ (k : Nat) (gr : Nat → Nat), k ≤ 3 ∧ i = .int .i64 k ∧ MadeAt w bG bR rate k gr wr

def AloneRel (w : World) (rho : Int) (bG bR bA bO bU : Nat) (gr : Nat → Nat) (rate : Nat → Int) (ln : Nat) (nowv i : Value) (wr : World) : Prop :=
  ∃ (k : Nat) (now : Int) (asked till : Nat → Int) (got : Nat → Nat) (gw gn gt : Nat → Int), k ≤ ln ∧ k ≤ 120 ∧ nowv = .int .i64 now ∧ i = .int .i64 k ∧ 0 ≤ now ∧ now ≤ 20 * k ∧
    AMem wr bG bR bA bO bU gr rate asked till got gw gn gt ∧ AInv rho rate now asked till got gw gn gt ∧ Below w.heap.size w wr

def MidA (w : World) (rho : Int) (bG bR bA bO bU : Nat) (gr : Nat → Nat) (rate : Nat → Int) (now : Int) (wr : World) : Prop :=
  ∃ (asked till : Nat → Int) (got : Nat → Nat) (gw gn gt : Nat → Int), AMem wr bG bR bA bO bU gr rate asked till got gw gn gt ∧ AInv rho rate now asked till got gw gn gt ∧ Below w.heap.size w wr

theorem upd_self {α : Type} (f : Nat → α) (n : Nat) : upd f n (f n) = f := by
  funext j; unfold upd; split <;> simp_all

theorem or_bits (m n : Nat) (hm : m < 8) (hn : n < 3) : bits BinOp.or IntKind.i64 (m : Int) (wrap64 (2 ^ n)) = ((m ||| 2 ^ n : Nat) : Int) := by
  obtain rfl | rfl | rfl : n = 0 ∨ n = 1 ∨ n = 2 := by omega
  all_goals
    obtain rfl | rfl | rfl | rfl | rfl | rfl | rfl | rfl : m = 0 ∨ m = 1 ∨ m = 2 ∨ m = 3 ∨ m = 4 ∨ m = 5 ∨ m = 6 ∨ m = 7 := by omega
    all_goals decide +kernel

set_option maxRecDepth 100000 in
set_option maxHeartbeats 40000000 in
theorem alone_walk (ra la : Option Addr) (rn rc ln lc : Nat) (xs : Nat → Int) (ys : Nat → Nat → Int) (a0 : Int) (w : World) (w0 : (Lit.int .i64 a0).wf = true) (hrn : rn ≤ 9223372036854775807) (hln : ln ≤ 9223372036854775807)
    (hr : Nums w ra rn xs) (hl : Rows4 w la ln ys) :
    Calls Try.prog 4 #[.int .i64 a0, .slice ra rn rc, .slice la ln lc] w fun e w' => e = .returned (.bool true) ∧ Below w.heap.size w w' := by
  obtain ⟨l0, u0⟩ := wf_bd w0
  clear w0
  have HR := Lib.hid hr; clear hr
  have HL := Lib.hid hl; clear hl
  go_enter Try.func4, Try.ntmps4
  go_wp2_with (fail)
  refine (within_any a0 _ _ _ l0 u0 (by omega) (by omega) (by omega)).mono ?_
  obtain ⟨r0, r1⟩ := within_bd a0 (show (0 : Int) ≤ 500 by omega)
  generalize (0 : Int) + a0 % (500 - 0 + 1) = rho at *
  rintro e w' ⟨rfl, rfl⟩
  clear l0 u0
  go_wp2_with (fail)
  obtain ⟨bG, hbG⟩ : ∃ bG : Nat, bG = w.heap.size := ⟨_, rfl⟩
  obtain ⟨W, hW⟩ : ∃ W : World, W = (w.alloc (Obj.cells #[Value.pointer none, Value.pointer none, Value.pointer none] 35)).alloc (Obj.cells #[Value.int IntKind.i64 0, Value.int IntKind.i64 0, Value.int IntKind.i64 0, Value.int IntKind.i64 0, Value.int IntKind.i64 0] 36) := ⟨_, rfl⟩
  have hst : RateRel w bG (bG + 1) rho (.int .i64 ((0 : Nat) : Int)) W := by
    refine ⟨0, fun _ => 0, by omega, rfl, ⟨fun j hj => ?_, fun j => ?_, fun j hj => by omega, fun j hj => ?_, fun j => ?_, ?_, ?_⟩⟩
    · rw [hW, hbG]
      obtain rfl | rfl | rfl | rfl | rfl : j = 0 ∨ j = 1 ∨ j = 2 ∨ j = 3 ∨ j = 4 := by omega
      all_goals (rw [World.cell?_alloc_at _ _ _ _ (by simp)]; rfl)
    · rw [hW, hbG]
      exact World.frozen?_alloc_at _ _ _ _ (by simp)
    · rw [hW, hbG]
      obtain rfl | rfl | rfl : j = 0 ∨ j = 1 ∨ j = 2 := by omega
      all_goals (rw [World.cell?_alloc_past _ _ _ (by simp), World.cell?_alloc_at _ _ _ _ rfl]; rfl)
    · rw [hW, hbG, World.frozen?_alloc_old _ _ _ (by simp)]
      exact World.frozen?_alloc_at _ _ _ _ rfl
    · rw [hW]; exact ((Below.refl _ _).alloc (Nat.le_refl _) _).alloc (by simp) _
    · rw [hW, hbG]; simp
  rw [← hW, ← hbG]
  clear hW
  have hbG' : w.heap.size ≤ bG := by omega
  clear hbG
  go_loopw [9] (fun i wr => RateRel w bG (bG + 1) rho i wr) (fun i _ => 5 - (intOf i).toNat)
  case atStart => exact hst
  case round =>
    clear hst
    obtain ⟨k, rate, hk, rfl, hR⟩ := hrel
    have hbw := hR.bw
    have hsz := hR.lR
    by_cases hlt : k < 5
    · have hck := hR.cR k hlt
      have hfk := hR.fR k
      have hk0 : (0 : Int) ≤ (k : Int) := Int.natCast_nonneg _
      have hk1 : (k : Int) < 5 := by omega
      by_cases hkr : k < rn
      · as_aux_lemma =>
          obtain hz | ⟨b, o, rfl, hb, hx⟩ := HR.out
          · omega
          · obtain ⟨hc, hwf⟩ := hx k hkr
            have hc0 := (hbw.cell (p := ⟨b, o + k, none⟩) hb).trans hc
            have hne : b ≠ bG + 1 := by omega
            obtain ⟨x0, x1⟩ := wf_bd hwf
            clear hc hwf hx
            generalize xs k = x at *
            go_wp2_with (fail)
            refine (within_any x _ _ _ x0 x1 (by omega) (by omega) (by omega)).mono ?_
            obtain ⟨t0, t1⟩ := within_bd x (show (0 : Int) ≤ 2 * rho by omega)
            generalize (0 : Int) + x % (2 * rho - 0 + 1) = t at *
            rintro e w' ⟨rfl, rfl⟩
            have hR2 := ((hR.set (by omega) (by omega) hlt 1000).set (by omega) (by omega) hlt (1000 + t - rho)).up (by rw [upd_same]; omega)
            have hrel2 : RateRel w bG (bG + 1) rho (.int .i64 ((k : Int) + 1)) _ := ⟨k + 1, _, by omega, by go_num, hR2⟩
            clear hc0 hR hR2
            go_wp2_with (fail)
            go_roundw
            case rel => exact hrel2
            case measure => simp [intOf]; omega
      · as_aux_lemma =>
          have hdk : decide ((k : Int) < (rn : Int)) = false := by simp; omega
          have hR2 := (hR.set (by omega) (by omega) hlt 1000).up (by rw [upd_same]; omega)
          have hrel2 : RateRel w bG (bG + 1) rho (.int .i64 ((k : Int) + 1)) _ := ⟨k + 1, _, by omega, by go_num, hR2⟩
          clear hR hR2
          go_wp2_with (fail)
          go_roundw
          case rel => exact hrel2
          case measure => simp [intOf]; omega
    · obtain rfl : k = 5 := by omega
      clear hlt hk
      rw [show ((5 : Nat) : Int) = 5 from rfl]
      have RR : Rates rho rate := ⟨r0, r1, fun j hj => (hR.rb j hj).1, fun j hj => (hR.rb j hj).2⟩
      go_wp2_with (fail)
      have hst2 : MadeRel w bG (bG + 1) rate (.int .i64 ((0 : Nat) : Int)) wr := ⟨0, fun _ => 0, by omega, rfl, hR.cR, fun j hj => by simpa using hR.cG j hj, hR.fG, fun j hj => by omega, fun j hj => by omega, fun i j _ hj => by omega, hbw, hsz⟩
      obtain ⟨wo, ho⟩ : ∃ wo : World, wo = wr := ⟨_, rfl⟩
      rw [← ho] at hst2
      rw [← ho]
      clear ho hR hbw hsz wr
      go_loopw [10] (fun i wr => MadeRel w bG (bG + 1) rate i wr) (fun i _ => 3 - (intOf i).toNat)
      case atStart => exact hst2
      case round =>
        clear hst2
        obtain ⟨k, gr, hk, rfl, hM⟩ := hrel
        have lR := hM.lR
        by_cases hlt : k < 3
        · have hk0 : (0 : Int) ≤ (k : Int) := Int.natCast_nonneg _
          have hk1 : (k : Int) < 3 := by omega
          have hck := hM.cG k hlt
          rw [if_neg (by omega)] at hck
          have hfk := hM.fG k
          go_wp2_with (fail)
          refine (new_any _ _ r0 r1).mono ?_
          rintro e w1 ⟨rfl, g1, b1, hz⟩
          have hM2 := hM.made hbG' (by omega) hlt g1 b1 hz
          have hc1 := (b1.cell (p := ⟨bG, k, none⟩) (show bG < wr.heap.size by omega)).trans hck
          have hf1 := (b1.frozen (p := ⟨bG, k, none⟩) (show bG < wr.heap.size by omega)).trans hfk
          have hrel2 : MadeRel w bG (bG + 1) rate (.int .i64 ((k : Int) + 1)) _ := ⟨k + 1, _, by omega, by go_num, hM2⟩
          clear hM hM2 hck hfk g1 b1 hz
          go_wp2_with (fail)
          go_roundw
          case rel => exact hrel2
          case measure => simp [intOf]; omega
        · obtain rfl : k = 3 := by omega
          clear hlt hk
          rw [show ((3 : Nat) : Int) = 3 from rfl]
          go_wp2_with (fail)
          obtain ⟨bA, hbA⟩ : ∃ bA : Nat, bA = wr.heap.size := ⟨_, rfl⟩
          obtain ⟨W, hW⟩ : ∃ W : World, W = ((wr.alloc (Obj.cells #[Value.int IntKind.i64 0, Value.int IntKind.i64 0] 37)).alloc (Obj.cells #[Value.int IntKind.i64 0, Value.int IntKind.i64 0] 37)).alloc (Obj.cells #[Value.int IntKind.i64 0, Value.int IntKind.i64 0] 37) := ⟨_, rfl⟩
          have D : ADis w.heap.size bG (bG + 1) bA (bA + 1) (bA + 1 + 1) gr := ⟨hbG', by omega, (hM.up 0 (by omega)).1, hM.inc 0 1 (by omega) (by omega), hM.inc 1 2 (by omega) (by omega), by rw [hbA]; exact (hM.up 2 (by omega)).2, by omega, by omega⟩
          have hbW : Below wr.heap.size wr W := by rw [hW]; exact (((Below.refl _ _).alloc (Nat.le_refl _) _).alloc (by simp) _).alloc (by simp; omega) _
          have hbw := hM.bw
          have M : AMem W bG (bG + 1) bA (bA + 1) (bA + 1 + 1) gr rate (fun _ => 0) (fun _ => 0) (fun _ => 0) (fun _ => 0) (fun _ => 0) (fun _ => 0) := by
            have far : ∀ x j : Nat, x < wr.heap.size → W.cell? ⟨x, j, none⟩ = wr.cell? ⟨x, j, none⟩ := fun x j hx => hbW.cell (p := ⟨x, j, none⟩) hx
            refine ⟨fun j hj => (far _ _ (by omega)).trans ?_, fun j hj => (far _ _ lR).trans (hM.cR j hj), fun j hj => ?_, fun j hj => ?_, fun j hj => ?_, fun j => ?_, fun j => ?_, fun j => ?_, fun j hj => (hM.gs j hj).below hbW (hM.up j hj).2, ?_⟩
            · have := hM.cG j hj
              rw [if_pos hj] at this
              exact this
            · rw [hW, hbA, World.cell?_alloc_past _ _ _ (by simp; omega), World.cell?_alloc_past _ _ _ (by simp), World.cell?_alloc_at _ _ _ _ rfl]
              obtain rfl | rfl : j = 0 ∨ j = 1 := by omega
              all_goals rfl
            · rw [hW, hbA, World.cell?_alloc_past _ _ _ (by simp), World.cell?_alloc_at _ _ _ _ (by simp)]
              obtain rfl | rfl : j = 0 ∨ j = 1 := by omega
              all_goals rfl
            · rw [hW, hbA, World.cell?_alloc_at _ _ _ _ (by simp)]
              obtain rfl | rfl : j = 0 ∨ j = 1 := by omega
              all_goals rfl
            · rw [hW, hbA, World.frozen?_alloc_old _ _ _ (by simp; omega), World.frozen?_alloc_old _ _ _ (by simp)]
              exact World.frozen?_alloc_at _ _ _ _ rfl
            · rw [hW, hbA, World.frozen?_alloc_old _ _ _ (by simp)]
              exact World.frozen?_alloc_at _ _ _ _ (by simp)
            · rw [hW, hbA]
              exact World.frozen?_alloc_at _ _ _ _ (by simp)
            · rw [hW, hbA]; simp
          have I : AInv rho rate 0 (fun _ => 0) (fun _ => 0) (fun _ => 0) (fun _ => 0) (fun _ => 0) (fun _ => 0) := ⟨fun k _ => by omega, fun k _ => by omega, fun k _ n _ hb => by simp at hb, fun k _ => .inl rfl⟩
          have hst3 : AloneRel w rho bG (bG + 1) bA (bA + 1) (bA + 1 + 1) gr rate ln (.int .i64 0) (.int .i64 ((0 : Nat) : Int)) W := ⟨0, 0, _, _, _, _, _, _, by omega, by omega, rfl, rfl, by omega, by omega, M, I, hbw.trans (hbW.mono hbw.size)⟩
          rw [← hW, ← hbA]
          clear hW M I hbW hbw hM lR hbA wr
          go_loopw [16, 17] (fun nowv i wr => AloneRel w rho bG (bG + 1) bA (bA + 1) (bA + 1 + 1) gr rate ln nowv i wr) (fun _ i _ => 120 - (intOf i).toNat)
          case atStart => exact hst3
          case round =>
            clear hst3
            obtain ⟨k, now, asked, till, got, gw, gn, gt, hk, hk', rfl, rfl, n0, n1, M, I, hbw⟩ := hrel
            by_cases hlt : k < ln ∧ k < 120
            · as_aux_lemma =>
                obtain ⟨hlt, hlt'⟩ := hlt
                obtain hz | ⟨b, o, rfl, hb, hx⟩ := HL.out
                · omega
                · have hk0 : (0 : Int) ≤ (k : Int) := Int.natCast_nonneg _
                  have hk1 : (k : Int) < (ln : Int) := by omega
                  have hc0 := (hbw.cell (p := ⟨b, o + (k * 4 + 0), none⟩) hb).trans (hx k hlt 0 (by omega)).1
                  have hc1 := (hbw.cell (p := ⟨b, o + (k * 4 + 1), none⟩) hb).trans (hx k hlt 1 (by omega)).1
                  have hc2 := (hbw.cell (p := ⟨b, o + (k * 4 + 2), none⟩) hb).trans (hx k hlt 2 (by omega)).1
                  have hc3 := (hbw.cell (p := ⟨b, o + (k * 4 + 3), none⟩) hb).trans (hx k hlt 3 (by omega)).1
                  simp only [← Nat.add_assoc, Nat.add_zero] at hc0 hc1 hc2 hc3
                  obtain ⟨e1, f1⟩ := wf_bd (hx k hlt 1 (by omega)).2
                  obtain ⟨e2, f2⟩ := wf_bd (hx k hlt 2 (by omega)).2
                  obtain ⟨e3, f3⟩ := wf_bd (hx k hlt 3 (by omega)).2
                  clear hx
                  generalize ys k 0 = kind at *
                  generalize ys k 1 = nodeW at *
                  generalize ys k 2 = nowW at *
                  generalize ys k 3 = nW at *
                  go_wp2_with (fail)
                  refine (within_any nowW _ _ _ e2 f2 (by omega) (by omega) (by omega)).mono ?_
                  obtain ⟨t0, t1⟩ := within_bd nowW (show (0 : Int) ≤ 20 by omega)
                  generalize (0 : Int) + nowW % (20 - 0 + 1) = dt at *
                  rintro e w' ⟨rfl, rfl⟩
                  go_wp2_with (fail)
                  refine (within_any nodeW _ _ _ e1 f1 (by omega) (by omega) (by omega)).mono ?_
                  obtain ⟨s0, s1⟩ := within_bd nodeW (show (0 : Int) ≤ 1 by omega)
                  generalize (0 : Int) + nodeW % (1 - 0 + 1) = kk at *
                  rintro e w' ⟨rfl, rfl⟩
                  go_wp2_with (fail)
                  refine (within_any nW _ _ _ e3 f3 (by omega) (by omega) (by omega)).mono ?_
                  obtain ⟨v0, v1⟩ := within_bd nW (show (0 : Int) ≤ 2 by omega)
                  generalize (0 : Int) + nW % (2 - 0 + 1) = nn at *
                  rintro e w' ⟨rfl, rfl⟩
                  obtain ⟨kn, rfl⟩ := Int.eq_ofNat_of_zero_le s0
                  obtain ⟨n, rfl⟩ := Int.eq_ofNat_of_zero_le v0
                  have hkn : kn < 2 := by omega
                  have hn : n < 3 := by omega
                  have I2 := I.later RR (show now ≤ now + dt by omega)
                  obtain ⟨now2, hnow2⟩ : ∃ now2, now2 = now + dt := ⟨_, rfl⟩
                  rw [← hnow2] at I2
                  have n2 : 0 ≤ now2 := by omega
                  have n3 : now2 ≤ 20 * ((k : Int) + 1) := by omega
                  clear e1 f1 e2 f2 e3 f3 I
                  go_upto_region 26 with (fail)
                  rw [← hnow2]
                  clear hnow2 n0 n1 t0 t1 hc1 hc2 hc3
                  have hA := M.cA kn hkn
                  have hq0 : (0 : Int) ≤ (kn : Int) := s0
                  have hq1 : (kn : Int) < 2 := by omega
                  have hfA := M.fA kn
                  have hfO := M.fO kn
                  have hO := M.cO kn hkn
                  have asks : MidA w rho bG (bG + 1) bA (bA + 1) (bA + 1 + 1) gr rate now2 ((wr.setCell ⟨bA, kn, none⟩ (.int .i64 (now2 + 1))).setCell ⟨bA + 1, kn, none⟩ (.int .i64 0)) :=
                    ⟨_, _, _, _, _, _, (M.setA D kn hkn (now2 + 1)).setO D kn hkn 0 rfl, I2.asks n2 kn, (hbw.setCell (by have := D.h0; have := D.h1; have := D.h2; have := D.h3; have := D.h4; have := D.h5; simp; omega) _).setCell (by have := D.h0; have := D.h1; have := D.h2; have := D.h3; have := D.h4; have := D.h5; simp; omega) _⟩
                  by_cases hkd : kind = 1
                  · as_aux_lemma =>
                      subst hkd
                      clear M I2
                      go_upto_region 37 with (fail)
                      have hmid := asks
                      clear asks hA hfA hfO hO hc0 hbw
                      generalize (wr.setCell ⟨bA, kn, none⟩ (.int .i64 (now2 + 1))).setCell ⟨bA + 1, kn, none⟩ (.int .i64 0) = W2 at *
                      obtain ⟨asked', till', got', gw', gn', gt', M', I', hb'⟩ := hmid
                      have z0 := M'.cR 0 (by omega)
                      have z1 := M'.cR 1 (by omega)
                      have z2 := M'.cU 0 (by omega)
                      have z3 := M'.cU 1 (by omega)
                      have hno := I'.alone RR n2
                      obtain ⟨y0, y1⟩ := mul_bd 2400 1500 n2 (show now2 ≤ 2400 by omega) (show 0 ≤ rate 0 by have := RR.lo 0 (by omega); omega) (show rate 0 ≤ 1500 by have := RR.hi 0 (by omega); omega)
                      obtain ⟨y2, y3⟩ := mul_bd 2400 1500 n2 (show now2 ≤ 2400 by omega) (show 0 ≤ rate 1 by have := RR.lo 1 (by omega); omega) (show rate 1 ≤ 1500 by have := RR.hi 1 (by omega); omega)
                      have hrel2 : AloneRel w rho bG (bG + 1) bA (bA + 1) (bA + 1 + 1) gr rate ln (.int .i64 now2) (.int .i64 ((k : Int) + 1)) _ := ⟨k + 1, now2, _, _, _, _, _, _, by omega, by omega, rfl, by go_num, n2, by omega, M', I', hb'⟩
                      clear M' I' hb'
                      by_cases hu : now2 * rate 0 < till' 0
                      · as_aux_lemma =>
                          have hu1 : decide (now2 * rate 0 < till' 0) = true := by simpa using hu
                          have hu2 : decide (now2 * rate 1 < till' 1) = false := by
                            have : ¬ now2 * rate 1 < till' 1 := fun h => hno ⟨hu, h⟩
                            simpa using this
                          clear hno
                          go_wp2_with (fail)
                          go_roundw
                          case rel => exact hrel2
                          case measure => simp [intOf]; omega
                      · as_aux_lemma =>
                          have hu1 : decide (now2 * rate 0 < till' 0) = false := by simpa using hu
                          clear hno
                          go_wp2_with (fail)
                          go_roundw
                          case rel => exact hrel2
                          case measure => simp [intOf]; omega
                  · have hkd' : (kind == 1) = false := by simpa using hkd
                    by_cases has : asked kn = 0
                    · as_aux_lemma =>
                        rw [has] at hA
                        clear M I2 hkd has
                        go_upto_region 37 with (fail)
                        have hmid := asks
                        clear asks hA hfA hfO hO hc0 hbw
                        generalize (wr.setCell ⟨bA, kn, none⟩ (.int .i64 (now2 + 1))).setCell ⟨bA + 1, kn, none⟩ (.int .i64 0) = W2 at *
                        obtain ⟨asked', till', got', gw', gn', gt', M', I', hb'⟩ := hmid
                        have z0 := M'.cR 0 (by omega)
                        have z1 := M'.cR 1 (by omega)
                        have z2 := M'.cU 0 (by omega)
                        have z3 := M'.cU 1 (by omega)
                        have hno := I'.alone RR n2
                        obtain ⟨y0, y1⟩ := mul_bd 2400 1500 n2 (show now2 ≤ 2400 by omega) (show 0 ≤ rate 0 by have := RR.lo 0 (by omega); omega) (show rate 0 ≤ 1500 by have := RR.hi 0 (by omega); omega)
                        obtain ⟨y2, y3⟩ := mul_bd 2400 1500 n2 (show now2 ≤ 2400 by omega) (show 0 ≤ rate 1 by have := RR.lo 1 (by omega); omega) (show rate 1 ≤ 1500 by have := RR.hi 1 (by omega); omega)
                        have hrel2 : AloneRel w rho bG (bG + 1) bA (bA + 1) (bA + 1 + 1) gr rate ln (.int .i64 now2) (.int .i64 ((k : Int) + 1)) _ := ⟨k + 1, now2, _, _, _, _, _, _, by omega, by omega, rfl, by go_num, n2, by omega, M', I', hb'⟩
                        clear M' I' hb'
                        by_cases hu : now2 * rate 0 < till' 0
                        · as_aux_lemma =>
                            have hu1 : decide (now2 * rate 0 < till' 0) = true := by simpa using hu
                            have hu2 : decide (now2 * rate 1 < till' 1) = false := by
                              have : ¬ now2 * rate 1 < till' 1 := fun h => hno ⟨hu, h⟩
                              simpa using this
                            clear hno
                            go_wp2_with (fail)
                            go_roundw
                            case rel => exact hrel2
                            case measure => simp [intOf]; omega
                        · as_aux_lemma =>
                            have hu1 : decide (now2 * rate 0 < till' 0) = false := by simpa using hu
                            clear hno
                            go_wp2_with (fail)
                            go_roundw
                            case rel => exact hrel2
                            case measure => simp [intOf]; omega
                    · have has' : (asked kn == 0) = false := by simpa using has
                      have hpos : 1 ≤ asked kn := by have := (I2.as0 kn hkn).1; omega
                      have hple := (I2.as0 kn hkn).2
                      clear asks hkd has
                      have hG := M.cG n hn
                      have hR := M.cR (2 + n) (by omega)
                      have hGr := M.gs n hn
                      have g3 := D.gr3 hn
                      have lU := M.lU
                      have d5 := D.h5; have d6 := D.h6; have d7 := D.h7; have d0 := D.h0; have d1 := D.h1
                      have hn0 : (0 : Int) ≤ (n : Int) := v0
                      have hn1 : (n : Int) < 3 := by omega
                      have hm1 : IntKind.i64.wrap (2 + (n : Int)) = 2 + (n : Int) := IntWalk.i64_in _ (by omega)
                      have hm2 : (0 : Int) ≤ 2 + (n : Int) := by omega
                      have hm3 : (2 + (n : Int)) < 5 := by omega
                      have hm4 : (2 + (n : Int)).toNat = 2 + n := by omega
                      obtain ⟨p0, p1⟩ := mul_bd 2400 1500 n2 (show now2 ≤ 2400 by omega) (show 0 ≤ rate (2 + n) by have := RR.lo (2 + n) (by omega); omega) (show rate (2 + n) ≤ 1500 by have := RR.hi (2 + n) (by omega); omega)
                      have hm5 : IntKind.i64.wrap (now2 * rate (2 + n)) = now2 * rate (2 + n) := IntWalk.i64_in _ (by omega)
                      obtain ⟨q, hq⟩ : ∃ q, askB (gw n) (gn n) (gt n) (kn : Int) (now2 * rate (2 + n)) 40000 = q := ⟨_, rfl⟩
                      have HQ := Lib.hid hq; clear hq
                      have hgrd : Gr wr.drew (gr n) (gw n) (gn n) (gt n) := ⟨hGr.c0, hGr.c1, hGr.c2, hGr.f0, hGr.f1, hGr.f2⟩
                      have hgsz : gr n < wr.drew.heap.size := by show gr n < wr.heap.size; omega
                      go_upto_region 29 with (fail)
                      clear hGr
                      cases q
                      · as_aux_lemma =>
                          go_region_held3 (fun w' => w'.cell? ⟨bG, n, none⟩ = some (.pointer (some ⟨gr n, 0, none⟩)) ∧ w'.cell? ⟨bG + 1, 2 + n, none⟩ = some (.int .i64 (rate (2 + n))))
                            (first
                              | go_keep
                              | (go_split_ands; refine ⟨?_, ?_⟩ <;> (rw [hw1.cell_far _ (by simp; omega) (by simp; omega)]; assumption)))
                            (first | (go_at_call 13; refine (ask_q (gr n) (gw n) (gn n) (gt n) _ _ _ _ hgsz hgrd HQ.out).mono ?_; rintro e w' ⟨rfl, k1, hw1⟩))
                          rename_i hheld
                          simp only [Bool.false_eq_true, if_false] at k1
                          have M2 := (M.drewN 1).grown D hn hw1 k1
                          rw [upd_self, upd_self, upd_self] at M2
                          have hmid : MidA w rho bG (bG + 1) bA (bA + 1) (bA + 1 + 1) gr rate now2 _ := ⟨_, _, _, _, _, _, M2, I2, below_grown (below_drewN hbw 1) hw1 g3.2.2⟩
                          clear hheld M M2 I2 k1 hw1 hA hfA hfO hO hc0 hbw hG hR hgrd hgsz lU hm1 hm2 hm3 hm4 hm5
                          go_upto_region 37 with (fail)
                          obtain ⟨asked', till', got', gw', gn', gt', M', I', hb'⟩ := hmid
                          have z0 := M'.cR 0 (by omega)
                          have z1 := M'.cR 1 (by omega)
                          have z2 := M'.cU 0 (by omega)
                          have z3 := M'.cU 1 (by omega)
                          have hno := I'.alone RR n2
                          obtain ⟨y0, y1⟩ := mul_bd 2400 1500 n2 (show now2 ≤ 2400 by omega) (show 0 ≤ rate 0 by have := RR.lo 0 (by omega); omega) (show rate 0 ≤ 1500 by have := RR.hi 0 (by omega); omega)
                          obtain ⟨y2, y3⟩ := mul_bd 2400 1500 n2 (show now2 ≤ 2400 by omega) (show 0 ≤ rate 1 by have := RR.lo 1 (by omega); omega) (show rate 1 ≤ 1500 by have := RR.hi 1 (by omega); omega)
                          have hrel2 : AloneRel w rho bG (bG + 1) bA (bA + 1) (bA + 1 + 1) gr rate ln (.int .i64 now2) (.int .i64 ((k : Int) + 1)) _ := ⟨k + 1, now2, _, _, _, _, _, _, by omega, by omega, rfl, by go_num, n2, by omega, M', I', hb'⟩
                          clear M' I' hb'
                          by_cases hu : now2 * rate 0 < till' 0
                          · as_aux_lemma =>
                              have hu1 : decide (now2 * rate 0 < till' 0) = true := by simpa using hu
                              have hu2 : decide (now2 * rate 1 < till' 1) = false := by
                                have : ¬ now2 * rate 1 < till' 1 := fun h => hno ⟨hu, h⟩
                                simpa using this
                              clear hno
                              go_wp2_with (fail)
                              go_roundw
                              case rel => exact hrel2
                              case measure => simp [intOf]; omega
                          · as_aux_lemma =>
                              have hu1 : decide (now2 * rate 0 < till' 0) = false := by simpa using hu
                              clear hno
                              go_wp2_with (fail)
                              go_roundw
                              case rel => exact hrel2
                              case measure => simp [intOf]; omega
                      · as_aux_lemma =>
                          have hbf : barB (gw n) (gn n) (gt n) (kn : Int) (now2 * rate (2 + n)) = false := by
                            have h9 := HQ.out
                            cases hbb : barB (gw n) (gn n) (gt n) (kn : Int) (now2 * rate (2 + n))
                            · rfl
                            · simp [askB, hbb] at h9
                          have I3 := I2.grants n2 hkn hn hpos hbf
                          go_region_held3 (fun w' => w'.cell? ⟨bG, n, none⟩ = some (.pointer (some ⟨gr n, 0, none⟩)) ∧ w'.cell? ⟨bG + 1, 2 + n, none⟩ = some (.int .i64 (rate (2 + n))))
                            (first
                              | go_keep
                              | (go_split_ands; refine ⟨?_, ?_⟩ <;> (rw [hw1.cell_far _ (by simp; omega) (by simp; omega)]; assumption)))
                            (first | (go_at_call 13; refine (ask_q (gr n) (gw n) (gn n) (gt n) _ _ _ _ hgsz hgrd HQ.out).mono ?_; rintro e w' ⟨rfl, k1, hw1⟩))
                          rename_i w1 hheld
                          simp only [if_true] at k1
                          have M2 := (M.drewN 1).grown D hn hw1 k1
                          have hb1 := below_grown (below_drewN hbw 1) hw1 g3.2.2
                          have hO2 := M2.cO kn hkn
                          have hfO2 := M2.fO kn
                          have hA2 := M2.cA kn hkn
                          have hg8 := I2.gb kn hkn
                          clear hheld k1 hw1 hA hfA hfO hO hc0 hG hR hgrd hgsz lU hm1 hm2 hm3 hm4 hm5 hbf hbw I2 M
                          go_upto_region 31 with (fail)
                          have hbits := or_bits (got kn) n hg8 hn
                          obtain ⟨G, hGe⟩ : ∃ G : Nat, G = (got kn ||| 2 ^ n) := ⟨_, rfl⟩
                          rw [← hGe] at hbits I3
                          obtain ⟨gI, hgI⟩ : ∃ gI : Int, gI = (G : Int) := ⟨_, rfl⟩
                          rw [← hgI] at hbits
                          rw [hbits]
                          have M3 := M2.setO D kn hkn G hgI
                          have hb3 : Below w.heap.size w (w'.setCell ⟨bA + 1, kn, none⟩ (.int .i64 gI)) := hb1.setCell (by show w.heap.size ≤ bA + 1; omega) _
                          generalize w'.setCell ⟨bA + 1, kn, none⟩ (.int .i64 gI) = W3 at *
                          have hO3 := M3.cO kn hkn
                          rw [upd_same, ← hgI] at hO3
                          clear hbits hGe M2 hb1 hO2 hfO2 hA2
                          by_cases hm : Most G
                          · have hA3 := M3.cA kn hkn
                            have hR3 := M3.cR kn (by omega)
                            have hU3 := M3.cU kn hkn
                            have hfU3 := M3.fU kn
                            have lU3 := M3.lU
                            have ho1 : IntKind.i64.wrap (asked kn - 1) = asked kn - 1 := IntWalk.i64_in _ (by omega)
                            obtain ⟨a0', a1'⟩ := mul_bd 2400 1500 (show 0 ≤ asked kn - 1 by omega) (show asked kn - 1 ≤ 2400 by omega) (show 0 ≤ rate kn by have := RR.lo kn (by omega); omega) (show rate kn ≤ 1500 by have := RR.hi kn (by omega); omega)
                            have ho2 : IntKind.i64.wrap ((asked kn - 1) * rate kn) = (asked kn - 1) * rate kn := IntWalk.i64_in _ (by omega)
                            have hq2 : (kn : Int) < 5 := by omega
                            have I4 := I3.holds hkn (by rw [upd_same]; exact hm)
                            have hbits3 : ((gI == 3) = true) ∨ ((gI == 3) = false ∧ (gI == 5) = true) ∨ ((gI == 3) = false ∧ (gI == 5) = false ∧ (gI == 6) = true) ∨ ((gI == 3) = false ∧ (gI == 5) = false ∧ (gI == 6) = false ∧ (gI == 7) = true) := by
                              rcases hm with e | e | e | e
                              · exact .inl (by rw [hgI, e]; rfl)
                              · exact .inr (.inl ⟨by rw [hgI, e]; rfl, by rw [hgI, e]; rfl⟩)
                              · exact .inr (.inr (.inl ⟨by rw [hgI, e]; rfl, by rw [hgI, e]; rfl, by rw [hgI, e]; rfl⟩))
                              · exact .inr (.inr (.inr ⟨by rw [hgI, e]; rfl, by rw [hgI, e]; rfl, by rw [hgI, e]; rfl, by rw [hgI, e]; rfl⟩))
                            clear hm hgI
                            rcases hbits3 with g1 | ⟨g1, g2⟩ | ⟨g1, g2, g3'⟩ | ⟨g1, g2, g3', g4⟩
                            all_goals
                              go_upto_region 32 with (fail)
                              go_region_held3 (fun w' => w'.cell? ⟨bA, kn, none⟩ = some (.int .i64 (asked kn)) ∧ w'.cell? ⟨bG + 1, kn, none⟩ = some (.int .i64 (rate kn)))
                                (first
                                  | go_keep
                                  | (go_split_ands; refine ⟨?_, ?_⟩ <;> (rw [hb5.cell (by simp; omega)]; assumption)))
                                (first | (go_at_call 11; refine (hold_yes _ _ _ _ a0' (by omega) (by omega) (by omega) r0 r1).mono ?_; rintro e w' ⟨rfl, hb5⟩))
                              rename_i w4 hheld
                              have M4 := (M3.drewN 1).below D hb5
                              have hb4 : Below w.heap.size w _ := below_trans (below_drewN hb3 1) hb5
                              have hU4 := M4.cU kn hkn
                              have hfU4 := M4.fU kn
                              clear hheld hb5 hA3 hR3 hU3 hfU3 ho1 ho2 M3 hb3 hO3
                              have hH : (asked kn - 1) * rate kn + 40000 * (1000 - rho) / (1000 + rho) = (asked kn - 1) * rate kn + HH rho := rfl
                              rw [hH]
                              clear hH
                              generalize (asked kn - 1) * rate kn + HH rho = h at *
                              by_cases hh : till kn < h
                              · as_aux_lemma =>
                                  have hh' : decide (till kn < h) = true := by simpa using hh
                                  have hmid : MidA w rho bG (bG + 1) bA (bA + 1) (bA + 1 + 1) gr rate now2 _ := ⟨_, _, _, _, _, _, M4.setU D kn hkn h, I4, hb4.setCell (by show w.heap.size ≤ bA + 1 + 1; omega) _⟩
                                  clear M4 I3 I4 hb4
                                  go_upto_region 37 with (fail)
                                  obtain ⟨asked', till', got', gw', gn', gt', M', I', hb'⟩ := hmid
                                  have z0 := M'.cR 0 (by omega)
                                  have z1 := M'.cR 1 (by omega)
                                  have z2 := M'.cU 0 (by omega)
                                  have z3 := M'.cU 1 (by omega)
                                  have hno := I'.alone RR n2
                                  obtain ⟨y0, y1⟩ := mul_bd 2400 1500 n2 (show now2 ≤ 2400 by omega) (show 0 ≤ rate 0 by have := RR.lo 0 (by omega); omega) (show rate 0 ≤ 1500 by have := RR.hi 0 (by omega); omega)
                                  obtain ⟨y2, y3⟩ := mul_bd 2400 1500 n2 (show now2 ≤ 2400 by omega) (show 0 ≤ rate 1 by have := RR.lo 1 (by omega); omega) (show rate 1 ≤ 1500 by have := RR.hi 1 (by omega); omega)
                                  have hrel2 : AloneRel w rho bG (bG + 1) bA (bA + 1) (bA + 1 + 1) gr rate ln (.int .i64 now2) (.int .i64 ((k : Int) + 1)) _ := ⟨k + 1, now2, _, _, _, _, _, _, by omega, by omega, rfl, by go_num, n2, by omega, M', I', hb'⟩
                                  clear M' I' hb'
                                  by_cases hu : now2 * rate 0 < till' 0
                                  · as_aux_lemma =>
                                      have hu1 : decide (now2 * rate 0 < till' 0) = true := by simpa using hu
                                      have hu2 : decide (now2 * rate 1 < till' 1) = false := by
                                        have : ¬ now2 * rate 1 < till' 1 := fun h => hno ⟨hu, h⟩
                                        simpa using this
                                      clear hno
                                      go_wp2_with (fail)
                                      go_roundw
                                      case rel => exact hrel2
                                      case measure => simp [intOf]; omega
                                  · as_aux_lemma =>
                                      have hu1 : decide (now2 * rate 0 < till' 0) = false := by simpa using hu
                                      clear hno
                                      go_wp2_with (fail)
                                      go_roundw
                                      case rel => exact hrel2
                                      case measure => simp [intOf]; omega
                              · as_aux_lemma =>
                                  have hh' : decide (till kn < h) = false := by simpa using hh
                                  have hmid : MidA w rho bG (bG + 1) bA (bA + 1) (bA + 1 + 1) gr rate now2 _ := ⟨_, _, _, _, _, _, M4, I3, hb4⟩
                                  clear M4 I3 I4 hb4
                                  go_upto_region 37 with (fail)
                                  obtain ⟨asked', till', got', gw', gn', gt', M', I', hb'⟩ := hmid
                                  have z0 := M'.cR 0 (by omega)
                                  have z1 := M'.cR 1 (by omega)
                                  have z2 := M'.cU 0 (by omega)
                                  have z3 := M'.cU 1 (by omega)
                                  have hno := I'.alone RR n2
                                  obtain ⟨y0, y1⟩ := mul_bd 2400 1500 n2 (show now2 ≤ 2400 by omega) (show 0 ≤ rate 0 by have := RR.lo 0 (by omega); omega) (show rate 0 ≤ 1500 by have := RR.hi 0 (by omega); omega)
                                  obtain ⟨y2, y3⟩ := mul_bd 2400 1500 n2 (show now2 ≤ 2400 by omega) (show 0 ≤ rate 1 by have := RR.lo 1 (by omega); omega) (show rate 1 ≤ 1500 by have := RR.hi 1 (by omega); omega)
                                  have hrel2 : AloneRel w rho bG (bG + 1) bA (bA + 1) (bA + 1 + 1) gr rate ln (.int .i64 now2) (.int .i64 ((k : Int) + 1)) _ := ⟨k + 1, now2, _, _, _, _, _, _, by omega, by omega, rfl, by go_num, n2, by omega, M', I', hb'⟩
                                  clear M' I' hb'
                                  by_cases hu : now2 * rate 0 < till' 0
                                  · as_aux_lemma =>
                                      have hu1 : decide (now2 * rate 0 < till' 0) = true := by simpa using hu
                                      have hu2 : decide (now2 * rate 1 < till' 1) = false := by
                                        have : ¬ now2 * rate 1 < till' 1 := fun h => hno ⟨hu, h⟩
                                        simpa using this
                                      clear hno
                                      go_wp2_with (fail)
                                      go_roundw
                                      case rel => exact hrel2
                                      case measure => simp [intOf]; omega
                                  · as_aux_lemma =>
                                      have hu1 : decide (now2 * rate 0 < till' 0) = false := by simpa using hu
                                      clear hno
                                      go_wp2_with (fail)
                                      go_roundw
                                      case rel => exact hrel2
                                      case measure => simp [intOf]; omega
                          · as_aux_lemma =>
                              have hb0 : ∀ v : Nat, G ≠ v → ((gI == (v : Int)) = false) := fun v hv => by rw [hgI]; simp; omega
                              have g1 : (gI == 3) = false := hb0 3 (fun e => hm (.inl e))
                              have g2 : (gI == 5) = false := hb0 5 (fun e => hm (.inr (.inl e)))
                              have g3' : (gI == 6) = false := hb0 6 (fun e => hm (.inr (.inr (.inl e))))
                              have g4 : (gI == 7) = false := hb0 7 (fun e => hm (.inr (.inr (.inr e))))
                              have hmid : MidA w rho bG (bG + 1) bA (bA + 1) (bA + 1 + 1) gr rate now2 _ := ⟨_, _, _, _, _, _, M3, I3, hb3⟩
                              clear M3 I3 hb3 hb0 hm hgI
                              go_upto_region 37 with (fail)
                              obtain ⟨asked', till', got', gw', gn', gt', M', I', hb'⟩ := hmid
                              have z0 := M'.cR 0 (by omega)
                              have z1 := M'.cR 1 (by omega)
                              have z2 := M'.cU 0 (by omega)
                              have z3 := M'.cU 1 (by omega)
                              have hno := I'.alone RR n2
                              obtain ⟨y0, y1⟩ := mul_bd 2400 1500 n2 (show now2 ≤ 2400 by omega) (show 0 ≤ rate 0 by have := RR.lo 0 (by omega); omega) (show rate 0 ≤ 1500 by have := RR.hi 0 (by omega); omega)
                              obtain ⟨y2, y3⟩ := mul_bd 2400 1500 n2 (show now2 ≤ 2400 by omega) (show 0 ≤ rate 1 by have := RR.lo 1 (by omega); omega) (show rate 1 ≤ 1500 by have := RR.hi 1 (by omega); omega)
                              have hrel2 : AloneRel w rho bG (bG + 1) bA (bA + 1) (bA + 1 + 1) gr rate ln (.int .i64 now2) (.int .i64 ((k : Int) + 1)) _ := ⟨k + 1, now2, _, _, _, _, _, _, by omega, by omega, rfl, by go_num, n2, by omega, M', I', hb'⟩
                              clear M' I' hb'
                              by_cases hu : now2 * rate 0 < till' 0
                              · as_aux_lemma =>
                                  have hu1 : decide (now2 * rate 0 < till' 0) = true := by simpa using hu
                                  have hu2 : decide (now2 * rate 1 < till' 1) = false := by
                                    have : ¬ now2 * rate 1 < till' 1 := fun h => hno ⟨hu, h⟩
                                    simpa using this
                                  clear hno
                                  go_wp2_with (fail)
                                  go_roundw
                                  case rel => exact hrel2
                                  case measure => simp [intOf]; omega
                              · as_aux_lemma =>
                                  have hu1 : decide (now2 * rate 0 < till' 0) = false := by simpa using hu
                                  clear hno
                                  go_wp2_with (fail)
                                  go_roundw
                                  case rel => exact hrel2
                                  case measure => simp [intOf]; omega
            · by_cases hlt2 : k < ln
              · as_aux_lemma =>
                  obtain rfl : k = 120 := by omega
                  clear M I hlt
                  rw [show ((120 : Nat) : Int) = 120 from rfl]
                  have hd : decide ((120 : Int) < (ln : Int)) = true := by simp; omega
                  go_wp2_with (fail)
                  refine (known_any _).mono ?_
                  rintro e w3 ⟨rfl, hw3⟩
                  go_wp2_with (fail)
                  go_ret
                  exact ⟨rfl, below_trans hbw hw3⟩
              · have hd : decide (k < ln) = false := by simpa using hlt2
                clear M I hlt hlt2
                go_wp2_with (fail)
                refine (known_any _).mono ?_
                rintro e w3 ⟨rfl, hw3⟩
                go_wp2_with (fail)
                go_ret
                exact ⟨rfl, below_trans hbw hw3⟩


theorem alone_row {H : Type} {enc : TypeId × Value → H} {base : Nat} {spare : Nat → Bool} {held : Bool} {d d' : DataW H} {p p' : List MemPlace} (a0 : Int) (ra : Option Addr) (rn rc : Nat) (la : Option Addr) (ln lc : Nat) (w : World)
    (w0 : (Lit.int .i64 a0).wf = true) (h : DataW.Trod enc Try.prog w base spare held 33 (.slice ra rn rc) d p) (h' : DataW.Trod enc Try.prog w base spare held 34 (.slice la ln lc) d' p') :
    Calls Try.prog 4 #[.int .i64 a0, .slice ra rn rc, .slice la ln lc] w fun e w' => e = .returned (.bool true) ∧ Below w.heap.size w w' := by
  obtain ⟨hl, hc, hx⟩ := open_nums Try.underlying33 Try.underlying3 (by kernel_rfl) h
  obtain ⟨hl', hc', hx'⟩ := open_recs Try.underlying34 Try.underlying39 (by kernel_rfl) (by kernel_rfl) (by decide) (fun j f hj => by
      have hj' : j < 4 := (Array.getElem?_eq_some_iff.1 hj).1
      obtain rfl | rfl | rfl | rfl : j = 0 ∨ j = 1 ∨ j = 2 ∨ j = 3 := by omega
      all_goals (simp at hj; subst hj; exact Try.underlying3)) h'
  have hN : ∃ xs, Nums w ra rn xs := by
    rcases hx with ⟨_, hz, _⟩ | ⟨x, rfl, hsp, xs, hxs⟩
    · exact ⟨fun _ => 0, .inl hz⟩
    · by_cases h0 : rn = 0
      · exact ⟨fun _ => 0, .inl h0⟩
      · obtain ⟨sp, hb⟩ := hsp (by omega)
        obtain ⟨b, o, s⟩ := x
        simp only at sp hb hxs
        subst sp
        exact ⟨xs, .inr ⟨b, o, rfl, hb, hxs⟩⟩
  have hR : ∃ ys, Rows4 w la ln ys := by
    rcases hx' with ⟨_, hz, _⟩ | ⟨x, rfl, hsp, xs, hxs⟩
    · exact ⟨fun _ _ => 0, .inl hz⟩
    · by_cases h0 : ln = 0
      · exact ⟨fun _ _ => 0, .inl h0⟩
      · obtain ⟨sp, hb⟩ := hsp (by omega)
        obtain ⟨b, o, s⟩ := x
        simp only at sp hb hxs
        subst sp
        exact ⟨xs, .inr ⟨b, o, rfl, hb, hxs⟩⟩
  obtain ⟨xs, hN⟩ := hN
  obtain ⟨ys, hR⟩ := hR
  exact alone_walk ra la rn rc ln lc xs ys a0 w w0 (by unfold maxLen at hc; omega) (by unfold maxLen at hc'; omega) hN hR

end Go.Proofs.Ytjokjbihkejagaa
