/- Chapter 11: the contract of Fair. -/
import Derived.Test.YtjokjbihkejagaaLg
import Derived.Test.YtjokjbihkejagaaLd
import Derived.Deep.LoopGhost
namespace Go.Proofs.Ytjokjbihkejagaa
open Go.RowKit

abbrev Rdg := Int × Int
def rd (l : List Rdg) (j : Nat) : Rdg := l.getD j (0, 0)
def okR (x : Rdg) : Prop := (0 ≤ x.1 ∧ x.1 ≤ 1073741824) ∧ (0 ≤ x.2 ∧ x.2 ≤ 1073741824)
def pairOk (rho : Int) (x y : Rdg) : Prop := 0 ≤ y.1 - x.1 → (1000 - rho) * (y.1 - x.1) ≤ 1000 * (y.2 - x.2) ∧ 1000 * (y.2 - x.2) ≤ (1000 + rho) * (y.1 - x.1)
def FairP (l : List Rdg) (rho : Int) : Prop := (0 ≤ rho ∧ rho ≤ 500) ∧ (∀ j, j < l.length → okR (rd l j)) ∧ ∀ i, i < l.length → ∀ j, j < l.length → pairOk rho (rd l i) (rd l j)
noncomputable def fairB (l : List Rdg) (rho : Int) : Bool := @decide (FairP l rho) (Classical.propDecidable _)
theorem fairB_yes {l : List Rdg} {rho : Int} (h : FairP l rho) : true = fairB l rho := by unfold fairB; exact (@decide_eq_true _ (Classical.propDecidable _) h).symm
theorem fairB_no {l : List Rdg} {rho : Int} (h : ¬ FairP l rho) : false = fairB l rho := by unfold fairB; exact (@decide_eq_false _ (Classical.propDecidable _) h).symm

/-- readings lie in memory -/
def Lies (w : World) (b o : Nat) (l : List Rdg) : Prop := ∀ j, j < l.length → w.cell? ⟨b, o + j * 2, none⟩ = some (.int .i64 (rd l j).1) ∧ w.cell? ⟨b, o + j * 2 + 1, none⟩ = some (.int .i64 (rd l j).2)

theorem Lies.below {w w' : World} {b o : Nat} {l : List Rdg} (h : Lies w b o l) {B : Nat} (hb : Below B w w') (hB : b < B) : Lies w' b o l :=
  fun j hj => ⟨(hb.cell (p := ⟨b, _, none⟩) hB).trans (h j hj).1, (hb.cell (p := ⟨b, _, none⟩) hB).trans (h j hj).2⟩

theorem okR_snoc {l : List Rdg} {k : Nat} (h : ∀ j, j < k → okR (rd l j)) (hk : okR (rd l k)) : ∀ j, j < k + 1 → okR (rd l j) := fun j hj => by
  by_cases e : j = k
  · rw [e]; exact hk
  · exact h j (by omega)
theorem okR_not {x : Rdg} (h : ¬ okR x) : (x.1 < 0 ∨ 1073741824 < x.1) ∨ (x.2 < 0 ∨ 1073741824 < x.2) := by
  unfold okR at h; omega

theorem pair_snoc {rho : Int} {x : Rdg} {l : List Rdg} {k : Nat} (h : ∀ j, j < k → pairOk rho x (rd l j)) (hk : pairOk rho x (rd l k)) : ∀ j, j < k + 1 → pairOk rho x (rd l j) := fun j hj => by
  by_cases e : j = k
  · rw [e]; exact hk
  · exact h j (by omega)
theorem pairs_snoc {rho : Int} {l : List Rdg} {k : Nat} (h : ∀ i, i < k → ∀ j, j < l.length → pairOk rho (rd l i) (rd l j)) (hk : ∀ j, j < l.length → pairOk rho (rd l k) (rd l j)) :
    ∀ i, i < k + 1 → ∀ j, j < l.length → pairOk rho (rd l i) (rd l j) := fun i hi => by
  by_cases e : i = k
  · rw [e]; exact hk
  · exact h i (by omega)
theorem below_drewN {B : Nat} {a w : World} (h : Below B a w) (n : Nat) : Below B a (w.drewN n) := ⟨h.os, h.tape, h.output, h.size, h.block⟩
theorem win_yes (n a b : Int) (w : World) (hn : n.natAbs < 2 ^ 53) (ha : a.natAbs < 2 ^ 53) (hb : b.natAbs < 2 ^ 53) (h : a ≤ n ∧ n ≤ b) :
    Calls Try.prog 31 #[.int .i64 n, .complex .f64 (floatOfInt .f64 a) (floatOfInt .f64 b)] w fun e w' => e = .returned (.bool true) ∧ w = w' :=
  (win_any n a b w hn ha hb).mono fun _ _ ⟨he, hw⟩ => ⟨by rw [he, decide_eq_true h], hw⟩
theorem win_no (n a b : Int) (w : World) (hn : n.natAbs < 2 ^ 53) (ha : a.natAbs < 2 ^ 53) (hb : b.natAbs < 2 ^ 53) (h : ¬ (a ≤ n ∧ n ≤ b)) :
    Calls Try.prog 31 #[.int .i64 n, .complex .f64 (floatOfInt .f64 a) (floatOfInt .f64 b)] w fun e w' => e = .returned (.bool false) ∧ w = w' :=
  (win_any n a b w hn ha hb).mono fun _ _ ⟨he, hw⟩ => ⟨by rw [he, decide_eq_false h], hw⟩

set_option maxHeartbeats 1000000 in
theorem fair_any (b o cap : Nat) (l : List Rdg) (rho : Int) (w : World) (hb : b < w.heap.size) (hl : l.length ≤ 1099511627776) (hL : Lies w b o l) :
    Calls Try.prog 25 #[.slice (some ⟨b, o, none⟩) l.length cap, .int .i64 rho] w fun e w' => e = .returned (.bool (fairB l rho)) ∧ Below w.heap.size w w' := by
  by_cases hr : 0 ≤ rho ∧ rho ≤ 500
  · obtain ⟨r0, r1⟩ := hr
    have HL := Lib.hid hL; clear hL
    go_enter Try.func25, Try.ntmps25
    go_wp2_with (go_at_call 29; refine (drifts_yes _ _ r0 r1).mono ?_; rintro e w' ⟨rfl, rfl⟩)
    go_loopw [18] (fun i wr => ∃ k : Nat, k ≤ l.length ∧ i = .int .i64 k ∧ (∀ j, j < k → okR (rd l j)) ∧ Below w.heap.size w wr) (fun i _ => l.length - (intOf i).toNat)
    case atStart => exact ⟨0, Nat.zero_le _, rfl, fun j hj => by omega, Below.refl _ _⟩
    case round =>
      obtain ⟨k, hk, rfl, hok, hbw⟩ := hrel
      have HO := Lib.hid hok; clear hok
      by_cases hlt : k < l.length
      · have hc := HL.out k hlt
        have hc0 := (hbw.cell (p := ⟨b, o + k * 2, none⟩) hb).trans hc.1
        have hc1 := (hbw.cell (p := ⟨b, o + k * 2 + 1, none⟩) hb).trans hc.2
        clear hc
        have hz := hbw.size
        by_cases hf : okR (rd l k)
        · obtain ⟨⟨p1, p2⟩, p3, p4⟩ := hf
          go_wp2_with (go_at_call 28; refine (fine_yes _ _ _ _ (by simp) (by simp) p1 p2 p3 p4).mono ?_; rintro e w' ⟨rfl, rfl⟩)
          go_roundw
          case rel => exact ⟨k + 1, by omega, by go_num, okR_snoc HO.out ⟨⟨p1, p2⟩, p3, p4⟩, (hbw.alloc hz _).alloc (by simp; omega) _⟩
          case measure => simp [intOf]; omega
        · have hfn := okR_not hf
          have HF := Lib.hid hfn; clear hfn
          go_wp2_with (go_at_call 28; refine (fine_no _ _ _ _ (by simp) (by simp) HF.out).mono ?_; rintro e w' ⟨rfl, rfl⟩)
          go_ret
          exact ⟨ret_bool (fairB_no fun h => hf (h.2.1 k hlt)), (hbw.alloc hz _).alloc (by simp; omega) _⟩
      · obtain rfl : k = l.length := by omega
        clear hlt hk
        have hz := hbw.size
        go_wp2_with (fail)
        obtain ⟨wo, ho⟩ : ∃ wo : World, wo = wr := ⟨_, rfl⟩
        rw [← ho]
        rw [← ho] at hbw hz
        clear ho wr
        go_loopw [32] (fun i wr => ∃ k : Nat, k ≤ l.length ∧ i = .int .i64 k ∧ (∀ i, i < k → ∀ j, j < l.length → pairOk rho (rd l i) (rd l j)) ∧ Below w.heap.size w wr) (fun i _ => l.length - (intOf i).toNat)
        case atStart => exact ⟨0, Nat.zero_le _, rfl, fun j hj => by omega, hbw⟩
        case round =>
          clear hbw hz
          obtain ⟨k, hk, rfl, hok, hbw⟩ := hrel
          have HQ := Lib.hid hok; clear hok
          by_cases hlt : k < l.length
          · have hc := HL.out k hlt
            have hc0 := (hbw.cell (p := ⟨b, o + k * 2, none⟩) hb).trans hc.1
            have hc1 := (hbw.cell (p := ⟨b, o + k * 2 + 1, none⟩) hb).trans hc.2
            clear hc
            have hz := hbw.size
            go_wp2_with (fail)
            have hx := HO.out k hlt
            obtain ⟨x, hxe⟩ : ∃ x, rd l k = x := ⟨_, rfl⟩
            rw [hxe] at hx hc0 hc1
            rw [hxe]
            have HX := Lib.hid hxe; clear hxe
            obtain ⟨A, hA⟩ : ∃ A : Nat, A = wr.heap.size := ⟨_, rfl⟩
            rw [← hA] at hz
            obtain ⟨W2, h2⟩ : ∃ W2 : World, W2 = wr.alloc (Obj.cells #[Value.int IntKind.i64 x.1, Value.int IntKind.i64 x.2] 61) := ⟨_, rfl⟩
            rw [← h2, ← hA]
            have hbw2 : Below w.heap.size w W2 := by rw [h2]; exact hbw.alloc (by omega) _
            have hA0 : W2.cell? ⟨A, 0, none⟩ = some (.int .i64 x.1) := by rw [h2, hA]; simp
            have hA1 : W2.cell? ⟨A, 1, none⟩ = some (.int .i64 x.2) := by rw [h2, hA]; simp
            have hAs : A < W2.heap.size := by rw [h2, hA]; simp
            have hz2 := hbw2.size
            clear h2 hA hbw hc0 hc1 wr
            go_loopw [38] (fun i wr => ∃ m : Nat, m ≤ l.length ∧ i = .int .i64 m ∧ (∀ j, j < m → pairOk rho x (rd l j)) ∧ Below W2.heap.size W2 wr) (fun i _ => l.length - (intOf i).toNat)
            case atStart => exact ⟨0, Nat.zero_le _, rfl, fun j hj => by omega, Below.refl _ _⟩
            case round =>
              obtain ⟨m, hm, rfl, hok, hb3⟩ := hrel
              have HM := Lib.hid hok; clear hok
              by_cases hlm : m < l.length
              · have hc := HL.out m hlm
                have hc0 := (hb3.cell (p := ⟨b, o + m * 2, none⟩) (show b < W2.heap.size by omega)).trans ((hbw2.cell (p := ⟨b, o + m * 2, none⟩) hb).trans hc.1)
                have hc1 := (hb3.cell (p := ⟨b, o + m * 2 + 1, none⟩) (show b < W2.heap.size by omega)).trans ((hbw2.cell (p := ⟨b, o + m * 2 + 1, none⟩) hb).trans hc.2)
                have hA0' := (hb3.cell (p := ⟨A, 0, none⟩) hAs).trans hA0
                have hA1' := (hb3.cell (p := ⟨A, 1, none⟩) hAs).trans hA1
                have hy := HO.out m hlm
                have hz3 := hb3.size
                clear hc
                obtain ⟨y, hye⟩ : ∃ y, rd l m = y := ⟨_, rfl⟩
                rw [hye] at hy hc0 hc1
                have HY := Lib.hid hye; clear hye
                obtain ⟨⟨x1, x2⟩, x3, x4⟩ := hx
                obtain ⟨⟨y1, y2⟩, y3, y4⟩ := hy
                have hAr : A < wr.heap.size := by omega
                have hAe : A ≠ wr.heap.size := by omega
                go_wp2_with (fail)
                go_quiet (fail)
                have hb4 : Below W2.heap.size W2 ((wr.alloc (Obj.cells #[Value.int IntKind.i64 y.1, Value.int IntKind.i64 y.2] 61)).drewN nq) := below_drewN (hb3.alloc hz3 _) nq
                by_cases h0 : 0 ≤ y.1 - x.1
                · obtain ⟨m0, m1⟩ := mul_bd 1000 1073741824 (show 0 ≤ 1000 - rho by omega) (show 1000 - rho ≤ 1000 by omega) h0 (show y.1 - x.1 ≤ 1073741824 by omega)
                  obtain ⟨n0, n1⟩ := mul_bd 1500 1073741824 (show 0 ≤ 1000 + rho by omega) (show 1000 + rho ≤ 1500 by omega) h0 (show y.1 - x.1 ≤ 1073741824 by omega)
                  have hd : decide (0 ≤ y.1 - x.1) = true := by simpa using h0
                  by_cases hp : (1000 - rho) * (y.1 - x.1) ≤ 1000 * (y.2 - x.2) ∧ 1000 * (y.2 - x.2) ≤ (1000 + rho) * (y.1 - x.1)
                  · have HP := Lib.hid hp; clear hp
                    go_wp2_with (fail)
                    refine (of_any _ _ _).mono ?_
                    rintro e w' ⟨rfl, rfl⟩
                    go_wp2_with (fail)
                    refine (win_yes _ _ _ _ (by omega) (by omega) (by omega) HP.out).mono ?_
                    rintro e w' ⟨rfl, rfl⟩
                    go_wp2_with (fail)
                    go_roundw
                    case rel => exact ⟨m + 1, by omega, by go_num, pair_snoc HM.out (by rw [HY.out]; exact fun _ => HP.out), hb4⟩
                    case measure => simp [intOf]; omega
                  · have HP := Lib.hid hp; clear hp
                    go_wp2_with (fail)
                    refine (of_any _ _ _).mono ?_
                    rintro e w' ⟨rfl, rfl⟩
                    go_wp2_with (fail)
                    refine (win_no _ _ _ _ (by omega) (by omega) (by omega) HP.out).mono ?_
                    rintro e w' ⟨rfl, rfl⟩
                    go_wp2_with (fail)
                    go_ret
                    exact ⟨ret_bool (fairB_no fun h => HP.out (by have t := h.2.2 k hlt m hlm; rw [HX.out, HY.out] at t; exact t h0)), below_trans hbw2 hb4⟩
                · have hd : decide (0 ≤ y.1 - x.1) = false := by simpa using h0
                  go_wp2_with (fail)
                  go_roundw
                  case rel => exact ⟨m + 1, by omega, by go_num, pair_snoc HM.out (by rw [HY.out]; exact fun h => absurd h h0), hb4⟩
                  case measure => simp [intOf]; omega
              · obtain rfl : m = l.length := by omega
                have hbe := below_trans hbw2 hb3
                clear hlm hm hb3
                go_wp2_with (fail)
                go_roundw
                case rel => exact ⟨k + 1, by omega, by go_num, pairs_snoc HQ.out (HX.out ▸ HM.out), hbe⟩
                case measure => simp [intOf]; omega
          · obtain rfl : k = l.length := by omega
            go_wp2_with (fail)
            go_ret
            exact ⟨ret_bool (fairB_yes ⟨⟨r0, r1⟩, HO.out, HQ.out⟩), hbw⟩
  · have hr' : rho < 0 ∨ 500 < rho := by omega
    have HR := Lib.hid hr'; clear hr'
    go_enter Try.func25, Try.ntmps25
    go_wp2_with (go_at_call 29; refine (drifts_no _ _ HR.out).mono ?_; rintro e w' ⟨rfl, rfl⟩)
    go_ret
    exact ⟨ret_bool (fairB_no fun h => hr h.1), Below.refl _ _⟩

set_option maxHeartbeats 1000000 in
theorem fair_nil (rho : Int) (w : World) :
    Calls Try.prog 25 #[.slice none 0 0, .int .i64 rho] w fun e w' => e = .returned (.bool (fairB [] rho)) ∧ Below w.heap.size w w' := by
  by_cases hr : 0 ≤ rho ∧ rho ≤ 500
  · obtain ⟨r0, r1⟩ := hr
    go_enter Try.func25, Try.ntmps25
    go_wp2_with (go_at_call 29; refine (drifts_yes _ _ r0 r1).mono ?_; rintro e w' ⟨rfl, rfl⟩)
    go_loopw [18] (fun i wr => i = .int .i64 0 ∧ w = wr) (fun i _ => 0)
    case atStart => exact ⟨rfl, rfl⟩
    case round =>
      obtain ⟨rfl, rfl⟩ := hrel
      go_wp2_with (fail)
      go_loopw [32] (fun i wr => i = .int .i64 0 ∧ w = wr) (fun i _ => 0)
      case atStart => exact ⟨rfl, rfl⟩
      case round =>
        obtain ⟨rfl, rfl⟩ := hrel
        go_wp2_with (fail)
        go_ret
        exact ⟨ret_bool (fairB_yes ⟨⟨r0, r1⟩, fun j hj => absurd hj (Nat.not_lt_zero _), fun i hi => absurd hi (Nat.not_lt_zero _)⟩), Below.refl _ _⟩
  · have hr' : rho < 0 ∨ 500 < rho := by omega
    have HR := Lib.hid hr'; clear hr'
    go_enter Try.func25, Try.ntmps25
    go_wp2_with (go_at_call 29; refine (drifts_no _ _ HR.out).mono ?_; rintro e w' ⟨rfl, rfl⟩)
    go_ret
    exact ⟨ret_bool (fairB_no fun h => hr h.1), Below.refl _ _⟩

end Go.Proofs.Ytjokjbihkejagaa
