/- Chapter 11: the contract of the law's own 'in', and of the reference's Fair. -/
import Derived.Test.YtjokjbihkejagaaLh
import Derived.Deep.RegionHeld3
import Derived.Deep.AppendLies
import Derived.OwnWalk
namespace Go.Proofs.Ytjokjbihkejagaa
open Go.RowKit

theorem info70 : (Try.prog.info? 70).map (fun i => (i.zero, i.size, i.bytes)) = some (some (.agg #[.int .i64 0, .int .i64 0]), 2, 16) := by kernel_rfl

def rcells (l : List Rdg) : List Value := l.flatMap fun x => [.int .i64 x.1, .int .i64 x.2]
theorem rcells_snoc (l : List Rdg) (k : Nat) (h : k < l.length) : rcells (l.take (k + 1)) = rcells (l.take k) ++ [.int .i64 (rd l k).1, .int .i64 (rd l k).2] := by
  unfold rcells
  rw [List.take_succ_eq_append_getElem h, List.flatMap_append]
  simp [rd, h]

set_option maxHeartbeats 2000000 in
theorem in_any (b o cap : Nat) (l : List Rdg) (w : World) (hb : b < w.heap.size) (hl : l.length ≤ 20) (hL : Lies w b o l) :
    Calls Try.prog 27 #[.slice (some ⟨b, o, none⟩) l.length cap] w fun e w' => ∃ v, e = .returned v ∧ w'.ownsRow w.heap.size 70 2 v l.length (rcells l) ∧ Below w.heap.size w w' := by
  obtain ⟨i0, hi0, hz0, hz1, hz2⟩ := info_parts info70
  have HL := Lib.hid hL; clear hL
  go_enter Try.func27, Try.ntmps27
  go_wp2_with (fail)
  go_loopw [3, 4] (fun v i wr => ∃ k : Nat, k ≤ l.length ∧ i = .int .i64 k ∧ wr.ownsRow w.heap.size 70 2 v k (rcells (l.take k)) ∧ Below w.heap.size w wr) (fun _ i _ => l.length - (intOf i).toNat)
  case atStart => exact ⟨0, Nat.zero_le _, rfl, World.ownsRow_nil _ _ _ _, Below.refl _ _⟩
  case round =>
    obtain ⟨k, hk, rfl, hown, hbw⟩ := hrel
    by_cases hlt : k < l.length
    · have hc := HL.out k hlt
      have hc0 := (hbw.cell (p := ⟨b, o + k * 2, none⟩) hb).trans hc.1
      have hc1 := (hbw.cell (p := ⟨b, o + k * 2 + 1, none⟩) hb).trans hc.2
      have hsn := rcells_snoc l k hlt
      have HS := Lib.hid hsn; clear hsn
      clear hc
      generalize rd l k = x at *
      have hz := hbw.size
      have hi0' : (0 : Int) ≤ (k : Int) := Int.natCast_nonneg _
      have hi1 : (k : Int) < (l.length : Int) := by omega
      have hlb := hown.lt
      have hbr : b < wr.heap.size := by omega
      have hne : b ≠ wr.heap.size := by omega
      go_wp2_with (fail)
      go_region_held3 (fun w' => w'.cell? ⟨b, o + k * 2, none⟩ = some (.int .i64 x.1) ∧ w'.cell? ⟨b, o + k * 2 + 1, none⟩ = some (.int .i64 x.2))
        (first
          | go_keep
          | (go_split_ands
             refine ⟨?_, ?_⟩
             · (rw [hgrow.cell_far _ (by simp; omega) (fun e => by have := hlb b e.symm; omega)]; assumption)
             · (rw [hgrow.cell_far _ (by simp; omega) (fun e => by have := hlb b e.symm; omega)]; assumption)))
        ((refine step_append_lies _ (by rfl) _ _ _ (by rfl) w.heap.size 70 i0 _ 2 16 Try.underlying57 hi0 hz0 hz1 hz2 rfl (by omega) u3 k (rcells (l.take k)) (by rfl) ((hown.alloc _).drew)
            ⟨wr.heap.size, 0, none⟩ 1 1 [.int .i64 x.1, .int .i64 x.2] (by rfl) (by rfl) (World.news_of_block (cs := #[.int .i64 x.1, .int .i64 x.2]) (t := 70) (fr := (0, 0)) (heap_alloc_new wr _)) (by simp [Value.oneCell'])
            (by omega) (by unfold maxLen; omega) (by omega) (by simp; omega) (wr.heap.size + 1) (by simp) ?_; intro gg cap' w1 hown1 hgrow hat hlt'))
      have hrel2 : w1.ownsRow w.heap.size 70 2 (.slice (some ⟨gg, 0, none⟩) (k + 1) cap') (k + 1) (rcells (l.take (k + 1))) := by rw [HS.out]; exact hown1
      have hb2 : Below w.heap.size w w1 := ((hbw.alloc hz _).drew).grown hgrow (by simp; omega) (fun j hj => (hlb j hj).1)
      clear hown1 hgrow hat hlt' hown hlb hc0 hc1 hbw
      go_wp2_with (fail)
      go_roundw
      case rel => exact ⟨k + 1, by omega, by go_num, hrel2, hb2⟩
      case measure => simp [intOf]; omega
    · obtain rfl : k = l.length := by omega
      rw [List.take_length] at hown
      go_wp2_with (fail)
      go_ret
      exact ⟨_, rfl, hown, hbw⟩

theorem in_none (a : Option Addr) (cap : Nat) (w : World) :
    Calls Try.prog 27 #[.slice a 0 cap] w fun e w' => e = .returned (.slice none 0 0) ∧ w = w' := by
  go_enter Try.func27, Try.ntmps27
  go_wp2_with (fail)
  go_loopw [3, 4] (fun v i wr => v = .slice none 0 0 ∧ i = .int .i64 0 ∧ w = wr) (fun _ i _ => 0)
  case atStart => exact ⟨rfl, rfl, rfl⟩
  case round =>
    obtain ⟨rfl, rfl, rfl⟩ := hrel
    go_wp2_with (fail)
    go_ret
    exact ⟨rfl, rfl⟩

theorem pairOk_not {rho : Int} {x y : Rdg} (h : 0 ≤ y.1 - x.1) : ¬ pairOk rho x y ↔ (1000 * (y.2 - x.2) < (1000 - rho) * (y.1 - x.1) ∨ (1000 + rho) * (y.1 - x.1) < 1000 * (y.2 - x.2)) := by
  unfold pairOk; constructor
  · intro hn
    by_cases h1 : 1000 * (y.2 - x.2) < (1000 - rho) * (y.1 - x.1)
    · exact .inl h1
    · exact .inr (by
        by_cases h2 : (1000 + rho) * (y.1 - x.1) < 1000 * (y.2 - x.2)
        · exact h2
        · exact (hn fun _ => ⟨by omega, by omega⟩).elim)
  · intro hn hp
    have := hp h
    omega

theorem col_snoc {rho : Int} {x : Rdg} {l : List Rdg} {k : Nat} (h : ∀ j, j < k → pairOk rho (rd l j) x) (hk : pairOk rho (rd l k) x) : ∀ j, j < k + 1 → pairOk rho (rd l j) x := fun j hj => by
  by_cases e : j = k
  · rw [e]; exact hk
  · exact h j (by omega)
theorem cols_snoc {rho : Int} {l : List Rdg} {k : Nat} (h : ∀ i, i < k → ∀ j, j < l.length → pairOk rho (rd l j) (rd l i)) (hk : ∀ j, j < l.length → pairOk rho (rd l j) (rd l k)) :
    ∀ i, i < k + 1 → ∀ j, j < l.length → pairOk rho (rd l j) (rd l i) := fun i hi => by
  by_cases e : i = k
  · rw [e]; exact hk
  · exact h i (by omega)

set_option maxRecDepth 100000 in
set_option maxHeartbeats 2000000 in
theorem rfair_any (b o cap : Nat) (l : List Rdg) (rho : Int) (w : World) (hb : b < w.heap.size) (hl : l.length ≤ 1099511627776) (hL : Lies w b o l) :
    Calls Try.prog 26 #[.slice (some ⟨b, o, none⟩) l.length cap, .int .i64 rho] w fun e w' => e = .returned (.bool (fairB l rho)) ∧ Below w.heap.size w w' := by
  by_cases hr : 0 ≤ rho ∧ rho ≤ 500
  · obtain ⟨r0, r1⟩ := hr
    have HL := Lib.hid hL; clear hL
    have hd0 : decide (rho < 0) = false := by simpa using r0
    have hd1 : decide (500 < rho) = false := by simpa using r1
    go_enter Try.func26, Try.ntmps26
    go_wp2_with (fail)
    go_loopw [5] (fun i wr => ∃ k : Nat, k ≤ l.length ∧ i = .int .i64 k ∧ (∀ j, j < k → okR (rd l j)) ∧ w = wr) (fun i _ => l.length - (intOf i).toNat)
    case atStart => exact ⟨0, Nat.zero_le _, rfl, fun j hj => by omega, rfl⟩
    case round =>
      obtain ⟨k, hk, rfl, hok, rfl⟩ := hrel
      have HO := Lib.hid hok; clear hok
      by_cases hlt : k < l.length
      · obtain ⟨hc0, hc1⟩ := HL.out k hlt
        by_cases hf1 : 0 ≤ (rd l k).1 ∧ (rd l k).1 ≤ 1073741824
        · obtain ⟨p1, p2⟩ := hf1
          by_cases hf2 : 0 ≤ (rd l k).2 ∧ (rd l k).2 ≤ 1073741824
          · obtain ⟨p3, p4⟩ := hf2
            go_wp2_with (fail)
            refine (small_yes _ _ p1 p2).mono ?_
            rintro e w1 ⟨rfl, rfl⟩
            go_wp2_with (fail)
            refine (small_yes _ _ p3 p4).mono ?_
            rintro e w1 ⟨rfl, rfl⟩
            go_wp2_with (fail)
            go_roundw
            case rel => exact ⟨k + 1, by omega, by go_num, okR_snoc HO.out ⟨⟨p1, p2⟩, p3, p4⟩, by trivial⟩
            case measure => simp [intOf]; omega
          · have HF := Lib.hid hf2; clear hf2
            go_wp2_with (fail)
            refine (small_yes _ _ p1 p2).mono ?_
            rintro e w1 ⟨rfl, rfl⟩
            go_wp2_with (fail)
            refine (small_no _ _ (by have := HF.out; omega)).mono ?_
            rintro e w1 ⟨rfl, rfl⟩
            go_wp2_with (fail)
            go_ret
            exact ⟨ret_bool (fairB_no fun h => HF.out (h.2.1 k hlt).2), Below.refl _ _⟩
        · have HF := Lib.hid hf1; clear hf1
          go_wp2_with (fail)
          refine (small_no _ _ (by have := HF.out; omega)).mono ?_
          rintro e w1 ⟨rfl, rfl⟩
          go_wp2_with (fail)
          go_ret
          exact ⟨ret_bool (fairB_no fun h => HF.out (h.2.1 k hlt).1), Below.refl _ _⟩
      · obtain rfl : k = l.length := by omega
        clear hlt hk
        go_wp2_with (fail)
        go_loopw [6] (fun i wr => ∃ k : Nat, k ≤ l.length ∧ i = .int .i64 k ∧ (∀ i, i < k → ∀ j, j < l.length → pairOk rho (rd l j) (rd l i)) ∧ Below w.heap.size w wr) (fun i _ => l.length - (intOf i).toNat)
        case atStart => exact ⟨0, Nat.zero_le _, rfl, fun j hj => by omega, Below.refl _ _⟩
        case round =>
          obtain ⟨k, hk, rfl, hok, hbw⟩ := hrel
          have HQ := Lib.hid hok; clear hok
          by_cases hlt : k < l.length
          · have hkc := HL.out k hlt
            have hx := HO.out k hlt
            obtain ⟨x, hxe⟩ : ∃ x, rd l k = x := ⟨_, rfl⟩
            rw [hxe] at hx hkc
            have HX := Lib.hid hxe; clear hxe
            have hk0 : (0 : Int) ≤ (k : Int) := Int.natCast_nonneg _
            have hk1 : (k : Int) < (l.length : Int) := by omega
            have HK := Lib.hid hkc; clear hkc
            go_wp2_with (fail)
            obtain ⟨wo, ho⟩ : ∃ wo : World, wo = wr := ⟨_, rfl⟩
            rw [← ho]
            rw [← ho] at hbw
            clear ho wr
            go_loopw [7] (fun i wr => ∃ m : Nat, m ≤ l.length ∧ i = .int .i64 m ∧ (∀ j, j < m → pairOk rho (rd l j) x) ∧ Below w.heap.size w wr) (fun i _ => l.length - (intOf i).toNat)
            case atStart => exact ⟨0, Nat.zero_le _, rfl, fun j hj => by omega, hbw⟩
            case round =>
              clear hbw
              obtain ⟨m, hm, rfl, hok, hb3⟩ := hrel
              have HM := Lib.hid hok; clear hok
              by_cases hlm : m < l.length
              · have hmc := HL.out m hlm
                have hy := HO.out m hlm
                obtain ⟨y, hye⟩ : ∃ y, rd l m = y := ⟨_, rfl⟩
                rw [hye] at hy hmc
                have HY := Lib.hid hye; clear hye
                have hm0 : (0 : Int) ≤ (m : Int) := Int.natCast_nonneg _
                have hm1 : (m : Int) < (l.length : Int) := by omega
                have hc0 := (hb3.cell (p := ⟨b, o + m * 2, none⟩) hb).trans hmc.1
                have hc1 := (hb3.cell (p := ⟨b, o + m * 2 + 1, none⟩) hb).trans hmc.2
                have hd0 := (hb3.cell (p := ⟨b, o + k * 2, none⟩) hb).trans HK.out.1
                have hd1 := (hb3.cell (p := ⟨b, o + k * 2 + 1, none⟩) hb).trans HK.out.2
                clear hmc
                obtain ⟨⟨x1, x2⟩, x3, x4⟩ := hx
                obtain ⟨⟨y1, y2⟩, y3, y4⟩ := hy
                go_wp2_with (fail)
                go_quiet (fail)
                generalize nq = nq0
                go_wp2_with (fail)
                go_quiet (fail)
                have hb4 : Below w.heap.size w (wr.drewN (nq0 + nq)) := below_drewN hb3 (nq0 + nq)
                clear hc0 hc1 hd0 hd1
                by_cases h0 : 0 ≤ x.1 - y.1
                · obtain ⟨m0, m1⟩ := mul_bd 1000 1073741824 (show 0 ≤ 1000 - rho by omega) (show 1000 - rho ≤ 1000 by omega) h0 (show x.1 - y.1 ≤ 1073741824 by omega)
                  obtain ⟨n0, n1⟩ := mul_bd 1500 1073741824 (show 0 ≤ 1000 + rho by omega) (show 1000 + rho ≤ 1500 by omega) h0 (show x.1 - y.1 ≤ 1073741824 by omega)
                  have hd : decide (0 ≤ x.1 - y.1) = true := by simpa using h0
                  by_cases hp1 : 1000 * (x.2 - y.2) < (1000 - rho) * (x.1 - y.1)
                  · have he : decide (1000 * (x.2 - y.2) < (1000 - rho) * (x.1 - y.1)) = true := by simpa using hp1
                    go_wp2_with (fail)
                    go_ret
                    exact ⟨ret_bool (fairB_no fun h => (pairOk_not h0).2 (.inl hp1) (by have t := h.2.2 m hlm k hlt; rw [HX.out, HY.out] at t; exact t)), hb4⟩
                  · have he : decide (1000 * (x.2 - y.2) < (1000 - rho) * (x.1 - y.1)) = false := by simpa using hp1
                    by_cases hp2 : (1000 + rho) * (x.1 - y.1) < 1000 * (x.2 - y.2)
                    · have hf : decide ((1000 + rho) * (x.1 - y.1) < 1000 * (x.2 - y.2)) = true := by simpa using hp2
                      go_wp2_with (fail)
                      go_ret
                      exact ⟨ret_bool (fairB_no fun h => (pairOk_not h0).2 (.inr hp2) (by have t := h.2.2 m hlm k hlt; rw [HX.out, HY.out] at t; exact t)), hb4⟩
                    · have hf : decide ((1000 + rho) * (x.1 - y.1) < 1000 * (x.2 - y.2)) = false := by simpa using hp2
                      go_wp2_with (fail)
                      go_roundw
                      case rel => exact ⟨m + 1, by omega, by go_num, col_snoc HM.out (by rw [HY.out]; exact fun _ => ⟨by omega, by omega⟩), hb4⟩
                      case measure => simp [intOf]; omega
                · have hd : decide (0 ≤ x.1 - y.1) = false := by simpa using h0
                  go_wp2_with (fail)
                  go_roundw
                  case rel => exact ⟨m + 1, by omega, by go_num, col_snoc HM.out (by rw [HY.out]; exact fun h => absurd h h0), hb4⟩
                  case measure => simp [intOf]; omega
              · obtain rfl : m = l.length := by omega
                clear hlm hm
                go_wp2_with (fail)
                go_roundw
                case rel => exact ⟨k + 1, by omega, by go_num, cols_snoc HQ.out (by rw [HX.out]; exact HM.out), hb3⟩
                case measure => simp [intOf]; omega
          · obtain rfl : k = l.length := by omega
            go_wp2_with (fail)
            go_ret
            exact ⟨ret_bool (fairB_yes ⟨⟨r0, r1⟩, HO.out, fun i hi j hj => HQ.out j hj i hi⟩), hbw⟩
  · by_cases h0 : rho < 0
    · clear hr
      go_enter Try.func26, Try.ntmps26
      go_wp2_with (fail)
      go_ret
      exact ⟨ret_bool (fairB_no fun h => by have := h.1.1; omega), Below.refl _ _⟩
    · have h1 : 500 < rho := by omega
      have hd1 : decide (500 < rho) = true := by simpa using h1
      have hd0 : decide (rho < 0) = false := by simpa using h0
      clear hr
      go_enter Try.func26, Try.ntmps26
      go_wp2_with (fail)
      go_ret
      exact ⟨ret_bool (fairB_no fun h => by have := h.1.2; omega), Below.refl _ _⟩

set_option maxRecDepth 100000 in
set_option maxHeartbeats 2000000 in
theorem rfair_nil (rho : Int) (w : World) :
    Calls Try.prog 26 #[.slice none 0 0, .int .i64 rho] w fun e w' => e = .returned (.bool (fairB [] rho)) ∧ Below w.heap.size w w' := by
  by_cases hr : 0 ≤ rho ∧ rho ≤ 500
  · obtain ⟨r0, r1⟩ := hr
    have hd0 : decide (rho < 0) = false := by simpa using r0
    have hd1 : decide (500 < rho) = false := by simpa using r1
    go_enter Try.func26, Try.ntmps26
    go_wp2_with (fail)
    go_loopw [5] (fun i wr => i = .int .i64 0 ∧ w = wr) (fun i _ => 0)
    case atStart => exact ⟨rfl, rfl⟩
    case round =>
      obtain ⟨rfl, rfl⟩ := hrel
      go_wp2_with (fail)
      go_loopw [6] (fun i wr => i = .int .i64 0 ∧ w = wr) (fun i _ => 0)
      case atStart => exact ⟨rfl, rfl⟩
      case round =>
        obtain ⟨rfl, rfl⟩ := hrel
        go_wp2_with (fail)
        go_ret
        exact ⟨ret_bool (fairB_yes ⟨⟨r0, r1⟩, fun j hj => absurd hj (Nat.not_lt_zero _), fun i hi => absurd hi (Nat.not_lt_zero _)⟩), Below.refl _ _⟩
  · by_cases h0 : rho < 0
    · clear hr
      go_enter Try.func26, Try.ntmps26
      go_wp2_with (fail)
      go_ret
      exact ⟨ret_bool (fairB_no fun h => by have := h.1.1; omega), Below.refl _ _⟩
    · have h1 : 500 < rho := by omega
      have hd1 : decide (500 < rho) = true := by simpa using h1
      have hd0 : decide (rho < 0) = false := by simpa using h0
      clear hr
      go_enter Try.func26, Try.ntmps26
      go_wp2_with (fail)
      go_ret
      exact ⟨ret_bool (fairB_no fun h => by have := h.1.2; omega), Below.refl _ _⟩

end Go.Proofs.Ytjokjbihkejagaa
