/- GuardRules: the law. -/
import Derived.Test.YtkmncmceheggjaaDoorRt
import Derived.Test.YtkmncmceheggjaaDoorGn
import Derived.Deep.CutBlock
import Derived.Deep.DeepCutAuto
set_option linter.unusedVariables false
set_option linter.unusedSimpArgs false
namespace Go.Proofs.YtkmncmceheggjaaDoor
open Go.RowKit Go.Ev

set_option maxHeartbeats 8000000 in
set_option maxRecDepth 100000 in
theorem guardRules_cut (a : Option Addr) (n c : Nat) (l : List Int) (x y : Int) (w : World) (hn : n ≤ maxLen) (hI : Ints w a n l) :
    Calls Tryd.prog 3 #[.slice a n c, .int .i64 x, .int .i64 y] w fun e w' => e = .returned (.bool true) ∧ Below w.heap.size w w' := by
  have HI := Lib.hid hI; clear hI
  go_enter Tryd.func3, Tryd.ntmps3
  go_wp2_with (fail)
  refine (within_any x 0 20 _ (by omega) (by omega) (by omega)).mono ?_
  rintro e w' ⟨rfl, rfl⟩
  have hbx := inB_bd x (lo := 0) (hi := 20) (by omega)
  obtain ⟨px, hpx⟩ : ∃ px, inB x 0 20 = px := ⟨_, rfl⟩
  rw [hpx] at hbx ⊢
  clear hpx
  go_wp2_with (fail)
  refine (within_any y 0 20 _ (by omega) (by omega) (by omega)).mono ?_
  rintro e w' ⟨rfl, rfl⟩
  have hby := inB_bd y (lo := 0) (hi := 20) (by omega)
  obtain ⟨py, hpy⟩ : ∃ py, inB y 0 20 = py := ⟨_, rfl⟩
  rw [hpy] at hby ⊢
  clear hpy
  go_wp2_with (fail)
  have HE0 := Lib.hid (env_new w (px - 10) (py - 10))
  have HX0 := Lib.hid (box_new w (px - 10) (py - 10))
  generalize (((w.alloc (.cells #[.string ⟨#[120]⟩, .string ⟨#[121]⟩] 9)).alloc (.cells #[.int .i64 (px - 10), .int .i64 (py - 10)] 3)).alloc (.cells #[.int .i64 0] 3)) = W0 at *
  have hI0 := ints_below (B := w.heap.size + 1 + 1) HI.out HE0.out.2.2.1 (by omega)
  have HIB := Lib.hid hI0
  have hl0 : w.heap.size + 1 + 1 < W0.heap.size := (Array.getElem?_eq_some_iff.1 HX0.out).1
  clear hI0
  refine (made_any a n c (w.heap.size + 1 + 1) l hn 2 (by omega) 0 W0 (by omega) HX0.out HIB.out).mono ?_
  rintro e w1 ⟨p, rfl, hpd, hpo, ⟨k1, hk1, hX1⟩, hg1⟩
  have HE1 := Lib.hid (HE0.out.grown (B := w.heap.size + 1 + 1) (by omega) hg1)
  have HI1 := Lib.hid (HIB.out.grown hl0 hg1)
  have HX1 := Lib.hid hX1
  have hl1 : w.heap.size + 1 + 1 < w1.heap.size := Nat.lt_of_lt_of_le hl0 hg1.size
  clear hX1 hg1
  go_wp2_with (fail)
  refine (made_any a n c (w.heap.size + 1 + 1) l hn 2 (by omega) k1 w1 (by omega) HX1.out HI1.out).mono ?_
  rintro e w2 ⟨q, rfl, hqd, hqo, ⟨k2, hk2, hX2⟩, hg2⟩
  have HE2 := Lib.hid (HE1.out.grown (B := w.heap.size + 1 + 1) (by omega) hg2)
  have hpz := text_size hpd (by omega)
  have hqz := text_size hqd (by omega)
  clear hX2 hg2
  obtain ⟨vals, hvals⟩ : ∃ vals : List Int, [px - 10, py - 10] = vals := ⟨_, rfl⟩
  have hvl : vals.length = 2 := by rw [← hvals]; rfl
  have hvb : ∀ z ∈ vals, bdI 10 z := by
    intro z hz
    rw [← hvals] at hz
    rcases List.mem_cons.1 hz with rfl | hz
    · constructor <;> omega
    · rcases List.mem_cons.1 hz with rfl | hz
      · constructor <;> omega
      · cases hz
  rw [hvals] at HE2
  have e4 : ∀ t : GT, t.deep ≤ 2 → 10 * 2 ^ t.deep ≤ 40 := fun t h => by
    have := Nat.pow_le_pow_right (n := 2) (by omega) h
    omega
  obtain ⟨u, hu⟩ : ∃ u, p.val xyL vals = u := ⟨_, rfl⟩
  obtain ⟨v, hv⟩ : ∃ v, q.val xyL vals = v := ⟨_, rfl⟩
  have hub : bdI 40 u := by rw [← hu]; exact bd_mono (val_bd (m := 10) (by omega) hvb p hpo (by have := e4 p hpd; omega)) (by have := e4 p hpd; omega)
  have hvb : bdI 40 v := by rw [← hv]; exact bd_mono (val_bd (m := 10) (by omega) hvb q hqo (by have := e4 q hqd; omega)) (by have := e4 q hqd; omega)
  obtain ⟨u1, u2⟩ := hub
  obtain ⟨v1, v2⟩ := hvb
  have HEV := Lib.hid (show ∀ t : GT, t.ok → t.deep ≤ 4 → evalP xyL vals (S t.text).toList = (t.val xyL vals, 0) from fun t h hd => eval_xy h hd (by omega))
  have HP := Lib.hid (And.intro hpd hpo)
  have HQ := Lib.hid (And.intro hqd hqo)
  have HUV := Lib.hid (And.intro hu hv)
  clear e4 hpd hpo hqd hqo hu hv hvals HE1 HI1 HX1 HE0 HX0 HIB hk1 hk2 hl0 hl1 hbx hby
  go_wp2_with (fail)
  refine (eval_any _ (some ⟨w.heap.size, 0, none⟩) 2 2 xyL (some ⟨w.heap.size + 1, 0, none⟩) 2 2 vals w2 (by omega) (by omega) HE2.out.1 HE2.out.2.1).mono ?_
  rintro e w3 ⟨rfl, hb⟩
  have HE3 := Lib.hid (HE2.out.below hb)
  clear hb
  rw [HEV.out p HP.out.2 (by have := HP.out.1; omega), HUV.out.1]
  go_wp2_with (fail)
  refine (eval_any _ (some ⟨w.heap.size, 0, none⟩) 2 2 xyL (some ⟨w.heap.size + 1, 0, none⟩) 2 2 vals w3 (by omega) (by omega) HE3.out.1 HE3.out.2.1).mono ?_
  rintro e w4 ⟨rfl, hb⟩
  have HE4 := Lib.hid (HE3.out.below hb)
  clear hb
  rw [HEV.out q HQ.out.2 (by have := HQ.out.1; omega), HUV.out.2]
  obtain ⟨rA, hrA⟩ : ∃ r, trI (u != 0 && v != 0) = r := ⟨_, rfl⟩
  have HrA := Lib.hid hrA
  obtain ⟨rO, hrO⟩ : ∃ r, trI (u != 0 || v != 0) = r := ⟨_, rfl⟩
  have HrO := Lib.hid hrO
  obtain ⟨rN, hrN⟩ : ∃ r, trI (u == 0) = r := ⟨_, rfl⟩
  have HrN := Lib.hid hrN
  obtain ⟨rL, hrL⟩ : ∃ r, trI (decide (u < v)) = r := ⟨_, rfl⟩
  have HrL := Lib.hid hrL
  obtain ⟨rE, hrE⟩ : ∃ r, trI (u == v) = r := ⟨_, rfl⟩
  have HrE := Lib.hid hrE
  clear hrA hrO hrN hrL hrE
  go_wp2_with (fail)
  have ht4 : (⟨#[97, 110, 100, 32]⟩ : ByteArray) ++ S p.text ++ ⟨#[32]⟩ ++ S q.text = S (GT.op 0 p q).text := by
    show S [97, 110, 100, 32] ++ S p.text ++ S [32] ++ S q.text = _
    rw [app_S, app_S, app_S]; rfl
  have hv4 : (GT.op 0 p q).val xyL vals = rA := by
    rw [← HrA.out, ← HUV.out.1, ← HUV.out.2]
    rfl
  refine (eval_any _ (some ⟨w.heap.size, 0, none⟩) 2 2 xyL (some ⟨w.heap.size + 1, 0, none⟩) 2 2 vals w4 (by omega) (by omega) HE4.out.1 HE4.out.2.1).mono ?_
  rintro e w5 ⟨rfl, hb⟩
  have HE5 := Lib.hid (HE4.out.below hb)
  clear hb
  rw [ht4, HEV.out (.op 0 p q) ⟨by omega, HP.out.2, HQ.out.2⟩ (by have := HP.out.1; have := HQ.out.1; show max p.deep q.deep + 1 ≤ 4; omega), hv4]
  clear ht4 hv4
  go_wp2_with (fail)
  have ht5 : (⟨#[111, 114, 32]⟩ : ByteArray) ++ S p.text ++ ⟨#[32]⟩ ++ S q.text = S (GT.op 1 p q).text := by
    show S [111, 114, 32] ++ S p.text ++ S [32] ++ S q.text = _
    rw [app_S, app_S, app_S]; rfl
  have hv5 : (GT.op 1 p q).val xyL vals = rO := by
    rw [← HrO.out, ← HUV.out.1, ← HUV.out.2]
    rfl
  refine (eval_any _ (some ⟨w.heap.size, 0, none⟩) 2 2 xyL (some ⟨w.heap.size + 1, 0, none⟩) 2 2 vals w5 (by omega) (by omega) HE5.out.1 HE5.out.2.1).mono ?_
  rintro e w6 ⟨rfl, hb⟩
  have HE6 := Lib.hid (HE5.out.below hb)
  clear hb
  rw [ht5, HEV.out (.op 1 p q) ⟨by omega, HP.out.2, HQ.out.2⟩ (by have := HP.out.1; have := HQ.out.1; show max p.deep q.deep + 1 ≤ 4; omega), hv5]
  clear ht5 hv5
  go_wp2_with (fail)
  have ht6 : (⟨#[110, 111, 116, 32]⟩ : ByteArray) ++ S p.text = S (GT.no p).text := by
    show S [110, 111, 116, 32] ++ S p.text = _
    rw [app_S]; rfl
  have hv6 : (GT.no p).val xyL vals = rN := by
    rw [← HrN.out, ← HUV.out.1]; rfl
  refine (eval_any _ (some ⟨w.heap.size, 0, none⟩) 2 2 xyL (some ⟨w.heap.size + 1, 0, none⟩) 2 2 vals w6 (by omega) (by omega) HE6.out.1 HE6.out.2.1).mono ?_
  rintro e w7 ⟨rfl, hb⟩
  have HE7 := Lib.hid (HE6.out.below hb)
  clear hb
  rw [ht6, HEV.out (.no p) HP.out.2 (by have := HP.out.1; show p.deep + 1 ≤ 4; omega), hv6]
  clear ht6 hv6
  go_wp2_with (fail)
  have ht7 : (⟨#[108, 116, 32]⟩ : ByteArray) ++ S p.text ++ ⟨#[32]⟩ ++ S q.text = S (GT.op 2 p q).text := by
    show S [108, 116, 32] ++ S p.text ++ S [32] ++ S q.text = _
    rw [app_S, app_S, app_S]; rfl
  have hv7 : (GT.op 2 p q).val xyL vals = rL := by
    rw [← HrL.out, ← HUV.out.1, ← HUV.out.2]
    rfl
  refine (eval_any _ (some ⟨w.heap.size, 0, none⟩) 2 2 xyL (some ⟨w.heap.size + 1, 0, none⟩) 2 2 vals w7 (by omega) (by omega) HE7.out.1 HE7.out.2.1).mono ?_
  rintro e w8 ⟨rfl, hb⟩
  have HE8 := Lib.hid (HE7.out.below hb)
  clear hb
  rw [ht7, HEV.out (.op 2 p q) ⟨by omega, HP.out.2, HQ.out.2⟩ (by have := HP.out.1; have := HQ.out.1; show max p.deep q.deep + 1 ≤ 4; omega), hv7]
  clear ht7 hv7
  go_wp2_with (fail)
  have ht8 : (⟨#[101, 113, 32]⟩ : ByteArray) ++ S p.text ++ ⟨#[32]⟩ ++ S q.text = S (GT.op 3 p q).text := by
    show S [101, 113, 32] ++ S p.text ++ S [32] ++ S q.text = _
    rw [app_S, app_S, app_S]; rfl
  have hv8 : (GT.op 3 p q).val xyL vals = rE := by
    rw [← HrE.out, ← HUV.out.1, ← HUV.out.2]
    rfl
  refine (eval_any _ (some ⟨w.heap.size, 0, none⟩) 2 2 xyL (some ⟨w.heap.size + 1, 0, none⟩) 2 2 vals w8 (by omega) (by omega) HE8.out.1 HE8.out.2.1).mono ?_
  rintro e w9 ⟨rfl, hb⟩
  have HE9 := Lib.hid (HE8.out.below hb)
  clear hb
  rw [ht8, HEV.out (.op 3 p q) ⟨by omega, HP.out.2, HQ.out.2⟩ (by have := HP.out.1; have := HQ.out.1; show max p.deep q.deep + 1 ≤ 4; omega), hv8]
  clear ht8 hv8
  go_wp2_with (fail)
  have ht9 : (⟨#[97, 100, 100, 32]⟩ : ByteArray) ++ S p.text ++ ⟨#[32]⟩ ++ S q.text = S (GT.op 4 p q).text := by
    show S [97, 100, 100, 32] ++ S p.text ++ S [32] ++ S q.text = _
    rw [app_S, app_S, app_S]; rfl
  have hv9 : (GT.op 4 p q).val xyL vals = u + v := by
    rw [← HUV.out.1, ← HUV.out.2]
    show wrap64 _ = _; exact wr64 (by rw [HUV.out.1, HUV.out.2]; omega)
  refine (eval_any _ (some ⟨w.heap.size, 0, none⟩) 2 2 xyL (some ⟨w.heap.size + 1, 0, none⟩) 2 2 vals w9 (by omega) (by omega) HE9.out.1 HE9.out.2.1).mono ?_
  rintro e w10 ⟨rfl, hb⟩
  have HE10 := Lib.hid (HE9.out.below hb)
  clear hb
  rw [ht9, HEV.out (.op 4 p q) ⟨by omega, HP.out.2, HQ.out.2⟩ (by have := HP.out.1; have := HQ.out.1; show max p.deep q.deep + 1 ≤ 4; omega), hv9]
  clear ht9 hv9
  go_wp2_with (fail)
  have ht10 : (⟨#[115, 117, 98, 32]⟩ : ByteArray) ++ S p.text ++ ⟨#[32]⟩ ++ S q.text = S (GT.op 5 p q).text := by
    show S [115, 117, 98, 32] ++ S p.text ++ S [32] ++ S q.text = _
    rw [app_S, app_S, app_S]; rfl
  have hv10 : (GT.op 5 p q).val xyL vals = u - v := by
    rw [← HUV.out.1, ← HUV.out.2]
    show wrap64 _ = _; exact wr64 (by rw [HUV.out.1, HUV.out.2]; omega)
  refine (eval_any _ (some ⟨w.heap.size, 0, none⟩) 2 2 xyL (some ⟨w.heap.size + 1, 0, none⟩) 2 2 vals w10 (by omega) (by omega) HE10.out.1 HE10.out.2.1).mono ?_
  rintro e w11 ⟨rfl, hb⟩
  have HE11 := Lib.hid (HE10.out.below hb)
  clear hb
  rw [ht10, HEV.out (.op 5 p q) ⟨by omega, HP.out.2, HQ.out.2⟩ (by have := HP.out.1; have := HQ.out.1; show max p.deep q.deep + 1 ≤ 4; omega), hv10]
  clear ht10 hv10
  by_cases hc : u = 0 ∧ v = 0 ∧ u = v
  · as_aux_lemma =>
      obtain ⟨c1, c2, c3⟩ := hc
      obtain rfl : rA = 0 := by rw [← HrA.out]; unfold trI; rw [if_neg (by simp; omega)]
      obtain rfl : rO = 0 := by rw [← HrO.out]; unfold trI; rw [if_neg (by simp; omega)]
      obtain rfl : rN = 1 := by rw [← HrN.out]; unfold trI; rw [if_pos (by simp; omega)]
      obtain rfl : rL = 0 := by rw [← HrL.out]; unfold trI; rw [if_neg (by simp; omega)]
      obtain rfl : rE = 1 := by rw [← HrE.out]; unfold trI; rw [if_pos (by simp; omega)]
      have hun : (u != 0) = false := by simp; omega
      have hvn : (v != 0) = false := by simp; omega
      have hu0 : (u == 0) = true := by simp; omega
      have hv0 : (v == 0) = true := by simp; omega
      have huv : (u == v) = true := by simp; omega
      have hlt : decide (u < v) = false := by simp; omega
      clear c1 c2 c3
      go_wp2_with (fail)
      refine (known_walk w11).mono ?_
      rintro e w12 ⟨rfl, hb⟩
      have HB := Lib.hid (HE11.out.2.2.1.trans (hb.mono HE11.out.2.2.1.size))
      clear hb
      go_wp2_with (fail)
      go_ret
      exact ⟨rfl, HB.out⟩
  by_cases hc : u = 0 ∧ ¬ v = 0 ∧ u < v
  · as_aux_lemma =>
      obtain ⟨c1, c2, c3⟩ := hc
      obtain rfl : rA = 0 := by rw [← HrA.out]; unfold trI; rw [if_neg (by simp; omega)]
      obtain rfl : rO = 1 := by rw [← HrO.out]; unfold trI; rw [if_pos (by simp; omega)]
      obtain rfl : rN = 1 := by rw [← HrN.out]; unfold trI; rw [if_pos (by simp; omega)]
      obtain rfl : rL = 1 := by rw [← HrL.out]; unfold trI; rw [if_pos (by simp; omega)]
      obtain rfl : rE = 0 := by rw [← HrE.out]; unfold trI; rw [if_neg (by simp; omega)]
      have hun : (u != 0) = false := by simp; omega
      have hvn : (v != 0) = true := by simp; omega
      have hu0 : (u == 0) = true := by simp; omega
      have hv0 : (v == 0) = false := by simp; omega
      have huv : (u == v) = false := by simp; omega
      have hlt : decide (u < v) = true := by simp; omega
      clear c1 c2 c3
      go_wp2_with (fail)
      refine (known_walk w11).mono ?_
      rintro e w12 ⟨rfl, hb⟩
      have HB := Lib.hid (HE11.out.2.2.1.trans (hb.mono HE11.out.2.2.1.size))
      clear hb
      go_wp2_with (fail)
      go_ret
      exact ⟨rfl, HB.out⟩
  by_cases hc : u = 0 ∧ ¬ v = 0 ∧ v < u
  · as_aux_lemma =>
      obtain ⟨c1, c2, c3⟩ := hc
      obtain rfl : rA = 0 := by rw [← HrA.out]; unfold trI; rw [if_neg (by simp; omega)]
      obtain rfl : rO = 1 := by rw [← HrO.out]; unfold trI; rw [if_pos (by simp; omega)]
      obtain rfl : rN = 1 := by rw [← HrN.out]; unfold trI; rw [if_pos (by simp; omega)]
      obtain rfl : rL = 0 := by rw [← HrL.out]; unfold trI; rw [if_neg (by simp; omega)]
      obtain rfl : rE = 0 := by rw [← HrE.out]; unfold trI; rw [if_neg (by simp; omega)]
      have hun : (u != 0) = false := by simp; omega
      have hvn : (v != 0) = true := by simp; omega
      have hu0 : (u == 0) = true := by simp; omega
      have hv0 : (v == 0) = false := by simp; omega
      have huv : (u == v) = false := by simp; omega
      have hlt : decide (u < v) = false := by simp; omega
      clear c1 c2 c3
      go_wp2_with (fail)
      refine (known_walk w11).mono ?_
      rintro e w12 ⟨rfl, hb⟩
      have HB := Lib.hid (HE11.out.2.2.1.trans (hb.mono HE11.out.2.2.1.size))
      clear hb
      go_wp2_with (fail)
      go_ret
      exact ⟨rfl, HB.out⟩
  by_cases hc : ¬ u = 0 ∧ v = 0 ∧ u < v
  · as_aux_lemma =>
      obtain ⟨c1, c2, c3⟩ := hc
      obtain rfl : rA = 0 := by rw [← HrA.out]; unfold trI; rw [if_neg (by simp; omega)]
      obtain rfl : rO = 1 := by rw [← HrO.out]; unfold trI; rw [if_pos (by simp; omega)]
      obtain rfl : rN = 0 := by rw [← HrN.out]; unfold trI; rw [if_neg (by simp; omega)]
      obtain rfl : rL = 1 := by rw [← HrL.out]; unfold trI; rw [if_pos (by simp; omega)]
      obtain rfl : rE = 0 := by rw [← HrE.out]; unfold trI; rw [if_neg (by simp; omega)]
      have hun : (u != 0) = true := by simp; omega
      have hvn : (v != 0) = false := by simp; omega
      have hu0 : (u == 0) = false := by simp; omega
      have hv0 : (v == 0) = true := by simp; omega
      have huv : (u == v) = false := by simp; omega
      have hlt : decide (u < v) = true := by simp; omega
      clear c1 c2 c3
      go_wp2_with (fail)
      refine (known_walk w11).mono ?_
      rintro e w12 ⟨rfl, hb⟩
      have HB := Lib.hid (HE11.out.2.2.1.trans (hb.mono HE11.out.2.2.1.size))
      clear hb
      go_wp2_with (fail)
      go_ret
      exact ⟨rfl, HB.out⟩
  by_cases hc : ¬ u = 0 ∧ v = 0 ∧ v < u
  · as_aux_lemma =>
      obtain ⟨c1, c2, c3⟩ := hc
      obtain rfl : rA = 0 := by rw [← HrA.out]; unfold trI; rw [if_neg (by simp; omega)]
      obtain rfl : rO = 1 := by rw [← HrO.out]; unfold trI; rw [if_pos (by simp; omega)]
      obtain rfl : rN = 0 := by rw [← HrN.out]; unfold trI; rw [if_neg (by simp; omega)]
      obtain rfl : rL = 0 := by rw [← HrL.out]; unfold trI; rw [if_neg (by simp; omega)]
      obtain rfl : rE = 0 := by rw [← HrE.out]; unfold trI; rw [if_neg (by simp; omega)]
      have hun : (u != 0) = true := by simp; omega
      have hvn : (v != 0) = false := by simp; omega
      have hu0 : (u == 0) = false := by simp; omega
      have hv0 : (v == 0) = true := by simp; omega
      have huv : (u == v) = false := by simp; omega
      have hlt : decide (u < v) = false := by simp; omega
      clear c1 c2 c3
      go_wp2_with (fail)
      refine (known_walk w11).mono ?_
      rintro e w12 ⟨rfl, hb⟩
      have HB := Lib.hid (HE11.out.2.2.1.trans (hb.mono HE11.out.2.2.1.size))
      clear hb
      go_wp2_with (fail)
      go_ret
      exact ⟨rfl, HB.out⟩
  by_cases hc : ¬ u = 0 ∧ ¬ v = 0 ∧ u < v
  · as_aux_lemma =>
      obtain ⟨c1, c2, c3⟩ := hc
      obtain rfl : rA = 1 := by rw [← HrA.out]; unfold trI; rw [if_pos (by simp; omega)]
      obtain rfl : rO = 1 := by rw [← HrO.out]; unfold trI; rw [if_pos (by simp; omega)]
      obtain rfl : rN = 0 := by rw [← HrN.out]; unfold trI; rw [if_neg (by simp; omega)]
      obtain rfl : rL = 1 := by rw [← HrL.out]; unfold trI; rw [if_pos (by simp; omega)]
      obtain rfl : rE = 0 := by rw [← HrE.out]; unfold trI; rw [if_neg (by simp; omega)]
      have hun : (u != 0) = true := by simp; omega
      have hvn : (v != 0) = true := by simp; omega
      have hu0 : (u == 0) = false := by simp; omega
      have hv0 : (v == 0) = false := by simp; omega
      have huv : (u == v) = false := by simp; omega
      have hlt : decide (u < v) = true := by simp; omega
      clear c1 c2 c3
      go_wp2_with (fail)
      refine (known_walk w11).mono ?_
      rintro e w12 ⟨rfl, hb⟩
      have HB := Lib.hid (HE11.out.2.2.1.trans (hb.mono HE11.out.2.2.1.size))
      clear hb
      go_wp2_with (fail)
      go_ret
      exact ⟨rfl, HB.out⟩
  by_cases hc : ¬ u = 0 ∧ ¬ v = 0 ∧ u = v
  · as_aux_lemma =>
      obtain ⟨c1, c2, c3⟩ := hc
      obtain rfl : rA = 1 := by rw [← HrA.out]; unfold trI; rw [if_pos (by simp; omega)]
      obtain rfl : rO = 1 := by rw [← HrO.out]; unfold trI; rw [if_pos (by simp; omega)]
      obtain rfl : rN = 0 := by rw [← HrN.out]; unfold trI; rw [if_neg (by simp; omega)]
      obtain rfl : rL = 0 := by rw [← HrL.out]; unfold trI; rw [if_neg (by simp; omega)]
      obtain rfl : rE = 1 := by rw [← HrE.out]; unfold trI; rw [if_pos (by simp; omega)]
      have hun : (u != 0) = true := by simp; omega
      have hvn : (v != 0) = true := by simp; omega
      have hu0 : (u == 0) = false := by simp; omega
      have hv0 : (v == 0) = false := by simp; omega
      have huv : (u == v) = true := by simp; omega
      have hlt : decide (u < v) = false := by simp; omega
      clear c1 c2 c3
      go_wp2_with (fail)
      refine (known_walk w11).mono ?_
      rintro e w12 ⟨rfl, hb⟩
      have HB := Lib.hid (HE11.out.2.2.1.trans (hb.mono HE11.out.2.2.1.size))
      clear hb
      go_wp2_with (fail)
      go_ret
      exact ⟨rfl, HB.out⟩
  by_cases hc : ¬ u = 0 ∧ ¬ v = 0 ∧ v < u
  · as_aux_lemma =>
      obtain ⟨c1, c2, c3⟩ := hc
      obtain rfl : rA = 1 := by rw [← HrA.out]; unfold trI; rw [if_pos (by simp; omega)]
      obtain rfl : rO = 1 := by rw [← HrO.out]; unfold trI; rw [if_pos (by simp; omega)]
      obtain rfl : rN = 0 := by rw [← HrN.out]; unfold trI; rw [if_neg (by simp; omega)]
      obtain rfl : rL = 0 := by rw [← HrL.out]; unfold trI; rw [if_neg (by simp; omega)]
      obtain rfl : rE = 0 := by rw [← HrE.out]; unfold trI; rw [if_neg (by simp; omega)]
      have hun : (u != 0) = true := by simp; omega
      have hvn : (v != 0) = true := by simp; omega
      have hu0 : (u == 0) = false := by simp; omega
      have hv0 : (v == 0) = false := by simp; omega
      have huv : (u == v) = false := by simp; omega
      have hlt : decide (u < v) = false := by simp; omega
      clear c1 c2 c3
      go_wp2_with (fail)
      refine (known_walk w11).mono ?_
      rintro e w12 ⟨rfl, hb⟩
      have HB := Lib.hid (HE11.out.2.2.1.trans (hb.mono HE11.out.2.2.1.size))
      clear hb
      go_wp2_with (fail)
      go_ret
      exact ⟨rfl, HB.out⟩
  omega
#print axioms guardRules_cut
end Go.Proofs.YtkmncmceheggjaaDoor
