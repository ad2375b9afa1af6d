/- GuardTells: guards are checked and reckoned as the document says. -/
import Derived.Test.YtkmncmceheggjaaDoorTg
import Derived.Test.YtkmncmceheggjaaDoorGn
set_option linter.unusedVariables false
set_option linter.unusedSimpArgs false
namespace Go.Proofs.YtkmncmceheggjaaDoor
open Go.RowKit

theorem ints_blw {w w' : World} {a : Option Addr} {n : Nat} {l : List Int} (h : Ints w a n l) (hb : Below w.heap.size w w') : Ints w' a n l := by
  obtain ⟨hn, h0 | ⟨b, o, ha, hlt, hs⟩⟩ := h
  · exact ⟨hn, .inl h0⟩
  · exact ⟨hn, .inr ⟨b, o, ha, Nat.lt_of_lt_of_le hlt hb.size, fun j hj => (hb.cell (p := ⟨b, _, none⟩) hlt).trans (hs j hj)⟩⟩

set_option maxRecDepth 100000 in
set_option maxHeartbeats 4000000 in
theorem refEval_any (s : ByteArray) (an : Option Addr) (nn capn : Nat) (names : List ByteArray) (av : Option Addr) (nv capv : Nat) (vals : List Int) (w : World) (hnn : nn ≤ 9223372036854775807) (hnv : nv ≤ 9223372036854775807) (hS : Strs w an nn names) (hV : Ints w av nv vals) (hs : s.size ≤ 1000000) :
    Calls Tryd.prog 15 #[.string s, .slice an nn capn, .slice av nv capv] w fun e w' => e = .returned (.tuple #[.int .i64 (evalP names vals s.toList).1, .int .i64 (evalP names vals s.toList).2]) ∧ Below w.heap.size w w' := by
  have HS := Lib.hid hS
  have HV := Lib.hid hV
  have HL := Lib.hid (And.intro hS.1 hV.1)
  have HChk := Lib.hid (refCheck_any s an nn capn names w hnn hS)
  clear hS hV
  by_cases hc : (checkP names s.toList).1 = 0
  · by_cases hv : vals.length < names.length
    · have e : evalP names vals s.toList = (0, 1) := by unfold evalP; rw [if_neg (by simpa using hc), if_pos hv]
      rw [e]
      have hvB : decide (nv < nn) = true := by rw [HL.out.1, HL.out.2]; exact decide_eq_true (by omega)
      have HC := Lib.hid hc
      clear e hc hv
      go_enter Tryd.func15, Tryd.ntmps15
      go_wp2_with (fail)
      refine HChk.out.mono ?_
      rintro e w1 ⟨rfl, b1⟩
      rw [HC.out]
      go_wp2_with (fail)
      go_ret2
      exact ⟨rfl, b1⟩
    · have e : evalP names vals s.toList = ((evS names vals (wordsL s.toList)).headD 0, 0) := by unfold evalP; rw [if_neg (by simpa using hc), if_neg hv]
      rw [e]
      have hvB : decide (nv < nn) = false := by rw [HL.out.1, HL.out.2]; exact decide_eq_false (by omega)
      obtain ⟨hok, hlen⟩ := check_words hc vals
      have hwl := words_len s.toList
      have hwe := words_each s.toList
      rw [bytes_len] at hwl hwe
      have HC := Lib.hid hc
      obtain ⟨ws, hws⟩ : ∃ ws, wordsL s.toList = ws := ⟨_, rfl⟩
      have HWl := fun w => refWords_lie s w (by omega)
      rw [hws] at hok hlen hwl hwe HWl ⊢
      have hne : ws ≠ [] := fun e => by rw [e] at hlen; simp [evS] at hlen
      have hev := eval_any_ref names vals an nn capn av nv capv hnn hnv (by omega) ws.length ws (Nat.le_refl _) hne hok (fun x hx => Nat.le_trans (hwe x hx) hs) (by omega)
      have HEv := Lib.hid hev
      have HWl := Lib.hid HWl
      have HNe := Lib.hid hne
      clear e hc hv hok hlen hwl hwe hws hev hne
      go_enter Tryd.func15, Tryd.ntmps15
      go_wp2_with (fail)
      refine HChk.out.mono ?_
      rintro e w1 ⟨rfl, b1⟩
      rw [HC.out]
      have HB1 := Lib.hid b1
      have hz1 := b1.size
      clear b1
      go_wp2_with (fail)
      refine (HWl.out w1).mono ?_
      rintro e w2 ⟨⟨wa, wc, rfl, hwa, hc1, hc2⟩, b2⟩
      have HB2 := Lib.hid (HB1.out.trans (b2.mono hz1))
      have hz2 := b2.size
      obtain ⟨b, rfl, _, hb, hwat⟩ := hwa.resolve_left (fun h => HNe.out (List.eq_nil_of_length_eq_zero h))
      have hR : RWAt w2 b 0 ws := fun j hj => by
        have := hwat j hj
        rw [show 0 + j * 2 = j * 2 by omega]
        exact this
      have HEv2 := Lib.hid (HEv.out b 0 wc w2 (HS.out.below HB2.out) (ints_blw HV.out HB2.out) hc1 hc2 hb hR)
      clear hwat hR b2 hc1 hc2 hwa
      go_wp2_with (fail)
      refine HEv2.out.mono ?_
      rintro e w3 ⟨v, c, rfl, _, _, hev, b3⟩
      have HB3 := Lib.hid (HB2.out.trans (b3.mono HB2.out.size))
      have HV2 := Lib.hid (show (evS names vals ws).headD 0 = v from by rw [hev]; rfl)
      clear hev b3
      go_wp2_with (fail)
      go_ret2
      rw [HV2.out]
      exact ⟨rfl, HB3.out⟩
  · have e : evalP names vals s.toList = (0, (checkP names s.toList).1) := by unfold evalP; rw [if_pos (by simpa using hc)]
    rw [e]
    obtain ⟨p, hp⟩ : ∃ p, checkP names s.toList = p := ⟨_, rfl⟩
    rw [hp] at hc HChk ⊢
    obtain ⟨p1, p2⟩ := p
    simp only at hc HChk ⊢
    have hcB : (p1 != 0) = true := by simpa using hc
    clear e hp
    go_enter Tryd.func15, Tryd.ntmps15
    go_wp2_with (fail)
    refine HChk.out.mono ?_
    rintro e w1 ⟨rfl, b1⟩
    go_wp2_with (fail)
    go_ret2
    exact ⟨rfl, b1⟩

set_option maxRecDepth 100000 in
set_option maxHeartbeats 8000000 in
theorem guardTells_cut (s T : ByteArray) (hT1 : s.size ≤ 300 → T = s) (hT2 : 300 < s.size → s.extract 0 300 = T) (hT : T.size ≤ 300) (a : Option Addr) (n c : Nat) (l : List ByteArray) (va : Option Addr) (vn vc : Nat) (vals : List Int) (w : World) (hn1 : n ≤ 12 → l.length = n) (hn2 : 12 < n → l.length = 12) (hnc : n ≤ c) (hS : Strs w a l.length l) (hvn : vn ≤ 9223372036854775807) (hV : Ints w va vn vals) :
    Calls Tryd.prog 5 #[.string s, .slice a n c, .slice va vn vc] w fun e w' => e = .returned (.bool true) ∧ Below w.heap.size w w' := by
  have HV := Lib.hid hV
  clear hV
  by_cases h300 : 300 < s.size
  · have hcut := hT2 h300
    have hlB : decide ((300 : Int) < (s.size : Int)) = true := by simp; omega
    clear hT1 hT2
    by_cases h12 : 12 < n
    · have hnB : decide ((12 : Int) < (n : Int)) = true := by simp; omega
      have hl := hn2 h12
      clear hn1 hn2
      have HS := Lib.hid (show Strs w a 12 l from by rw [hl] at hS; exact hS)
      clear hS hl
      go_enter Tryd.func5, Tryd.ntmps5
      go_wp2_with (fail)
      refine (check_any T a 12 c l w (by omega) HS.out).mono ?_
      rintro e w1 ⟨rfl, b1⟩
      have HB1 := Lib.hid b1
      have HS1 := Lib.hid (HS.out.below b1)
      obtain ⟨p, hp⟩ : ∃ p, checkP l T.toList = p := ⟨_, rfl⟩
      have HP := Lib.hid hp
      rw [hp]
      clear b1 hp
      go_wp2_with (fail)
      refine (refCheck_any T a 12 c l w1 (by omega) HS1.out).mono ?_
      rintro e w2 ⟨rfl, b2⟩
      have HB2 := Lib.hid (HB1.out.trans (b2.mono HB1.out.size))
      have HS2 := Lib.hid (HS.out.below HB2.out)
      have HV2 := Lib.hid (ints_blw HV.out HB2.out)
      rw [HP.out]
      clear b2
      go_wp2_with (fail)
      refine (eval_any T a 12 c l va vn vc vals w2 (by omega) hvn HS2.out HV2.out).mono ?_
      rintro e w3 ⟨rfl, b3⟩
      have HB3 := Lib.hid (HB2.out.trans (b3.mono HB2.out.size))
      have HS3 := Lib.hid (HS.out.below HB3.out)
      have HV3 := Lib.hid (ints_blw HV.out HB3.out)
      obtain ⟨q, hq⟩ : ∃ q, evalP l vals T.toList = q := ⟨_, rfl⟩
      have HQ := Lib.hid hq
      rw [hq]
      clear b3 hq
      go_wp2_with (fail)
      refine (refEval_any T a 12 c l va vn vc vals w3 (by omega) hvn HS3.out HV3.out (by omega)).mono ?_
      rintro e w4 ⟨rfl, b4⟩
      have HB4 := Lib.hid (HB3.out.trans (b4.mono HB3.out.size))
      rw [HQ.out]
      clear b4
      go_wp2_with (fail)
      refine (name_any T w4 (by omega)).mono ?_
      rintro e w5 ⟨rfl, rfl⟩
      obtain ⟨nb, hnb⟩ : ∃ nb, nameB T.toList = nb := ⟨_, rfl⟩
      have HNb := Lib.hid hnb
      rw [hnb]
      clear hnb
      go_wp2_with (fail)
      refine (refName_any T w4 (by omega)).mono ?_
      rintro e w5 ⟨rfl, rfl⟩
      rw [HNb.out]
      go_wp2_with (fail)
      refine (uses_any T w4 (by omega)).mono ?_
      rintro e w6 ⟨⟨ua, uc, rfl, hu6⟩, b6⟩
      have HB6 := Lib.hid (HB4.out.trans (b6.mono HB4.out.size))
      have HU6 := Lib.hid hu6
      clear b6 hu6
      go_wp2_with (fail)
      refine (refUses_any T w6 (by omega)).mono ?_
      rintro e w7 ⟨⟨ta, tc, rfl, hu7⟩, b7⟩
      have HB7 := Lib.hid (HB6.out.trans (b7.mono HB6.out.size))
      have HU7 := Lib.hid hu7
      have HU6' := Lib.hid (HU6.out.below b7)
      clear b7 hu7
      have hun : (usesL T.toList).length ≤ 4294967296 := by
        have h2 := compact_len ((namesW (wordsL T.toList)).mergeSort fun x y => decide (x ≤ y))
        have h3 := namesW_len (wordsL T.toList)
        have h4 := words_len T.toList
        rw [List.length_mergeSort] at h2
        rw [bytes_len] at h4
        have h5 : (usesL T.toList).length = (Lib.compact ((namesW (wordsL T.toList)).mergeSort fun x y => decide (x ≤ y))).length := rfl
        omega
      obtain ⟨us, hus⟩ : ∃ us, usesL T.toList = us := ⟨_, rfl⟩
      rw [hus] at HU6' HU7 hun ⊢
      clear hus HU6
      go_wp2_with (fail)
      refine (keepTexts_any ua ta us.length uc tc (us.map S) w7 HU6'.out HU7.out hun).mono ?_
      rintro e w8 ⟨rfl, b8⟩
      have HB8 := Lib.hid (HB7.out.trans (b8.mono HB7.out.size))
      clear b8
      go_wp2_with (fail)
      refine (known_walk w8).mono ?_
      rintro e w9 ⟨rfl, b9⟩
      have HB9 := Lib.hid (HB8.out.trans (b9.mono HB8.out.size))
      clear b9
      go_wp2_with (fail)
      go_ret
      exact ⟨rfl, HB9.out⟩
    · have hnB : decide ((12 : Int) < (n : Int)) = false := by simp; omega
      have hl := hn1 (by omega)
      clear hn1 hn2
      have HS := Lib.hid (show Strs w a n l from by rw [hl] at hS; exact hS)
      clear hS hl
      go_enter Tryd.func5, Tryd.ntmps5
      go_wp2_with (fail)
      refine (check_any T a n c l w (by omega) HS.out).mono ?_
      rintro e w1 ⟨rfl, b1⟩
      have HB1 := Lib.hid b1
      have HS1 := Lib.hid (HS.out.below b1)
      obtain ⟨p, hp⟩ : ∃ p, checkP l T.toList = p := ⟨_, rfl⟩
      have HP := Lib.hid hp
      rw [hp]
      clear b1 hp
      go_wp2_with (fail)
      refine (refCheck_any T a n c l w1 (by omega) HS1.out).mono ?_
      rintro e w2 ⟨rfl, b2⟩
      have HB2 := Lib.hid (HB1.out.trans (b2.mono HB1.out.size))
      have HS2 := Lib.hid (HS.out.below HB2.out)
      have HV2 := Lib.hid (ints_blw HV.out HB2.out)
      rw [HP.out]
      clear b2
      go_wp2_with (fail)
      refine (eval_any T a n c l va vn vc vals w2 (by omega) hvn HS2.out HV2.out).mono ?_
      rintro e w3 ⟨rfl, b3⟩
      have HB3 := Lib.hid (HB2.out.trans (b3.mono HB2.out.size))
      have HS3 := Lib.hid (HS.out.below HB3.out)
      have HV3 := Lib.hid (ints_blw HV.out HB3.out)
      obtain ⟨q, hq⟩ : ∃ q, evalP l vals T.toList = q := ⟨_, rfl⟩
      have HQ := Lib.hid hq
      rw [hq]
      clear b3 hq
      go_wp2_with (fail)
      refine (refEval_any T a n c l va vn vc vals w3 (by omega) hvn HS3.out HV3.out (by omega)).mono ?_
      rintro e w4 ⟨rfl, b4⟩
      have HB4 := Lib.hid (HB3.out.trans (b4.mono HB3.out.size))
      rw [HQ.out]
      clear b4
      go_wp2_with (fail)
      refine (name_any T w4 (by omega)).mono ?_
      rintro e w5 ⟨rfl, rfl⟩
      obtain ⟨nb, hnb⟩ : ∃ nb, nameB T.toList = nb := ⟨_, rfl⟩
      have HNb := Lib.hid hnb
      rw [hnb]
      clear hnb
      go_wp2_with (fail)
      refine (refName_any T w4 (by omega)).mono ?_
      rintro e w5 ⟨rfl, rfl⟩
      rw [HNb.out]
      go_wp2_with (fail)
      refine (uses_any T w4 (by omega)).mono ?_
      rintro e w6 ⟨⟨ua, uc, rfl, hu6⟩, b6⟩
      have HB6 := Lib.hid (HB4.out.trans (b6.mono HB4.out.size))
      have HU6 := Lib.hid hu6
      clear b6 hu6
      go_wp2_with (fail)
      refine (refUses_any T w6 (by omega)).mono ?_
      rintro e w7 ⟨⟨ta, tc, rfl, hu7⟩, b7⟩
      have HB7 := Lib.hid (HB6.out.trans (b7.mono HB6.out.size))
      have HU7 := Lib.hid hu7
      have HU6' := Lib.hid (HU6.out.below b7)
      clear b7 hu7
      have hun : (usesL T.toList).length ≤ 4294967296 := by
        have h2 := compact_len ((namesW (wordsL T.toList)).mergeSort fun x y => decide (x ≤ y))
        have h3 := namesW_len (wordsL T.toList)
        have h4 := words_len T.toList
        rw [List.length_mergeSort] at h2
        rw [bytes_len] at h4
        have h5 : (usesL T.toList).length = (Lib.compact ((namesW (wordsL T.toList)).mergeSort fun x y => decide (x ≤ y))).length := rfl
        omega
      obtain ⟨us, hus⟩ : ∃ us, usesL T.toList = us := ⟨_, rfl⟩
      rw [hus] at HU6' HU7 hun ⊢
      clear hus HU6
      go_wp2_with (fail)
      refine (keepTexts_any ua ta us.length uc tc (us.map S) w7 HU6'.out HU7.out hun).mono ?_
      rintro e w8 ⟨rfl, b8⟩
      have HB8 := Lib.hid (HB7.out.trans (b8.mono HB7.out.size))
      clear b8
      go_wp2_with (fail)
      refine (known_walk w8).mono ?_
      rintro e w9 ⟨rfl, b9⟩
      have HB9 := Lib.hid (HB8.out.trans (b9.mono HB8.out.size))
      clear b9
      go_wp2_with (fail)
      go_ret
      exact ⟨rfl, HB9.out⟩
  · obtain rfl : T = s := hT1 (by omega)
    have hlB : decide ((300 : Int) < (T.size : Int)) = false := by simp; omega
    clear hT1 hT2
    by_cases h12 : 12 < n
    · have hnB : decide ((12 : Int) < (n : Int)) = true := by simp; omega
      have hl := hn2 h12
      clear hn1 hn2
      have HS := Lib.hid (show Strs w a 12 l from by rw [hl] at hS; exact hS)
      clear hS hl
      go_enter Tryd.func5, Tryd.ntmps5
      go_wp2_with (fail)
      refine (check_any T a 12 c l w (by omega) HS.out).mono ?_
      rintro e w1 ⟨rfl, b1⟩
      have HB1 := Lib.hid b1
      have HS1 := Lib.hid (HS.out.below b1)
      obtain ⟨p, hp⟩ : ∃ p, checkP l T.toList = p := ⟨_, rfl⟩
      have HP := Lib.hid hp
      rw [hp]
      clear b1 hp
      go_wp2_with (fail)
      refine (refCheck_any T a 12 c l w1 (by omega) HS1.out).mono ?_
      rintro e w2 ⟨rfl, b2⟩
      have HB2 := Lib.hid (HB1.out.trans (b2.mono HB1.out.size))
      have HS2 := Lib.hid (HS.out.below HB2.out)
      have HV2 := Lib.hid (ints_blw HV.out HB2.out)
      rw [HP.out]
      clear b2
      go_wp2_with (fail)
      refine (eval_any T a 12 c l va vn vc vals w2 (by omega) hvn HS2.out HV2.out).mono ?_
      rintro e w3 ⟨rfl, b3⟩
      have HB3 := Lib.hid (HB2.out.trans (b3.mono HB2.out.size))
      have HS3 := Lib.hid (HS.out.below HB3.out)
      have HV3 := Lib.hid (ints_blw HV.out HB3.out)
      obtain ⟨q, hq⟩ : ∃ q, evalP l vals T.toList = q := ⟨_, rfl⟩
      have HQ := Lib.hid hq
      rw [hq]
      clear b3 hq
      go_wp2_with (fail)
      refine (refEval_any T a 12 c l va vn vc vals w3 (by omega) hvn HS3.out HV3.out (by omega)).mono ?_
      rintro e w4 ⟨rfl, b4⟩
      have HB4 := Lib.hid (HB3.out.trans (b4.mono HB3.out.size))
      rw [HQ.out]
      clear b4
      go_wp2_with (fail)
      refine (name_any T w4 (by omega)).mono ?_
      rintro e w5 ⟨rfl, rfl⟩
      obtain ⟨nb, hnb⟩ : ∃ nb, nameB T.toList = nb := ⟨_, rfl⟩
      have HNb := Lib.hid hnb
      rw [hnb]
      clear hnb
      go_wp2_with (fail)
      refine (refName_any T w4 (by omega)).mono ?_
      rintro e w5 ⟨rfl, rfl⟩
      rw [HNb.out]
      go_wp2_with (fail)
      refine (uses_any T w4 (by omega)).mono ?_
      rintro e w6 ⟨⟨ua, uc, rfl, hu6⟩, b6⟩
      have HB6 := Lib.hid (HB4.out.trans (b6.mono HB4.out.size))
      have HU6 := Lib.hid hu6
      clear b6 hu6
      go_wp2_with (fail)
      refine (refUses_any T w6 (by omega)).mono ?_
      rintro e w7 ⟨⟨ta, tc, rfl, hu7⟩, b7⟩
      have HB7 := Lib.hid (HB6.out.trans (b7.mono HB6.out.size))
      have HU7 := Lib.hid hu7
      have HU6' := Lib.hid (HU6.out.below b7)
      clear b7 hu7
      have hun : (usesL T.toList).length ≤ 4294967296 := by
        have h2 := compact_len ((namesW (wordsL T.toList)).mergeSort fun x y => decide (x ≤ y))
        have h3 := namesW_len (wordsL T.toList)
        have h4 := words_len T.toList
        rw [List.length_mergeSort] at h2
        rw [bytes_len] at h4
        have h5 : (usesL T.toList).length = (Lib.compact ((namesW (wordsL T.toList)).mergeSort fun x y => decide (x ≤ y))).length := rfl
        omega
      obtain ⟨us, hus⟩ : ∃ us, usesL T.toList = us := ⟨_, rfl⟩
      rw [hus] at HU6' HU7 hun ⊢
      clear hus HU6
      go_wp2_with (fail)
      refine (keepTexts_any ua ta us.length uc tc (us.map S) w7 HU6'.out HU7.out hun).mono ?_
      rintro e w8 ⟨rfl, b8⟩
      have HB8 := Lib.hid (HB7.out.trans (b8.mono HB7.out.size))
      clear b8
      go_wp2_with (fail)
      refine (known_walk w8).mono ?_
      rintro e w9 ⟨rfl, b9⟩
      have HB9 := Lib.hid (HB8.out.trans (b9.mono HB8.out.size))
      clear b9
      go_wp2_with (fail)
      go_ret
      exact ⟨rfl, HB9.out⟩
    · have hnB : decide ((12 : Int) < (n : Int)) = false := by simp; omega
      have hl := hn1 (by omega)
      clear hn1 hn2
      have HS := Lib.hid (show Strs w a n l from by rw [hl] at hS; exact hS)
      clear hS hl
      go_enter Tryd.func5, Tryd.ntmps5
      go_wp2_with (fail)
      refine (check_any T a n c l w (by omega) HS.out).mono ?_
      rintro e w1 ⟨rfl, b1⟩
      have HB1 := Lib.hid b1
      have HS1 := Lib.hid (HS.out.below b1)
      obtain ⟨p, hp⟩ : ∃ p, checkP l T.toList = p := ⟨_, rfl⟩
      have HP := Lib.hid hp
      rw [hp]
      clear b1 hp
      go_wp2_with (fail)
      refine (refCheck_any T a n c l w1 (by omega) HS1.out).mono ?_
      rintro e w2 ⟨rfl, b2⟩
      have HB2 := Lib.hid (HB1.out.trans (b2.mono HB1.out.size))
      have HS2 := Lib.hid (HS.out.below HB2.out)
      have HV2 := Lib.hid (ints_blw HV.out HB2.out)
      rw [HP.out]
      clear b2
      go_wp2_with (fail)
      refine (eval_any T a n c l va vn vc vals w2 (by omega) hvn HS2.out HV2.out).mono ?_
      rintro e w3 ⟨rfl, b3⟩
      have HB3 := Lib.hid (HB2.out.trans (b3.mono HB2.out.size))
      have HS3 := Lib.hid (HS.out.below HB3.out)
      have HV3 := Lib.hid (ints_blw HV.out HB3.out)
      obtain ⟨q, hq⟩ : ∃ q, evalP l vals T.toList = q := ⟨_, rfl⟩
      have HQ := Lib.hid hq
      rw [hq]
      clear b3 hq
      go_wp2_with (fail)
      refine (refEval_any T a n c l va vn vc vals w3 (by omega) hvn HS3.out HV3.out (by omega)).mono ?_
      rintro e w4 ⟨rfl, b4⟩
      have HB4 := Lib.hid (HB3.out.trans (b4.mono HB3.out.size))
      rw [HQ.out]
      clear b4
      go_wp2_with (fail)
      refine (name_any T w4 (by omega)).mono ?_
      rintro e w5 ⟨rfl, rfl⟩
      obtain ⟨nb, hnb⟩ : ∃ nb, nameB T.toList = nb := ⟨_, rfl⟩
      have HNb := Lib.hid hnb
      rw [hnb]
      clear hnb
      go_wp2_with (fail)
      refine (refName_any T w4 (by omega)).mono ?_
      rintro e w5 ⟨rfl, rfl⟩
      rw [HNb.out]
      go_wp2_with (fail)
      refine (uses_any T w4 (by omega)).mono ?_
      rintro e w6 ⟨⟨ua, uc, rfl, hu6⟩, b6⟩
      have HB6 := Lib.hid (HB4.out.trans (b6.mono HB4.out.size))
      have HU6 := Lib.hid hu6
      clear b6 hu6
      go_wp2_with (fail)
      refine (refUses_any T w6 (by omega)).mono ?_
      rintro e w7 ⟨⟨ta, tc, rfl, hu7⟩, b7⟩
      have HB7 := Lib.hid (HB6.out.trans (b7.mono HB6.out.size))
      have HU7 := Lib.hid hu7
      have HU6' := Lib.hid (HU6.out.below b7)
      clear b7 hu7
      have hun : (usesL T.toList).length ≤ 4294967296 := by
        have h2 := compact_len ((namesW (wordsL T.toList)).mergeSort fun x y => decide (x ≤ y))
        have h3 := namesW_len (wordsL T.toList)
        have h4 := words_len T.toList
        rw [List.length_mergeSort] at h2
        rw [bytes_len] at h4
        have h5 : (usesL T.toList).length = (Lib.compact ((namesW (wordsL T.toList)).mergeSort fun x y => decide (x ≤ y))).length := rfl
        omega
      obtain ⟨us, hus⟩ : ∃ us, usesL T.toList = us := ⟨_, rfl⟩
      rw [hus] at HU6' HU7 hun ⊢
      clear hus HU6
      go_wp2_with (fail)
      refine (keepTexts_any ua ta us.length uc tc (us.map S) w7 HU6'.out HU7.out hun).mono ?_
      rintro e w8 ⟨rfl, b8⟩
      have HB8 := Lib.hid (HB7.out.trans (b8.mono HB7.out.size))
      clear b8
      go_wp2_with (fail)
      refine (known_walk w8).mono ?_
      rintro e w9 ⟨rfl, b9⟩
      have HB9 := Lib.hid (HB8.out.trans (b9.mono HB8.out.size))
      clear b9
      go_wp2_with (fail)
      go_ret
      exact ⟨rfl, HB9.out⟩

theorem guardTells_row (s : ByteArray) (a : Option Addr) (n c : Nat) (l : List ByteArray) (va : Option Addr) (vn vc : Nat) (vals : List Int) (w : World) (hnc : n ≤ c) (hS : Strs w a n l) (hvn : vn ≤ 9223372036854775807) (hV : Ints w va vn vals) :
    Calls Tryd.prog 5 #[.string s, .slice a n c, .slice va vn vc] w fun e w' => e = .returned (.bool true) ∧ Below w.heap.size w w' := by
  have hts : (if 300 < s.size then s.extract 0 300 else s).size ≤ 300 := by
    split
    · rw [ByteArray.size_extract]; omega
    · omega
  refine guardTells_cut s (if 300 < s.size then s.extract 0 300 else s) (fun h => by rw [if_neg (by omega)]) (fun h => by rw [if_pos h]) hts a n c (l.take 12) va vn vc vals w (fun h => ?_) (fun h => ?_) hnc ?_ hvn hV
  · rw [List.length_take, ← hS.1]; omega
  · rw [List.length_take, ← hS.1]; omega
  · obtain ⟨hn, h⟩ := hS
    refine ⟨rfl, ?_⟩
    by_cases h0 : (l.take 12).length = 0
    · exact .inl h0
    refine .inr ?_
    rcases h with h | ⟨b, o, ha, hlt, hs⟩
    · rw [List.length_take] at h0; omega
    refine ⟨b, o, ha, hlt, fun j hj => ?_⟩
    rw [List.length_take] at hj
    rw [hs j (by omega)]
    simp only [List.getD, List.getElem?_take]
    rw [if_pos (by omega)]
#print axioms guardTells_row
end Go.Proofs.YtkmncmceheggjaaDoor
