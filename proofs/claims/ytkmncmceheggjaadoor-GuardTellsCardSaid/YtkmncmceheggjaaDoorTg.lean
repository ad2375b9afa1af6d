/- The reference's eval and Eval. -/
import Derived.Test.YtkmncmceheggjaaDoorTf
import Derived.Test.YtkmncmceheggjaaDoorRt
set_option linter.unusedVariables false
set_option linter.unusedSimpArgs false
namespace Go.Proofs.YtkmncmceheggjaaDoor
open Go.RowKit

/-- the reference's words from a place on -/
def RWAt (w : World) (b o : Nat) (l : List Wd) : Prop := ∀ j, j < l.length → w.cell? ⟨b, o + j * 2, none⟩ = some (.int .i64 ((l.getD j (0, [])).1 : Int)) ∧ w.cell? ⟨b, o + j * 2 + 1, none⟩ = some (.string (S (l.getD j (0, [])).2))
theorem RWAt.below {w w' : World} {b o : Nat} {l : List Wd} (h : RWAt w b o l) {B : Nat} (hb : Below B w w') (hB : b < B) : RWAt w' b o l := fun j hj =>
  ⟨(hb.cell (p := ⟨b, _, none⟩) hB).trans (h j hj).1, (hb.cell (p := ⟨b, _, none⟩) hB).trans (h j hj).2⟩
theorem RWAt.drop {w : World} {b o : Nat} {l : List Wd} (h : RWAt w b o l) (c : Nat) : RWAt w b (o + c * 2) (l.drop c) := fun j hj => by
  rw [List.length_drop] at hj
  have := h (c + j) (by omega)
  rw [show o + c * 2 + j * 2 = o + (c + j) * 2 by omega]
  have e : (l.drop c).getD j (0, []) = l.getD (c + j) (0, []) := by simp [List.getD, List.getElem?_drop]
  rw [e]
  exact this
def EvC (names : List ByteArray) (vals : List Int) (na : Option Addr) (nn nc : Nat) (va : Option Addr) (vn vc : Nat) (ws : List Wd) : Prop :=
  ∀ (b o cap : Nat) (w : World), Strs w na nn names → Ints w va vn vals → ws.length ≤ cap → cap ≤ 9223372036854775807 → b < w.heap.size → RWAt w b o ws →
    Calls Tryd.prog 34 #[.slice (some ⟨b, o, none⟩) ws.length cap, .slice na nn nc, .slice va vn vc] w fun e w' =>
      ∃ (v : Int) (c : Nat), e = .returned (.tuple #[.int .i64 v, .int .i64 (c : Int)]) ∧ 1 ≤ c ∧ c ≤ ws.length ∧ evS names vals ws = v :: evS names vals (ws.drop c) ∧ Below w.heap.size w w'
theorem ev_at {w : World} {va : Option Addr} {vn : Nat} {vals : List Int} {q : Nat} (h : Ints w va vn vals) (hq : q < vals.length) : ∃ b o, va = some ⟨b, o, none⟩ ∧ w.cell? ⟨b, o + q, none⟩ = some (.int .i64 (vals.getD q 0)) := by
  obtain ⟨hn, h0 | ⟨b, o, ha, hlt, hs⟩⟩ := h
  · omega
  · exact ⟨b, o, ha, hs q hq⟩

set_option maxRecDepth 100000 in
set_option maxHeartbeats 8000000 in
theorem eval_step (names : List ByteArray) (vals : List Int) (na : Option Addr) (nn nc : Nat) (va : Option Addr) (vn vc : Nat) (hnn : nn ≤ 9223372036854775807) (hvn : vn ≤ 9223372036854775807) (hnv : names.length ≤ vals.length) (x : Wd) (l : List Wd) (hok : okS names vals (x :: l)) (hxl : x.2.length ≤ 1000000) (hll : l.length ≤ 1000000)
    (IH : ∀ c, l.drop c ≠ [] → EvC names vals na nn nc va vn vc (l.drop c)) : EvC names vals na nn nc va vn vc (x :: l) := by
  intro b o cap w hS hI hcap hcap2 hb hR
  have c1 := (hR 0 (by simp)).2
  simp only [List.getD_cons_zero] at c1
  have HNl := Lib.hid (And.intro hS.1 hI.1)
  have HS := Lib.hid hS
  have HI := Lib.hid hI
  have HR := Lib.hid hR
  have HIH := Lib.hid IH
  obtain ⟨ok1, ok2, ok3, ok4, ok5⟩ := hok
  obtain ⟨s0, s1, s2, s3, s4⟩ := kind_see x.2
  have HNu := Lib.hid (refNumber_any (S x.2) w (by rw [S_size]; omega))
  have HTa := Lib.hid (takes_any (S x.2) w)
  have HIx := Lib.hid (refIndex_any na nn nc names (S x.2) w hnn hS)
  simp only [List.length_cons] at hcap ⊢
  rw [show o + 0 * 2 + 1 = o + 1 by omega] at c1
  clear hS hI hR IH
  rcases kindI_of x.2 with hq | hq | hq | hq | hq
  · exact absurd hq ok2
  · have hev : evS names vals (x :: l) = numI x.2 :: evS names vals ((x :: l).drop 1) := by simp [evS, hq]
    have hnum : numR x.2 = numI x.2 := by unfold numR; rw [if_pos (s1 hq).1]
    have HEv := Lib.hid hev
    clear hev ok3 ok4 ok5 ok1
    obtain ⟨N, hN⟩ : ∃ N, numI x.2 = N := ⟨_, rfl⟩
    rw [hN] at hnum
    have HN := Lib.hid hN
    clear hN
    go_enter Tryd.func34, Tryd.ntmps34
    go_wp2_with (fail)
    refine HNu.out.mono ?_
    rintro e w' ⟨rfl, rfl⟩
    rw [S_toList, (s1 hq).1, hnum]
    go_wp2_with (fail)
    go_ret2
    exact ⟨N, 1, rfl, by omega, by omega, by rw [← HN.out]; exact HEv.out, Below.refl _ _⟩
  · have hin := ok3 hq
    have hbd := idxI_bd names x.2
    obtain ⟨q, hqq⟩ : ∃ q : Nat, idxI names x.2 = (q : Int) := by
      unfold hasB at hin
      have := of_decide_eq_true hin
      exact ⟨(idxI names x.2).toNat, by omega⟩
    have hqv : q < vals.length := by omega
    obtain ⟨vb, vo, hva, cv⟩ := ev_at HI.out hqv
    subst hva
    obtain ⟨V, hV⟩ : ∃ V, vals.getD q 0 = V := ⟨_, rfl⟩
    rw [hV] at cv
    have hev : evS names vals (x :: l) = V :: evS names vals ((x :: l).drop 1) := by
      show (if kindI x.2 = 1 then _ else if kindI x.2 = 2 then vals.getD (idxI names x.2).toNat 0 :: evS names vals l else _) = _
      rw [if_neg (by omega), if_pos hq, hqq, ← hV]
      rfl
    have HEv := Lib.hid hev
    clear hev ok3 ok4 ok5 ok1 hin hV
    have hqn : (q : Int) < (vn : Int) := by rw [HNl.out.2]; omega
    obtain ⟨N, hN⟩ : ∃ N, numR x.2 = N := ⟨_, rfl⟩
    go_enter Tryd.func34, Tryd.ntmps34
    go_wp2_with (fail)
    refine HNu.out.mono ?_
    rintro e w' ⟨rfl, rfl⟩
    rw [S_toList, (s2 hq).1, hN]
    go_wp2_with (fail)
    refine HTa.out.mono ?_
    rintro e w' ⟨rfl, rfl⟩
    rw [S_toList, (s2 hq).2.1]
    go_wp2_with (fail)
    refine HIx.out.mono ?_
    rintro e w' ⟨rfl, rfl⟩
    rw [S_toList, hqq]
    go_wp2_with (fail)
    go_ret2
    exact ⟨V, 1, rfl, by omega, by omega, HEv.out, Below.refl _ _⟩
  · have h1 := ok4 hq
    have hl0 : l ≠ [] := fun e => by rw [e] at h1; simp [evS] at h1
    have hl1 : 0 < l.length := List.length_pos_iff.2 hl0
    have h3 : (x.2 == [110, 111, 116]) = true := by
      have := hq
      unfold kindI at this
      cases h : x.2 == [110, 111, 116] with
      | true => rfl
      | false => rw [h] at this; revert this; repeat' split
                 all_goals simp_all
    have hcne : ¬ cap = 1 := by omega
    have hsz := HIH.out 0 (by rw [List.drop_zero]; exact hl0)
    rw [List.drop_zero] at hsz
    have hR1 := HR.out.drop 1
    rw [List.drop_succ_cons, List.drop_zero, Nat.one_mul] at hR1
    have HC := Lib.hid (hsz b (o + 2) (cap - 1) w HS.out HI.out (by omega) (by omega) hb hR1)
    have hev : ∀ (v : Int) (c : Nat), evS names vals l = v :: evS names vals (l.drop c) → evS names vals (x :: l) = trI (v == 0) :: evS names vals ((x :: l).drop (1 + c)) := fun v c h => by
      show (if kindI x.2 = 1 then _ else if kindI x.2 = 2 then _ else if kindI x.2 = 3 then trI ((evS names vals l).headD 0 == 0) :: (evS names vals l).tail else _) = _
      rw [if_neg (by omega), if_neg (by omega), if_pos hq, h, show 1 + c = c + 1 by omega]
      rfl
    have HEv := Lib.hid hev
    clear hev ok3 ok4 ok5 ok1 h1 hsz hR1
    obtain ⟨N, hN⟩ : ∃ N, numR x.2 = N := ⟨_, rfl⟩
    go_enter Tryd.func34, Tryd.ntmps34
    go_wp2_with (fail)
    refine HNu.out.mono ?_
    rintro e w' ⟨rfl, rfl⟩
    rw [S_toList, (s3 hq).1, hN]
    go_wp2_with (fail)
    refine HTa.out.mono ?_
    rintro e w' ⟨rfl, rfl⟩
    rw [S_toList, (s3 hq).2]
    go_wp2_with (fail)
    refine HC.out.mono ?_
    rintro e w1 ⟨v, c, rfl, hc1, hc2, hev, hb1⟩
    have HE2 := Lib.hid (HEv.out v c hev)
    have HB1 := Lib.hid hb1
    clear hev hb1 HC HEv
    go_wp2_with (fail)
    refine (refTruth_any (v == 0) w1).mono ?_
    rintro e w2 ⟨rfl, rfl⟩
    go_wp2_with (fail)
    go_ret2
    exact ⟨trI (v == 0), 1 + c, by simp, by omega, by omega, HE2.out, HB1.out⟩
  · have h1 := ok5 hq
    have hl0 : l ≠ [] := fun e => by rw [e] at h1; simp [evS] at h1
    have hl1 : 0 < l.length := List.length_pos_iff.2 hl0
    obtain ⟨h3, h2⟩ : (x.2 == [110, 111, 116]) = false ∧ twoB x.2 = true := by
      have := hq
      unfold kindI at this
      cases h : x.2 == [110, 111, 116] with
      | true => rw [h] at this; revert this; repeat' split
                all_goals simp_all
      | false =>
        refine ⟨rfl, ?_⟩
        cases ht : twoB x.2 with
        | true => rfl
        | false => rw [h, ht] at this; revert this; repeat' split
                   all_goals simp_all
    have hcne : ¬ cap = 1 := by omega
    have hsz := HIH.out 0 (by rw [List.drop_zero]; exact hl0)
    rw [List.drop_zero] at hsz
    have hR1 := HR.out.drop 1
    rw [List.drop_succ_cons, List.drop_zero, Nat.one_mul] at hR1
    have HC := Lib.hid (hsz b (o + 2) (cap - 1) w HS.out HI.out (by omega) (by omega) hb hR1)
    have hev : ∀ (v u : Int) (c m : Nat), evS names vals l = v :: evS names vals (l.drop c) → evS names vals (l.drop c) = u :: evS names vals ((l.drop c).drop m) → evS names vals (x :: l) = appI x.2 v u :: evS names vals ((x :: l).drop (1 + c + m)) := fun v u c m h k => by
      show (if kindI x.2 = 1 then _ else if kindI x.2 = 2 then _ else if kindI x.2 = 3 then _ else appI x.2 ((evS names vals l).headD 0) ((evS names vals l).tail.headD 0) :: (evS names vals l).tail.tail) = _
      rw [if_neg (by omega), if_neg (by omega), if_neg (by omega), h, List.tail_cons, k, show 1 + c + m = (c + m) + 1 by omega, List.drop_drop]
      rfl
    have HEv := Lib.hid hev
    have H1 := Lib.hid h1
    clear hev ok3 ok4 ok5 ok1 h1 hsz hR1
    obtain ⟨N, hN⟩ : ∃ N, numR x.2 = N := ⟨_, rfl⟩
    go_enter Tryd.func34, Tryd.ntmps34
    go_wp2_with (fail)
    refine HNu.out.mono ?_
    rintro e w' ⟨rfl, rfl⟩
    rw [S_toList, (s4 hq).1, hN]
    go_wp2_with (fail)
    refine HTa.out.mono ?_
    rintro e w' ⟨rfl, rfl⟩
    rw [S_toList, (s4 hq).2]
    go_wp2_with (fail)
    refine HC.out.mono ?_
    rintro e w1 ⟨v, c, rfl, hc1, hc2, hev, hb1⟩
    have hne : l.drop c ≠ [] := fun e => by
      have := H1.out
      rw [hev, e] at this
      simp [evS] at this
    have hcl : c < l.length := by
      have := List.length_pos_iff.2 hne
      rw [List.length_drop] at this
      omega
    have hsz := HIH.out c hne
    have hR1 := (HR.out.drop (1 + c)).below hb1 hb
    rw [show (x :: l).drop (1 + c) = l.drop c by rw [Nat.add_comm]; rfl] at hR1
    have hz1 := hb1.size
    have hI1 : Ints w1 va vn vals := by
      obtain ⟨hn, h0 | ⟨b', o', ha, hlt, hs⟩⟩ := HI.out
      · exact ⟨hn, .inl h0⟩
      · exact ⟨hn, .inr ⟨b', o', ha, by omega, fun j hj => (hb1.cell (p := ⟨b', _, none⟩) hlt).trans (hs j hj)⟩⟩
    have hC2 := hsz b (o + (1 + c) * 2) (cap - (1 + c)) w1 (HS.out.below hb1) hI1 (by rw [List.length_drop]; omega) (by omega) (by omega) hR1
    rw [List.length_drop, show l.length - c = l.length + 1 - (1 + c) by omega] at hC2
    have HC2 := Lib.hid hC2
    have HE2 := Lib.hid (fun u m => HEv.out v u c m hev)
    have HB1 := Lib.hid hb1
    have hcne2 : ¬ cap = 1 + c := by omega
    clear hev hb1 HC HEv hne hsz hR1 hI1 hC2
    go_wp2_with (fail)
    refine HC2.out.mono ?_
    rintro e w2 ⟨u, m, rfl, hm1, hm2, hev, hb2⟩
    have HE3 := Lib.hid (HE2.out u m hev)
    have HB2 := Lib.hid (HB1.out.trans (hb2.mono hz1))
    clear hev hb2 HC2 HE2
    unfold twoB at h2
    simp only [Bool.or_eq_true, beq_iff_eq] at h2
    rcases h2 with hx | hx | hx | hx | hx | hx
    · have hB0 : (x.2 == [97, 110, 100]) = true := by rw [hx]; rfl
      have hB1 : (x.2 == [111, 114]) = false := by rw [hx]; rfl
      have hB2 : (x.2 == [108, 116]) = false := by rw [hx]; rfl
      have hB3 : (x.2 == [101, 113]) = false := by rw [hx]; rfl
      have hB4 : (x.2 == [97, 100, 100]) = false := by rw [hx]; rfl
      have hB5 : (x.2 == [115, 117, 98]) = false := by rw [hx]; rfl
      have happ : appI x.2 v u = trI (v != 0 && u != 0) := by rw [hx]; rfl
      have HAp := Lib.hid happ
      have HE4 := HE3.out
      rw [HAp.out] at HE4
      have HE := Lib.hid HE4
      clear happ hx HE4 HE3 HAp
      go_wp2_with (fail)
      all_goals
        refine (refTruth_any _ _).mono ?_
        rintro e w' ⟨rfl, rfl⟩
        go_wp2_with (fail)
        go_ret2
        refine ⟨trI (v != 0 && u != 0), 1 + c + m, ?_, by omega, by omega, HE.out, HB2.out⟩
        first | rfl | (simp_all; done) | (simp_all; rename_i h0; rw [show (v != 0) = true by simpa using h0]; rfl)
    · have hB0 : (x.2 == [97, 110, 100]) = false := by rw [hx]; rfl
      have hB1 : (x.2 == [111, 114]) = true := by rw [hx]; rfl
      have hB2 : (x.2 == [108, 116]) = false := by rw [hx]; rfl
      have hB3 : (x.2 == [101, 113]) = false := by rw [hx]; rfl
      have hB4 : (x.2 == [97, 100, 100]) = false := by rw [hx]; rfl
      have hB5 : (x.2 == [115, 117, 98]) = false := by rw [hx]; rfl
      have happ : appI x.2 v u = trI (v != 0 || u != 0) := by rw [hx]; rfl
      have HAp := Lib.hid happ
      have HE4 := HE3.out
      rw [HAp.out] at HE4
      have HE := Lib.hid HE4
      clear happ hx HE4 HE3 HAp
      go_wp2_with (fail)
      all_goals
        refine (refTruth_any _ _).mono ?_
        rintro e w' ⟨rfl, rfl⟩
        go_wp2_with (fail)
        go_ret2
        refine ⟨trI (v != 0 || u != 0), 1 + c + m, ?_, by omega, by omega, HE.out, HB2.out⟩
        first | rfl | (simp_all; done) | (simp_all; rename_i h0; rw [show (v != 0) = true by simpa using h0]; rfl)
    · have hB0 : (x.2 == [97, 110, 100]) = false := by rw [hx]; rfl
      have hB1 : (x.2 == [111, 114]) = false := by rw [hx]; rfl
      have hB2 : (x.2 == [108, 116]) = true := by rw [hx]; rfl
      have hB3 : (x.2 == [101, 113]) = false := by rw [hx]; rfl
      have hB4 : (x.2 == [97, 100, 100]) = false := by rw [hx]; rfl
      have hB5 : (x.2 == [115, 117, 98]) = false := by rw [hx]; rfl
      have happ : appI x.2 v u = trI (decide (v < u)) := by rw [hx]; rfl
      have HAp := Lib.hid happ
      have HE4 := HE3.out
      rw [HAp.out] at HE4
      have HE := Lib.hid HE4
      clear happ hx HE4 HE3 HAp
      go_wp2_with (fail)
      all_goals
        refine (refTruth_any _ _).mono ?_
        rintro e w' ⟨rfl, rfl⟩
        go_wp2_with (fail)
        go_ret2
        refine ⟨trI (decide (v < u)), 1 + c + m, ?_, by omega, by omega, HE.out, HB2.out⟩
        first | rfl | (simp_all; done) | (simp_all; rename_i h0; rw [show (v != 0) = true by simpa using h0]; rfl)
    · have hB0 : (x.2 == [97, 110, 100]) = false := by rw [hx]; rfl
      have hB1 : (x.2 == [111, 114]) = false := by rw [hx]; rfl
      have hB2 : (x.2 == [108, 116]) = false := by rw [hx]; rfl
      have hB3 : (x.2 == [101, 113]) = true := by rw [hx]; rfl
      have hB4 : (x.2 == [97, 100, 100]) = false := by rw [hx]; rfl
      have hB5 : (x.2 == [115, 117, 98]) = false := by rw [hx]; rfl
      have happ : appI x.2 v u = trI (v == u) := by rw [hx]; rfl
      have HAp := Lib.hid happ
      have HE4 := HE3.out
      rw [HAp.out] at HE4
      have HE := Lib.hid HE4
      clear happ hx HE4 HE3 HAp
      go_wp2_with (fail)
      all_goals
        refine (refTruth_any _ _).mono ?_
        rintro e w' ⟨rfl, rfl⟩
        go_wp2_with (fail)
        go_ret2
        refine ⟨trI (v == u), 1 + c + m, ?_, by omega, by omega, HE.out, HB2.out⟩
        first | rfl | (simp_all; done) | (simp_all; rename_i h0; rw [show (v != 0) = true by simpa using h0]; rfl)
    · have hB0 : (x.2 == [97, 110, 100]) = false := by rw [hx]; rfl
      have hB1 : (x.2 == [111, 114]) = false := by rw [hx]; rfl
      have hB2 : (x.2 == [108, 116]) = false := by rw [hx]; rfl
      have hB3 : (x.2 == [101, 113]) = false := by rw [hx]; rfl
      have hB4 : (x.2 == [97, 100, 100]) = true := by rw [hx]; rfl
      have hB5 : (x.2 == [115, 117, 98]) = false := by rw [hx]; rfl
      have happ : appI x.2 v u = wrap64 (v + u) := by rw [hx]; rfl
      have HAp := Lib.hid happ
      have HE4 := HE3.out
      rw [HAp.out] at HE4
      have HE := Lib.hid HE4
      clear happ hx HE4 HE3 HAp
      go_wp2_with (fail)
      go_ret2
      refine ⟨wrap64 (v + u), 1 + c + m, ?_, by omega, by omega, HE.out, HB2.out⟩
      first | rfl | (simp_all; done)
    · have hB0 : (x.2 == [97, 110, 100]) = false := by rw [hx]; rfl
      have hB1 : (x.2 == [111, 114]) = false := by rw [hx]; rfl
      have hB2 : (x.2 == [108, 116]) = false := by rw [hx]; rfl
      have hB3 : (x.2 == [101, 113]) = false := by rw [hx]; rfl
      have hB4 : (x.2 == [97, 100, 100]) = false := by rw [hx]; rfl
      have hB5 : (x.2 == [115, 117, 98]) = true := by rw [hx]; rfl
      have happ : appI x.2 v u = wrap64 (v - u) := by rw [hx]; rfl
      have HAp := Lib.hid happ
      have HE4 := HE3.out
      rw [HAp.out] at HE4
      have HE := Lib.hid HE4
      clear happ hx HE4 HE3 HAp
      go_wp2_with (fail)
      go_ret2
      refine ⟨wrap64 (v - u), 1 + c + m, ?_, by omega, by omega, HE.out, HB2.out⟩
      first | rfl | (simp_all; done)

theorem eval_any_ref (names : List ByteArray) (vals : List Int) (na : Option Addr) (nn nc : Nat) (va : Option Addr) (vn vc : Nat) (hnn : nn ≤ 9223372036854775807) (hvn : vn ≤ 9223372036854775807) (hnv : names.length ≤ vals.length) : ∀ (m : Nat) (ws : List Wd), ws.length ≤ m → ws ≠ [] → okS names vals ws → (∀ x ∈ ws, x.2.length ≤ 1000000) → ws.length ≤ 1000000 → EvC names vals na nn nc va vn vc ws
  | 0, ws, h, h0, _, _, _ => absurd (List.eq_nil_of_length_eq_zero (by omega)) h0
  | m + 1, [], h, h0, _, _, _ => absurd rfl h0
  | m + 1, x :: l, h, _, hok, hx, hl => by
    rw [List.length_cons] at h hl
    refine eval_step names vals na nn nc va vn vc hnn hvn hnv x l hok (hx x (by simp)) (by omega) fun c hc => ?_
    refine eval_any_ref names vals na nn nc va vn vc hnn hvn hnv m (l.drop c) (by rw [List.length_drop]; omega) hc (okS_drop c hok.1) (fun y hy => hx y (List.mem_cons_of_mem _ (List.mem_of_mem_drop hy))) (by rw [List.length_drop]; omega)
end Go.Proofs.YtkmncmceheggjaaDoor
