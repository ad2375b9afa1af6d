/- The reference's Check. -/
import Derived.Test.YtkmncmceheggjaaDoorTm
import Derived.Test.YtkmncmceheggjaaDoorMp
set_option linter.unusedVariables false
set_option linter.unusedSimpArgs false
namespace Go.Proofs.YtkmncmceheggjaaDoor
open Go.RowKit

/-! ### plain -/
def pop0 : List Int → List Int
  | [] => []
  | a :: k => if a = 0 then pop0 k else a :: k
def ckR (names : List ByteArray) (n : Nat) : List Wd → List Int → Int × Int
  | [], k => if k.any (fun a => decide (0 < a)) = true then (10, (n : Int)) else (0, 0)
  | x :: l, k =>
    if kindI x.2 = 0 then (12, (x.1 : Int)) else if kindI x.2 = 2 ∧ hasB names x.2 = false then (20, (x.1 : Int)) else
    match pop0 k with
    | [] => (11, (x.1 : Int))
    | a :: r => if 16 < r.length then (22, (x.1 : Int)) else if kindI x.2 = 3 then ckR names n l (1 :: (a - 1) :: r) else if kindI x.2 = 4 then ckR names n l (2 :: (a - 1) :: r) else ckR names n l ((a - 1) :: r)
def checkR (names : List ByteArray) (s : List UInt8) : Int × Int := if 120 < s.length then (3, 0) else ckR names s.length (wordsL s) [1]
/-- what the program has open, as the reference has it -/
def encK : List Int → List Int
  | [] => []
  | a :: r => a :: r.map (· - 1)
theorem encK_len (k : List Int) : (encK k).length = k.length := by cases k <;> simp [encK]
theorem pop_close : ∀ (k : List Int), (∀ a ∈ k, 1 ≤ a ∧ a ≤ 2) → pop0 (k.map (· - 1)) = encK (closeL k)
  | [], _ => rfl
  | a :: r, h => by
    have h1 := h a (by simp)
    rw [List.map_cons]
    by_cases ha : a = 1
    · subst ha
      have e : pop0 ((1 - 1 : Int) :: r.map (· - 1)) = pop0 (r.map (· - 1)) := by simp [pop0]
      rw [e, pop_close r fun b hb => h b (List.mem_cons_of_mem _ hb)]
      rfl
    · have e1 : pop0 ((a - 1 : Int) :: r.map (· - 1)) = (a - 1) :: r.map (· - 1) := by
        simp only [pop0]
        rw [if_neg (by omega)]
      have e2 : closeL (a :: r) = (a - 1) :: r := by
        simp only [closeL]
        rw [if_pos (by omega)]
      rw [e1, e2]
      rfl
theorem pop_any : ∀ (k : List Int), (∀ a ∈ k, 0 ≤ a) → (k.any (fun a => decide (0 < a)) = true ↔ pop0 k ≠ [])
  | [], _ => by simp [pop0]
  | a :: k, h => by
    have h1 := h a (by simp)
    have ih := pop_any k fun b hb => h b (List.mem_cons_of_mem _ hb)
    rw [List.any_cons]
    by_cases ha : a = 0
    · subst ha
      have e : pop0 (0 :: k) = pop0 k := by simp [pop0]
      rw [e]
      simpa using ih
    · have e : pop0 (a :: k) = a :: k := by simp [pop0, ha]
      rw [e]
      have : decide (0 < a) = true := decide_eq_true (by omega)
      rw [this]
      simp
theorem ck_same (names : List ByteArray) (n : Nat) : ∀ (l : List Wd) (L k : List Int), (∀ a ∈ k, 1 ≤ a ∧ a ≤ 2) → (∀ a ∈ L, 0 ≤ a) → pop0 L = encK k → ckR names n l L = ckGo names n l k
  | [], L, k, hk, hL, hp => by
    simp only [ckR, ckGo]
    have h1 := pop_any L hL
    rw [hp] at h1
    cases k with
    | nil =>
      rw [if_neg (by rw [h1]; simp [encK]), if_neg (by simp)]
    | cons a r =>
      rw [if_pos (by rw [h1]; simp [encK]), if_pos (by simp)]
  | x :: l, L, k, hk, hL, hp => by
    rw [ckGo_cons]
    simp only [ckR]
    rw [hp]
    by_cases h0 : kindI x.2 = 0
    · rw [if_pos h0, if_pos h0]
    rw [if_neg h0, if_neg h0]
    by_cases h2 : kindI x.2 = 2 ∧ hasB names x.2 = false
    · rw [if_pos h2, if_pos h2]
    rw [if_neg h2, if_neg h2]
    cases k with
    | nil => simp [encK]
    | cons a r =>
      have ha := hk a (by simp)
      have hr : ∀ b ∈ r.map (fun z : Int => z - 1), (0 : Int) ≤ b := by
        intro b hb
        obtain ⟨c, hc, rfl⟩ := List.mem_map.1 hb
        have := hk c (List.mem_cons_of_mem _ hc)
        omega
      have hge : ∀ b ∈ (a - 1) :: r.map (fun z : Int => z - 1), (0 : Int) ≤ b := by
        intro b hb
        rcases List.mem_cons.1 hb with rfl | hb
        · omega
        · exact hr b hb
      show (if 16 < (r.map (fun z : Int => z - 1)).length then ((22 : Int), (x.1 : Int)) else if kindI x.2 = 3 then ckR names n l (1 :: (a - 1) :: r.map (fun z : Int => z - 1)) else if kindI x.2 = 4 then ckR names n l (2 :: (a - 1) :: r.map (fun z : Int => z - 1)) else ckR names n l ((a - 1) :: r.map (fun z : Int => z - 1))) = _
      rw [List.length_map]
      by_cases hd : 16 < r.length
      · rw [if_pos hd, if_pos (show 17 < (a :: r).length by simp; omega)]
      rw [if_neg hd, if_neg (show ¬ 17 < (a :: r).length by simp; omega), if_neg (show ¬ (a :: r).length = 0 by simp)]
      by_cases h3 : kindI x.2 = 3
      · rw [if_pos h3, if_pos h3]
        refine ck_same names n l _ (1 :: a :: r) (fun b hb => ?_) (fun b hb => ?_) ?_
        · rcases List.mem_cons.1 hb with rfl | hb
          · omega
          · exact hk b hb
        · rcases List.mem_cons.1 hb with rfl | hb
          · omega
          · exact hge b hb
        · simp [pop0, encK]
      rw [if_neg h3, if_neg h3]
      by_cases h4 : kindI x.2 = 4
      · rw [if_pos h4, if_pos h4]
        refine ck_same names n l _ (2 :: a :: r) (fun b hb => ?_) (fun b hb => ?_) ?_
        · rcases List.mem_cons.1 hb with rfl | hb
          · omega
          · exact hk b hb
        · rcases List.mem_cons.1 hb with rfl | hb
          · omega
          · exact hge b hb
        · simp [pop0, encK]
      rw [if_neg h4, if_neg h4]
      refine ck_same names n l _ (closeL (a :: r)) (closeL_bd hk) hge ?_
      exact pop_close (a :: r) hk
theorem checkR_P (names : List ByteArray) (s : List UInt8) : checkR names s = checkP names s := by
  unfold checkR checkP
  split
  · rfl
  · exact ck_same names _ _ _ _ (by simp) (by simp) (by simp [pop0, encK])

/-! ### what the reference sees of a word -/
theorem dig_op (s : List UInt8) (h : digB s = true) : takI s = 0 := by
  unfold takI
  have h1 : (s == [110, 111, 116]) = false := by
    apply Bool.eq_false_iff.mpr; intro e
    have := eq_of_beq e
    subst this
    have : digB [110, 111, 116] = false := by decide +kernel
    rw [this] at h; cases h
  have h2 : twoB s = false := by
    apply Bool.eq_false_iff.mpr; intro e
    unfold twoB at e
    simp only [Bool.or_eq_true, beq_iff_eq] at e
    have hno : digB [97, 110, 100] = false ∧ digB [111, 114] = false ∧ digB [108, 116] = false ∧ digB [101, 113] = false ∧ digB [97, 100, 100] = false ∧ digB [115, 117, 98] = false := by decide +kernel
    obtain ⟨n1, n2, n3, n4, n5, n6⟩ := hno
    rcases e with rfl | rfl | rfl | rfl | rfl | rfl
    · rw [n1] at h; cases h
    · rw [n2] at h; cases h
    · rw [n3] at h; cases h
    · rw [n4] at h; cases h
    · rw [n5] at h; cases h
    · rw [n6] at h; cases h
  rw [h1, h2]; rfl
theorem kind_see (s : List UInt8) : (kindI s = 0 → digB s = false ∧ takI s = 0 ∧ nameB s = false) ∧ (kindI s = 1 → digB s = true ∧ takI s = 0) ∧ (kindI s = 2 → digB s = false ∧ takI s = 0 ∧ nameB s = true) ∧ (kindI s = 3 → digB s = false ∧ takI s = 1) ∧ (kindI s = 4 → digB s = false ∧ takI s = 2) := by
  unfold kindI
  cases hd : digB s with
  | true => simp [dig_op s hd]
  | false =>
    cases hn : nameB s with
    | true =>
      have hr : resB s = false := by
        unfold nameB at hn
        simp only [Bool.and_eq_true, Bool.not_eq_true'] at hn
        exact hn.1.2
      obtain ⟨h1, h2⟩ := res_of hr
      simp [takI, h1, h2]
    | false =>
      cases h3 : s == [110, 111, 116] with
      | true => simp [takI, h3]
      | false =>
        cases h4 : twoB s with
        | true => simp [takI, h3, h4]
        | false => simp [takI, h3, h4]
theorem ret_pairp {a b : Int} {p : Int × Int} (h : (a, b) = p) : Ending.returned (.tuple #[.int .i64 a, .int .i64 b]) = .returned (.tuple #[.int .i64 p.1, .int .i64 p.2]) := by rw [← h]
theorem icells_get (k : List Int) (i : Nat) (h : i < k.length) : (icells k)[i]? = some (.int .i64 (k.reverse.getD i 0)) := by
  unfold icells
  rw [List.getElem?_map, List.getElem?_eq_getElem (by rw [List.length_reverse]; exact h)]
  simp [List.getD, h]
theorem any_rev (k : List Int) (i : Nat) (h : i < k.length) (hp : 0 < k.reverse.getD i 0) : k.any (fun a => decide (0 < a)) = true := by
  rw [List.any_eq_true]
  refine ⟨k.reverse[i]'(by rw [List.length_reverse]; exact h), List.mem_reverse.1 (List.getElem_mem _), ?_⟩
  have : k.reverse.getD i 0 = k.reverse[i]'(by rw [List.length_reverse]; exact h) := by simp [List.getD, h]
  rw [this] at hp
  exact decide_eq_true hp
theorem no_any (k : List Int) (hn : ∀ i, i < k.length → ¬ 0 < k.reverse.getD i 0) : k.any (fun a => decide (0 < a)) = false := by
  rw [Bool.eq_false_iff]
  intro h
  rw [List.any_eq_true] at h
  obtain ⟨x, hx, hp⟩ := h
  have hx' := List.mem_reverse.2 hx
  obtain ⟨i, hi, rfl⟩ := List.getElem_of_mem hx'
  have hi2 : i < k.length := by rw [List.length_reverse] at hi; exact hi
  refine hn i hi2 ?_
  have : k.reverse.getD i 0 = k.reverse[i]'hi := by simp [List.getD, hi2]
  rw [this]
  exact of_decide_eq_true hp

/-! ### the walk -/
def CrRel (names : List ByteArray) (n : Nat) (ws : List Wd) (w1 : World) (o i : Value) (wr : World) : Prop :=
  ∃ (j : Nat) (k : List Int) (g cap : Nat), o = .slice (some ⟨g, 0, none⟩) k.length cap ∧ i = .int .i64 j ∧ j ≤ ws.length ∧ Hid (wr.ownsRow w1.heap.size 3 1 (.slice (some ⟨g, 0, none⟩) k.length cap) k.length (icells k)) ∧ Hid (Below w1.heap.size w1 wr) ∧
    Hid (ckR names n (ws.drop j) k = ckR names n ws [1]) ∧ Hid (∀ a ∈ k, 0 ≤ a ∧ a ≤ 2) ∧ k.length ≤ j + 1
set_option maxRecDepth 100000 in
set_option maxHeartbeats 8000000 in
theorem refCheck_any (s : ByteArray) (a : Option Addr) (n cap : Nat) (names : List ByteArray) (w : World) (hn : n ≤ 9223372036854775807) (hS : Strs w a n names) :
    Calls Tryd.prog 14 #[.string s, .slice a n cap] w fun e w' => e = .returned (.tuple #[.int .i64 (checkP names s.toList).1, .int .i64 (checkP names s.toList).2]) ∧ Below w.heap.size w w' := by
  have hlen := bytes_len s
  by_cases hs : 120 < s.size
  · have e : checkP names s.toList = (3, 0) := by unfold checkP; rw [hlen, if_pos hs]
    have hI : decide ((120 : Int) < (s.size : Int)) = true := by simp; omega
    rw [e]
    clear e hlen
    go_enter Tryd.func14, Tryd.ntmps14
    go_wp2
    go_ret2
    exact ⟨rfl, Below.refl _ _⟩
  have e : checkP names s.toList = ckR names s.size (wordsL s.toList) [1] := by rw [← checkR_P]; unfold checkR; rw [hlen, if_neg hs]
  rw [e]
  have hwl := words_len s.toList
  have hwe := fun x h => words_each s.toList x h
  rw [hlen] at hwl hwe
  clear e hlen
  have HS := Lib.hid hS; clear hS
  obtain ⟨i0, hi0, hz0, hz1, hz2⟩ := info_parts infoI
  have hcl := refWords_lie s w (by omega)
  obtain ⟨ws, hws⟩ : ∃ ws, wordsL s.toList = ws := ⟨_, rfl⟩
  rw [hws] at hwl hwe hcl ⊢
  have HWE := Lib.hid hwe; clear hwe hws
  go_enter Tryd.func14, Tryd.ntmps14
  go_wp2_with (fail)
  refine hcl.mono ?_
  rintro e w1 ⟨⟨wa, wc, rfl, hwa, _, _⟩, hb1⟩
  have HB1 := Lib.hid hb1
  have HWa := Lib.hid hwa
  have hz1' := hb1.size
  clear hcl hb1 hwa
  go_wp2_with (fail)
  have hO1 : (w1.alloc (.cells #[.int .i64 1] 3)).ownsRow w1.heap.size 3 1 (.slice (some ⟨w1.heap.size, 0, none⟩) 1 1) 1 [.int .i64 1] := World.ownsRow_lit w1 #[.int .i64 1] 1 (Nat.le_refl _) (by simp [maxLen]) rfl
  have HO1 := Lib.hid hO1
  clear hO1
  go_loopw [7, 8] (CrRel names s.size ws w1) (fun o i wr => ws.length - (intOf i).toNat)
  case atStart => exact ⟨0, [1], w1.heap.size, 1, rfl, rfl, by omega, HO1, Lib.hid ((Below.refl _ _).alloc (Nat.le_refl _) _), Lib.hid rfl, Lib.hid (by simp), by simp⟩
  case round =>
    obtain ⟨j, k, g, cp, rfl, rfl, hj, HO, HB, HC, HKB, hkl⟩ := hrel
    have hbz := HB.out.size
    clear HO1
    by_cases hlt : j < ws.length
    · rcases HWa.out with h0 | ⟨b, rfl, hb0, hb, hwat⟩
      · omega
      obtain ⟨d0, d1⟩ := hwat j hlt
      have hge : ws.getD j (0, []) = ws[j] := by simp [hlt]
      rw [hge] at d0 d1
      have hck := HC.out
      rw [List.drop_eq_getElem_cons hlt] at hck
      simp only [ckR] at hck
      obtain ⟨x, hx⟩ : ∃ x, ws[j] = x := ⟨_, rfl⟩
      have hxl := HWE.out x (by rw [← hx]; exact List.getElem_mem hlt)
      rw [hx] at d0 d1 hck
      have c0 := (HB.out.cell (p := ⟨b, j * 2, none⟩) hb).trans d0
      have c1 := (HB.out.cell (p := ⟨b, j * 2 + 1, none⟩) hb).trans d1
      have HS2 := Lib.hid (HS.out.below (HB1.out.trans (HB.out.mono hz1')))
      have hBB := HB1.out.trans (HB.out.mono hz1')
      have HBB := Lib.hid hBB
      have hkd := HKB.out
      obtain ⟨s0, s1, s2, s3, s4⟩ := kind_see x.2
      clear hwat d0 d1 hge hx HC hBB
      have hnum : (S x.2).size ≤ 4294967296 := by rw [S_size]; omega
      have hnam : (S x.2).size ≤ 9223372036854775807 := by omega
      have HNu := Lib.hid (refNumber_any (S x.2) wr hnum)
      have HTa := Lib.hid (takes_any (S x.2) wr)
      have HNa := Lib.hid (refName_any (S x.2) wr hnam)
      have HIx := Lib.hid (refIndex_any a n cap names (S x.2) wr hn HS2.out)
      obtain ⟨N, hN⟩ : ∃ N, numR x.2 = N := ⟨_, rfl⟩
      rcases kindI_of x.2 with hq | hq | hq | hq | hq
      all_goals rw [hq] at hck
      · simp at hck
        have HC := Lib.hid hck
        clear hck
        go_wp2_with (fail)
        refine HNu.out.mono ?_
        rintro e w' ⟨rfl, rfl⟩
        rw [S_toList, (s0 hq).1, hN]
        go_wp2_with (fail)
        refine HTa.out.mono ?_
        rintro e w' ⟨rfl, rfl⟩
        rw [S_toList, (s0 hq).2.1]
        go_wp2_with (fail)
        refine HNa.out.mono ?_
        rintro e w' ⟨rfl, rfl⟩
        rw [S_toList, (s0 hq).2.2]
        go_wp2_with (fail)
        go_quiet (fail)
        go_wp2
        go_ret2
        exact ⟨ret_pairp HC.out, below_drewN HBB.out _⟩
      · simp at hck
        have HC := Lib.hid hck
        clear hck
        go_wp2_with (fail)
        refine HNu.out.mono ?_
        rintro e w' ⟨rfl, rfl⟩
        rw [S_toList, (s1 hq).1, hN]
        go_wp2_with (fail)
        refine HTa.out.mono ?_
        rintro e w' ⟨rfl, rfl⟩
        rw [S_toList, (s1 hq).2]
        go_wp2_with (fail)
        go_loopw [7] (fun v wq => ∃ L : List Int, v = .slice (some ⟨g, 0, none⟩) L.length cp ∧ Hid (wr.ownsRow w1.heap.size 3 1 (.slice (some ⟨g, 0, none⟩) L.length cp) L.length (icells L)) ∧ Hid (pop0 L = pop0 k) ∧ Hid (∀ a ∈ L, 0 ≤ a ∧ a ≤ 2) ∧ L.length ≤ k.length ∧ wq = wr) (fun v _ => lenV v)
        case atStart => exact ⟨k, rfl, HO, Lib.hid rfl, HKB, by omega, rfl⟩
        case round =>
          obtain ⟨L, rfl, HL, HP, HLB, hLk, hwq⟩ := hrel
          subst hwq
          have hcap : L.length ≤ cp ∧ cp ≤ 9223372036854775807 := by
            rcases HL.out.2 with ⟨h0, _⟩ | ⟨g', cap', cur, hv, _, _, hn, hc, _⟩
            · cases h0
            · cases hv; exact ⟨hn, hc⟩
          obtain ⟨hcap1, hcap2⟩ := hcap
          cases L with
          | nil =>
            have hck := HC.out
            rw [← HP.out] at hck
            simp only [pop0] at hck
            have HC := Lib.hid hck
            simp only [List.length_nil]
            clear hck
            go_wp2_with (fail)
            go_quiet (fail)
            go_wp2
            go_ret2
            exact ⟨ret_pairp HC.out, below_drewN HBB.out _⟩
          | cons p rest =>
            obtain ⟨hp1, hp2⟩ := HLB.out p (by simp)
            have HL2 := Lib.hid (fun q hq => HLB.out q (List.mem_cons_of_mem _ hq))
            simp only [List.length_cons] at hcap1 hLk ⊢
            have hO := HL.out
            simp only [List.length_cons] at hO
            have ct := (hO.cellAt rest.length (by omega)).trans (icells_top p rest)
            have hwr : IntKind.i64.wrap (rest.length : Int) = (rest.length : Int) := by rw [IntKind.wrap_i64]; omega
            have hix2 : (rest.length : Int) < ((rest.length + 1 : Nat) : Int) := by omega
            by_cases hp : p = 0
            · subst hp
              have HR := Lib.hid (ownsRow_pop hO)
              have HP2 := Lib.hid (show pop0 rest = pop0 k from by rw [← HP.out]; simp [pop0])
              clear hO
              go_wp2_with (fail)
              go_roundw
              case rel => exact ⟨rest, rfl, HR, HP2, HL2, by omega, trivial⟩
              case measure => simp [lenV]
            · have hpB : (p == 0) = false := by simpa using hp
              have hck := HC.out
              have hpp : pop0 k = p :: rest := by rw [← HP.out]; simp [pop0, hp]
              rw [hpp] at hck
              simp only at hck
              by_cases hd : 16 < rest.length
              · rw [if_pos hd] at hck
                have HC := Lib.hid hck
                have hdB : decide ((16 : Int) < (rest.length : Int)) = true := by simp; omega
                clear hck hO
                go_wp2_with (fail)
                go_quiet (fail)
                go_wp2
                go_ret2
                exact ⟨ret_pairp HC.out, below_drewN HBB.out _⟩
              · rw [if_neg hd] at hck
                have HC := Lib.hid hck
                have hdB : decide ((16 : Int) < (rest.length : Int)) = false := by simp; omega
                have cf := hO.frozenAt rest.length
                obtain ⟨hs1, hs2⟩ := hO.stored rest.length (.int .i64 (p - 1))
                rw [icells_set] at hs1
                have hwa : IntKind.i64.wrap (p - 1) = p - 1 := by rw [IntKind.wrap_i64]; omega
                have HB2 := Lib.hid (HB.out.grown hs2 hbz (fun i hi => (hO.lt i hi).1))
                have HR1 := Lib.hid hs1
                have h0B : (((rest.length + 1 : Nat) : Int) == 0) = false := by simp; omega
                have hzW := HB2.out.size
                clear hck hO hs1 hs2 HL HO
                go_wp2_with (fail)
                go_roundw
                case rel => exact ⟨j + 1, (p - 1) :: rest, g, cp, rfl, rfl, by omega, HR1, HB2, HC, Lib.hid (fun q hq => by rcases List.mem_cons.1 hq with rfl | hq; exact ⟨by omega, by omega⟩; exact HL2.out q hq), by simp; omega⟩
                case measure => simp [intOf]; omega
      · cases hc : hasB names x.2 with
        | false =>
          rw [hc] at hck
          simp at hck
          have HC := Lib.hid hck
          have hix : decide (idxI names x.2 < 0) = true := by
            unfold hasB at hc
            have := of_decide_eq_false hc
            exact decide_eq_true (by omega)
          obtain ⟨I, hI⟩ : ∃ I, idxI names x.2 = I := ⟨_, rfl⟩
          rw [hI] at hix
          clear hck
          go_wp2_with (fail)
          refine HNu.out.mono ?_
          rintro e w' ⟨rfl, rfl⟩
          rw [S_toList, (s2 hq).1, hN]
          go_wp2_with (fail)
          refine HTa.out.mono ?_
          rintro e w' ⟨rfl, rfl⟩
          rw [S_toList, (s2 hq).2.1]
          go_wp2_with (fail)
          refine HNa.out.mono ?_
          rintro e w' ⟨rfl, rfl⟩
          rw [S_toList, (s2 hq).2.2]
          go_wp2_with (fail)
          refine HIx.out.mono ?_
          rintro e w' ⟨rfl, rfl⟩
          rw [S_toList]
          rw [hI]
          go_wp2_with (fail)
          go_quiet (fail)
          go_wp2
          go_ret2
          exact ⟨ret_pairp HC.out, below_drewN HBB.out _⟩
        | true =>
          rw [hc] at hck
          simp at hck
          have HC := Lib.hid hck
          have hix : decide (idxI names x.2 < 0) = false := by
            unfold hasB at hc
            have := of_decide_eq_true hc
            exact decide_eq_false (by omega)
          obtain ⟨I, hI⟩ : ∃ I, idxI names x.2 = I := ⟨_, rfl⟩
          rw [hI] at hix
          clear hck
          go_wp2_with (fail)
          refine HNu.out.mono ?_
          rintro e w' ⟨rfl, rfl⟩
          rw [S_toList, (s2 hq).1, hN]
          go_wp2_with (fail)
          refine HTa.out.mono ?_
          rintro e w' ⟨rfl, rfl⟩
          rw [S_toList, (s2 hq).2.1]
          go_wp2_with (fail)
          refine HNa.out.mono ?_
          rintro e w' ⟨rfl, rfl⟩
          rw [S_toList, (s2 hq).2.2]
          go_wp2_with (fail)
          refine HIx.out.mono ?_
          rintro e w' ⟨rfl, rfl⟩
          rw [S_toList]
          rw [hI]
          go_wp2_with (fail)
          go_loopw [7] (fun v wq => ∃ L : List Int, v = .slice (some ⟨g, 0, none⟩) L.length cp ∧ Hid (wr.ownsRow w1.heap.size 3 1 (.slice (some ⟨g, 0, none⟩) L.length cp) L.length (icells L)) ∧ Hid (pop0 L = pop0 k) ∧ Hid (∀ a ∈ L, 0 ≤ a ∧ a ≤ 2) ∧ L.length ≤ k.length ∧ wq = wr) (fun v _ => lenV v)
          case atStart => exact ⟨k, rfl, HO, Lib.hid rfl, HKB, by omega, rfl⟩
          case round =>
            obtain ⟨L, rfl, HL, HP, HLB, hLk, hwq⟩ := hrel
            subst hwq
            have hcap : L.length ≤ cp ∧ cp ≤ 9223372036854775807 := by
              rcases HL.out.2 with ⟨h0, _⟩ | ⟨g', cap', cur, hv, _, _, hn, hc, _⟩
              · cases h0
              · cases hv; exact ⟨hn, hc⟩
            obtain ⟨hcap1, hcap2⟩ := hcap
            cases L with
            | nil =>
              have hck := HC.out
              rw [← HP.out] at hck
              simp only [pop0] at hck
              have HC := Lib.hid hck
              simp only [List.length_nil]
              clear hck
              go_wp2_with (fail)
              go_quiet (fail)
              go_wp2
              go_ret2
              exact ⟨ret_pairp HC.out, below_drewN HBB.out _⟩
            | cons p rest =>
              obtain ⟨hp1, hp2⟩ := HLB.out p (by simp)
              have HL2 := Lib.hid (fun q hq => HLB.out q (List.mem_cons_of_mem _ hq))
              simp only [List.length_cons] at hcap1 hLk ⊢
              have hO := HL.out
              simp only [List.length_cons] at hO
              have ct := (hO.cellAt rest.length (by omega)).trans (icells_top p rest)
              have hwr : IntKind.i64.wrap (rest.length : Int) = (rest.length : Int) := by rw [IntKind.wrap_i64]; omega
              have hix2 : (rest.length : Int) < ((rest.length + 1 : Nat) : Int) := by omega
              by_cases hp : p = 0
              · subst hp
                have HR := Lib.hid (ownsRow_pop hO)
                have HP2 := Lib.hid (show pop0 rest = pop0 k from by rw [← HP.out]; simp [pop0])
                clear hO
                go_wp2_with (fail)
                go_roundw
                case rel => exact ⟨rest, rfl, HR, HP2, HL2, by omega, trivial⟩
                case measure => simp [lenV]
              · have hpB : (p == 0) = false := by simpa using hp
                have hck := HC.out
                have hpp : pop0 k = p :: rest := by rw [← HP.out]; simp [pop0, hp]
                rw [hpp] at hck
                simp only at hck
                by_cases hd : 16 < rest.length
                · rw [if_pos hd] at hck
                  have HC := Lib.hid hck
                  have hdB : decide ((16 : Int) < (rest.length : Int)) = true := by simp; omega
                  clear hck hO
                  go_wp2_with (fail)
                  go_quiet (fail)
                  go_wp2
                  go_ret2
                  exact ⟨ret_pairp HC.out, below_drewN HBB.out _⟩
                · rw [if_neg hd] at hck
                  have HC := Lib.hid hck
                  have hdB : decide ((16 : Int) < (rest.length : Int)) = false := by simp; omega
                  have cf := hO.frozenAt rest.length
                  obtain ⟨hs1, hs2⟩ := hO.stored rest.length (.int .i64 (p - 1))
                  rw [icells_set] at hs1
                  have hwa : IntKind.i64.wrap (p - 1) = p - 1 := by rw [IntKind.wrap_i64]; omega
                  have HB2 := Lib.hid (HB.out.grown hs2 hbz (fun i hi => (hO.lt i hi).1))
                  have HR1 := Lib.hid hs1
                  have h0B : (((rest.length + 1 : Nat) : Int) == 0) = false := by simp; omega
                  have hzW := HB2.out.size
                  clear hck hO hs1 hs2 HL HO
                  go_wp2_with (fail)
                  go_roundw
                  case rel => exact ⟨j + 1, (p - 1) :: rest, g, cp, rfl, rfl, by omega, HR1, HB2, HC, Lib.hid (fun q hq => by rcases List.mem_cons.1 hq with rfl | hq; exact ⟨by omega, by omega⟩; exact HL2.out q hq), by simp; omega⟩
                  case measure => simp [intOf]; omega
      · simp at hck
        have HC := Lib.hid hck
        clear hck
        go_wp2_with (fail)
        refine HNu.out.mono ?_
        rintro e w' ⟨rfl, rfl⟩
        rw [S_toList, (s3 hq).1, hN]
        go_wp2_with (fail)
        refine HTa.out.mono ?_
        rintro e w' ⟨rfl, rfl⟩
        rw [S_toList, (s3 hq).2]
        go_wp2_with (fail)
        go_loopw [7] (fun v wq => ∃ L : List Int, v = .slice (some ⟨g, 0, none⟩) L.length cp ∧ Hid (wr.ownsRow w1.heap.size 3 1 (.slice (some ⟨g, 0, none⟩) L.length cp) L.length (icells L)) ∧ Hid (pop0 L = pop0 k) ∧ Hid (∀ a ∈ L, 0 ≤ a ∧ a ≤ 2) ∧ L.length ≤ k.length ∧ wq = wr) (fun v _ => lenV v)
        case atStart => exact ⟨k, rfl, HO, Lib.hid rfl, HKB, by omega, rfl⟩
        case round =>
          obtain ⟨L, rfl, HL, HP, HLB, hLk, hwq⟩ := hrel
          subst hwq
          have hcap : L.length ≤ cp ∧ cp ≤ 9223372036854775807 := by
            rcases HL.out.2 with ⟨h0, _⟩ | ⟨g', cap', cur, hv, _, _, hn, hc, _⟩
            · cases h0
            · cases hv; exact ⟨hn, hc⟩
          obtain ⟨hcap1, hcap2⟩ := hcap
          cases L with
          | nil =>
            have hck := HC.out
            rw [← HP.out] at hck
            simp only [pop0] at hck
            have HC := Lib.hid hck
            simp only [List.length_nil]
            clear hck
            go_wp2_with (fail)
            go_quiet (fail)
            go_wp2
            go_ret2
            exact ⟨ret_pairp HC.out, below_drewN HBB.out _⟩
          | cons p rest =>
            obtain ⟨hp1, hp2⟩ := HLB.out p (by simp)
            have HL2 := Lib.hid (fun q hq => HLB.out q (List.mem_cons_of_mem _ hq))
            simp only [List.length_cons] at hcap1 hLk ⊢
            have hO := HL.out
            simp only [List.length_cons] at hO
            have ct := (hO.cellAt rest.length (by omega)).trans (icells_top p rest)
            have hwr : IntKind.i64.wrap (rest.length : Int) = (rest.length : Int) := by rw [IntKind.wrap_i64]; omega
            have hix2 : (rest.length : Int) < ((rest.length + 1 : Nat) : Int) := by omega
            by_cases hp : p = 0
            · subst hp
              have HR := Lib.hid (ownsRow_pop hO)
              have HP2 := Lib.hid (show pop0 rest = pop0 k from by rw [← HP.out]; simp [pop0])
              clear hO
              go_wp2_with (fail)
              go_roundw
              case rel => exact ⟨rest, rfl, HR, HP2, HL2, by omega, trivial⟩
              case measure => simp [lenV]
            · have hpB : (p == 0) = false := by simpa using hp
              have hck := HC.out
              have hpp : pop0 k = p :: rest := by rw [← HP.out]; simp [pop0, hp]
              rw [hpp] at hck
              simp only at hck
              by_cases hd : 16 < rest.length
              · rw [if_pos hd] at hck
                have HC := Lib.hid hck
                have hdB : decide ((16 : Int) < (rest.length : Int)) = true := by simp; omega
                clear hck hO
                go_wp2_with (fail)
                go_quiet (fail)
                go_wp2
                go_ret2
                exact ⟨ret_pairp HC.out, below_drewN HBB.out _⟩
              · rw [if_neg hd] at hck
                have HC := Lib.hid hck
                have hdB : decide ((16 : Int) < (rest.length : Int)) = false := by simp; omega
                have cf := hO.frozenAt rest.length
                obtain ⟨hs1, hs2⟩ := hO.stored rest.length (.int .i64 (p - 1))
                rw [icells_set] at hs1
                have hwa : IntKind.i64.wrap (p - 1) = p - 1 := by rw [IntKind.wrap_i64]; omega
                have HB2 := Lib.hid (HB.out.grown hs2 hbz (fun i hi => (hO.lt i hi).1))
                have HR1 := Lib.hid hs1
                have h0B : (((rest.length + 1 : Nat) : Int) == 0) = false := by simp; omega
                have hzW := HB2.out.size
                clear hck hO hs1 hs2 HL HO
                generalize hWW : wr.setCell ⟨g, rest.length, none⟩ (.int .i64 (p - 1)) = W at *
                go_wp2_with (first | (rw [hWW]; fail) | (at_builtin; refine wpList_append_lies _ rfl _ _ _ rfl w1.heap.size 3 i0 _ 1 8 (by kernel_rfl) hi0 hz0 hz1 hz2 rfl (by omega) (.slice (some ⟨g, 0, none⟩) (rest.length + 1) cp) (rest.length + 1) (icells ((p - 1) :: rest)) rfl (HR1.out.alloc _) ⟨W.heap.size, 0, none⟩ 1 1 [.int .i64 1] rfl rfl (World.news_of_block (cs := #[.int .i64 1]) (t := 3) (fr := (0, 0)) (heap_alloc_new W _)) (by simp [Value.oneCell']) (by omega) (by unfold maxLen; omega) (by omega) (by simp; omega) (W.heap.size + 1) (by simp) ?_; intro gg cap' w3 hown3 hgrow hat hlt3))
                have HB3 := Lib.hid ((HB2.out.alloc hzW _).grown hgrow (by simp; omega) (fun i hi => (HR1.out.lt i hi).1))
                have HR3 := Lib.hid hown3
                clear hown3 hgrow
                go_roundw
                case rel => exact ⟨j + 1, 1 :: (p - 1) :: rest, gg, cap', rfl, rfl, by omega, Lib.hid (by rw [icells_cons]; exact HR3.out), HB3, HC, Lib.hid (fun q hq => by rcases List.mem_cons.1 hq with rfl | hq; exact ⟨by omega, by omega⟩; rcases List.mem_cons.1 hq with rfl | hq; exact ⟨by omega, by omega⟩; exact HL2.out q hq), by simp; omega⟩
                case measure => simp [intOf]; omega
      · simp at hck
        have HC := Lib.hid hck
        clear hck
        go_wp2_with (fail)
        refine HNu.out.mono ?_
        rintro e w' ⟨rfl, rfl⟩
        rw [S_toList, (s4 hq).1, hN]
        go_wp2_with (fail)
        refine HTa.out.mono ?_
        rintro e w' ⟨rfl, rfl⟩
        rw [S_toList, (s4 hq).2]
        go_wp2_with (fail)
        go_loopw [7] (fun v wq => ∃ L : List Int, v = .slice (some ⟨g, 0, none⟩) L.length cp ∧ Hid (wr.ownsRow w1.heap.size 3 1 (.slice (some ⟨g, 0, none⟩) L.length cp) L.length (icells L)) ∧ Hid (pop0 L = pop0 k) ∧ Hid (∀ a ∈ L, 0 ≤ a ∧ a ≤ 2) ∧ L.length ≤ k.length ∧ wq = wr) (fun v _ => lenV v)
        case atStart => exact ⟨k, rfl, HO, Lib.hid rfl, HKB, by omega, rfl⟩
        case round =>
          obtain ⟨L, rfl, HL, HP, HLB, hLk, hwq⟩ := hrel
          subst hwq
          have hcap : L.length ≤ cp ∧ cp ≤ 9223372036854775807 := by
            rcases HL.out.2 with ⟨h0, _⟩ | ⟨g', cap', cur, hv, _, _, hn, hc, _⟩
            · cases h0
            · cases hv; exact ⟨hn, hc⟩
          obtain ⟨hcap1, hcap2⟩ := hcap
          cases L with
          | nil =>
            have hck := HC.out
            rw [← HP.out] at hck
            simp only [pop0] at hck
            have HC := Lib.hid hck
            simp only [List.length_nil]
            clear hck
            go_wp2_with (fail)
            go_quiet (fail)
            go_wp2
            go_ret2
            exact ⟨ret_pairp HC.out, below_drewN HBB.out _⟩
          | cons p rest =>
            obtain ⟨hp1, hp2⟩ := HLB.out p (by simp)
            have HL2 := Lib.hid (fun q hq => HLB.out q (List.mem_cons_of_mem _ hq))
            simp only [List.length_cons] at hcap1 hLk ⊢
            have hO := HL.out
            simp only [List.length_cons] at hO
            have ct := (hO.cellAt rest.length (by omega)).trans (icells_top p rest)
            have hwr : IntKind.i64.wrap (rest.length : Int) = (rest.length : Int) := by rw [IntKind.wrap_i64]; omega
            have hix2 : (rest.length : Int) < ((rest.length + 1 : Nat) : Int) := by omega
            by_cases hp : p = 0
            · subst hp
              have HR := Lib.hid (ownsRow_pop hO)
              have HP2 := Lib.hid (show pop0 rest = pop0 k from by rw [← HP.out]; simp [pop0])
              clear hO
              go_wp2_with (fail)
              go_roundw
              case rel => exact ⟨rest, rfl, HR, HP2, HL2, by omega, trivial⟩
              case measure => simp [lenV]
            · have hpB : (p == 0) = false := by simpa using hp
              have hck := HC.out
              have hpp : pop0 k = p :: rest := by rw [← HP.out]; simp [pop0, hp]
              rw [hpp] at hck
              simp only at hck
              by_cases hd : 16 < rest.length
              · rw [if_pos hd] at hck
                have HC := Lib.hid hck
                have hdB : decide ((16 : Int) < (rest.length : Int)) = true := by simp; omega
                clear hck hO
                go_wp2_with (fail)
                go_quiet (fail)
                go_wp2
                go_ret2
                exact ⟨ret_pairp HC.out, below_drewN HBB.out _⟩
              · rw [if_neg hd] at hck
                have HC := Lib.hid hck
                have hdB : decide ((16 : Int) < (rest.length : Int)) = false := by simp; omega
                have cf := hO.frozenAt rest.length
                obtain ⟨hs1, hs2⟩ := hO.stored rest.length (.int .i64 (p - 1))
                rw [icells_set] at hs1
                have hwa : IntKind.i64.wrap (p - 1) = p - 1 := by rw [IntKind.wrap_i64]; omega
                have HB2 := Lib.hid (HB.out.grown hs2 hbz (fun i hi => (hO.lt i hi).1))
                have HR1 := Lib.hid hs1
                have h0B : (((rest.length + 1 : Nat) : Int) == 0) = false := by simp; omega
                have hzW := HB2.out.size
                clear hck hO hs1 hs2 HL HO
                generalize hWW : wr.setCell ⟨g, rest.length, none⟩ (.int .i64 (p - 1)) = W at *
                go_wp2_with (first | (rw [hWW]; fail) | (at_builtin; refine wpList_append_lies _ rfl _ _ _ rfl w1.heap.size 3 i0 _ 1 8 (by kernel_rfl) hi0 hz0 hz1 hz2 rfl (by omega) (.slice (some ⟨g, 0, none⟩) (rest.length + 1) cp) (rest.length + 1) (icells ((p - 1) :: rest)) rfl (HR1.out.alloc _) ⟨W.heap.size, 0, none⟩ 1 1 [.int .i64 2] rfl rfl (World.news_of_block (cs := #[.int .i64 2]) (t := 3) (fr := (0, 0)) (heap_alloc_new W _)) (by simp [Value.oneCell']) (by omega) (by unfold maxLen; omega) (by omega) (by simp; omega) (W.heap.size + 1) (by simp) ?_; intro gg cap' w3 hown3 hgrow hat hlt3))
                have HB3 := Lib.hid ((HB2.out.alloc hzW _).grown hgrow (by simp; omega) (fun i hi => (HR1.out.lt i hi).1))
                have HR3 := Lib.hid hown3
                clear hown3 hgrow
                go_roundw
                case rel => exact ⟨j + 1, 2 :: (p - 1) :: rest, gg, cap', rfl, rfl, by omega, Lib.hid (by rw [icells_cons]; exact HR3.out), HB3, HC, Lib.hid (fun q hq => by rcases List.mem_cons.1 hq with rfl | hq; exact ⟨by omega, by omega⟩; rcases List.mem_cons.1 hq with rfl | hq; exact ⟨by omega, by omega⟩; exact HL2.out q hq), by simp; omega⟩
                case measure => simp [intOf]; omega
    · obtain rfl : j = ws.length := by omega
      have hck := HC.out
      rw [List.drop_length] at hck
      simp only [ckR] at hck
      have HBB := Lib.hid (HB1.out.trans (HB.out.mono hz1'))
      have HC := Lib.hid hck
      have hcap : k.length ≤ cp ∧ cp ≤ 9223372036854775807 := by
        rcases HO.out.2 with ⟨h0, _⟩ | ⟨g', cap', cur, hv, _, _, hn, hc, _⟩
        · cases h0
        · cases hv; exact ⟨hn, hc⟩
      obtain ⟨hcap1, hcap2⟩ := hcap
      clear hck
      go_wp2_with (fail)
      go_loopw [13] (fun v wq => ∃ i : Nat, v = .int .i64 i ∧ i ≤ k.length ∧ Hid (∀ q, q < i → ¬ 0 < k.reverse.getD q 0) ∧ wq = wr) (fun v _ => k.length - (intOf v).toNat)
      case atStart => exact ⟨0, rfl, by omega, Lib.hid (fun q h => by omega), rfl⟩
      case round =>
        obtain ⟨i, rfl, hi, HN, hwq⟩ := hrel
        subst hwq
        by_cases hik : i < k.length
        · have ct := (HO.out.cellAt i (by omega)).trans (icells_get k i hik)
          have hany := any_rev k i hik
          obtain ⟨v, hv⟩ : ∃ v, k.reverse.getD i 0 = v := ⟨_, rfl⟩
          rw [hv] at ct hany
          by_cases hp : 0 < v
          · have hpB : decide (0 < v) = true := decide_eq_true hp
            have hck := HC.out
            rw [if_pos (hany hp)] at hck
            have HC := Lib.hid hck
            clear hck hany hv
            go_wp2_with (fail)
            go_ret2
            exact ⟨ret_pairp HC.out, HBB.out⟩
          · have hpB : decide (0 < v) = false := decide_eq_false hp
            have HN2 := Lib.hid (show ∀ q, q < i + 1 → ¬ 0 < k.reverse.getD q 0 from fun q hq => by
              rcases Nat.lt_or_ge q i with h | h
              · exact HN.out q h
              · obtain rfl : q = i := by omega
                rw [hv]; exact hp)
            clear hany hv
            go_wp2_with (fail)
            go_roundw
            case rel => exact ⟨i + 1, by simp, by omega, HN2, trivial⟩
            case measure => simp [intOf]; omega
        · obtain rfl : i = k.length := by omega
          have hck := HC.out
          rw [if_neg (by rw [no_any k HN.out]; simp)] at hck
          have HC := Lib.hid hck
          clear hck
          go_wp2_with (fail)
          go_ret2
          exact ⟨ret_pairp HC.out, HBB.out⟩
#print axioms refCheck_any
end Go.Proofs.YtkmncmceheggjaaDoor
