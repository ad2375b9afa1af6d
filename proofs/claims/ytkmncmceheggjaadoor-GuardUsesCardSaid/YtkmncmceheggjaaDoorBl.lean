/- GuardBlanks: blanks more between words, and at both ends, change nothing of what a guard is. -/
import Derived.Test.YtkmncmceheggjaaDoorRt
import Derived.Test.YtkmncmceheggjaaDoorGn
import Derived.Deep.CutBlock
import Derived.Deep.DeepCutAuto
set_option linter.unusedVariables false
set_option linter.unusedSimpArgs false
namespace Go.Proofs.YtkmncmceheggjaaDoor
open Go.RowKit Go.Ev

/-- each blank three times -/
def spreadL (l : List UInt8) : List UInt8 := l.flatMap fun c => if c = 32 then [32, 32, 32] else [c]
theorem spread_len (l : List UInt8) : (spreadL l).length ≤ 3 * l.length := by
  induction l with
  | nil => simp [spreadL]
  | cons c l ih =>
    have e : spreadL (c :: l) = (if c = 32 then [32, 32, 32] else [c]) ++ spreadL l := by unfold spreadL; rw [List.flatMap_cons]
    rw [e, List.length_append, List.length_cons]
    split
    · show 3 + _ ≤ _; omega
    · show 1 + _ ≤ _; omega
theorem spread_cons (c : UInt8) (l : List UInt8) : spreadL (c :: l) = (if c = 32 then [32, 32, 32] else [c]) ++ spreadL l := by unfold spreadL; rw [List.flatMap_cons]
theorem spread_app (a b : List UInt8) : spreadL (a ++ b) = spreadL a ++ spreadL b := by unfold spreadL; rw [List.flatMap_append]
theorem tk_spread : ∀ (l : List UInt8), tkG (spreadL l ++ [32]) none = tkG l none ∧ ∀ w, tkG (spreadL l ++ [32]) (some w) = tkG l (some w)
  | [] => ⟨by simp [spreadL, tkG], fun w => by simp [spreadL, tkG]⟩
  | c :: l => by
    obtain ⟨h1, h2⟩ := tk_spread l
    rw [spread_cons]
    by_cases h : c = 32
    · rw [if_pos h]
      refine ⟨?_, fun w => ?_⟩
      · show tkG (32 :: 32 :: 32 :: (spreadL l ++ [32])) none = _
        simp only [tkG, if_true, h]
        exact h1
      · show tkG (32 :: 32 :: 32 :: (spreadL l ++ [32])) (some w) = _
        simp only [tkG, if_true, h]
        rw [h1]
    · rw [if_neg h]
      refine ⟨?_, fun w => ?_⟩
      · show tkG (c :: (spreadL l ++ [32])) none = _
        simp only [tkG, if_neg h]
        exact h2 _
      · show tkG (c :: (spreadL l ++ [32])) (some w) = _
        simp only [tkG, if_neg h]
        exact h2 _
theorem toks_spread (l : List UInt8) : toksL ([32, 32] ++ spreadL l ++ [32]) = toksL l := by
  unfold toksL
  show tkG (32 :: 32 :: (spreadL l ++ [32])) none = _
  simp only [tkG, if_true]
  exact (tk_spread l).1
theorem take_snoc (s : ByteArray) (k : Nat) (h : k < s.size) : s.toList.take (k + 1) = s.toList.take k ++ [s[k]] := by
  have hl := bytes_len s
  rw [List.take_add_one, List.getElem?_eq_getElem (by omega), bytes_get s k h]; rfl
theorem ext_one (s : ByteArray) (k : Nat) (h : k < s.size) : (s.extract k (k + 1)).toList = [s[k]] := by
  rw [extract_toList, drop_get s k h, show k + 1 - k = 1 by omega]
  rfl
theorem tl_app (a b : ByteArray) : (a ++ b).toList = a.toList ++ b.toList := by
  rw [ByteArray.toList_eq, ByteArray.toList_eq, ByteArray.toList_eq, ByteArray.data_append, Array.toList_append]
theorem spread_next {s tB : ByteArray} {k : Nat} (h : k < s.size) (h3 : ¬ s[k] = 32) (ht : tB.toList = [32, 32] ++ spreadL (s.toList.take k)) : (tB ++ s.extract k (k + 1)).toList = [32, 32] ++ spreadL (s.toList.take (k + 1)) := by
  rw [tl_app, ht, ext_one s k h, take_snoc s k h, spread_app, List.append_assoc]
  simp [spreadL, h3]
theorem spread_next' {s tB : ByteArray} {k : Nat} (h : k < s.size) (h3 : s[k] = 32) (ht : tB.toList = [32, 32] ++ spreadL (s.toList.take k)) : (tB ++ s.extract k (k + 1) ++ ⟨#[32, 32]⟩).toList = [32, 32] ++ spreadL (s.toList.take (k + 1)) := by
  rw [tl_app, tl_app, ht, ext_one s k h, take_snoc s k h, spread_app, ByteArray.toList_mk, List.append_assoc, List.append_assoc]
  simp [spreadL, h3]

/-- names lie where they lay -/
def Nms (w : World) (W : World) : Prop := Strs W (some ⟨w.heap.size, 0, none⟩) 2 xyL ∧ Below w.heap.size w W ∧ w.heap.size + 1 ≤ W.heap.size
theorem Nms.below {w : World} {W W' : World} (h : Nms w W) (hb : Below W.heap.size W W') : Nms w W' :=
  ⟨h.1.below hb, h.2.1.trans (hb.mono h.2.1.size), Nat.le_trans h.2.2 hb.size⟩
theorem Nms.grown {w : World} {W W' : World} {B : Nat} (h : Nms w W) (hB : w.heap.size + 1 ≤ B) (hg : W.grownBy W' (some B)) : Nms w W' := by
  obtain ⟨⟨n1, h1⟩, h3, h4⟩ := h
  refine ⟨⟨n1, ?_⟩, h3.grown hg (Nat.le_trans (by omega) h4) (fun g e => by have e' : B = g := Option.some.inj e; omega), Nat.le_trans h4 hg.size⟩
  · rcases h1 with h0 | ⟨b, o, ha, hlt, hs⟩
    · exact .inl h0
    · cases ha
      exact .inr ⟨_, _, rfl, Nat.lt_of_lt_of_le hlt hg.size, fun j hj => (hg.cell_far ⟨w.heap.size, 0 + j, none⟩ hlt (fun e => by have e' : w.heap.size = B := Option.some.inj e; omega)).trans (hs j hj)⟩
theorem nms_new (w : World) : Nms w ((w.alloc (.cells #[.string ⟨#[120]⟩, .string ⟨#[121]⟩] 9)).alloc (.cells #[.int .i64 0] 3)) := by
  have b1 : Below w.heap.size w (w.alloc (.cells #[.string ⟨#[120]⟩, .string ⟨#[121]⟩] 9)) := (Below.refl _ _).alloc (Nat.le_refl _) _
  have s1 : (w.alloc (.cells #[.string ⟨#[120]⟩, .string ⟨#[121]⟩] 9)).heap.size = w.heap.size + 1 := by simp
  have n1 := heap_alloc_new w (.cells #[.string ⟨#[120]⟩, .string ⟨#[121]⟩] 9)
  generalize w.alloc (.cells #[.string ⟨#[120]⟩, .string ⟨#[121]⟩] 9) = W1 at *
  have b3 : Below W1.heap.size W1 (W1.alloc (.cells #[.int .i64 0] 3)) := (Below.refl _ _).alloc (Nat.le_refl _) _
  have s3 : (W1.alloc (.cells #[.int .i64 0] 3)).heap.size = W1.heap.size + 1 := by simp
  generalize W1.alloc (.cells #[.int .i64 0] 3) = W3 at *
  have n1' : W3.heap[w.heap.size]? = _ := (b3.block w.heap.size (by omega)).trans n1
  refine ⟨⟨rfl, .inr ⟨_, _, rfl, by omega, fun j hj => ?_⟩⟩, b1.trans (b3.mono (by omega)), by omega⟩
  · rw [Lib.cell_of_heap n1']
    have : j = 0 ∨ j = 1 := by simp [xyL] at hj; omega
    rcases this with rfl | rfl <;> rfl
theorem boxN_new (w : World) : ((w.alloc (.cells #[.string ⟨#[120]⟩, .string ⟨#[121]⟩] 9)).alloc (.cells #[.int .i64 0] 3)).heap[w.heap.size + 1]? = some (.cells (boxC 0) 3 (0, 0)) := by
  have := heap_alloc_new (w.alloc (.cells #[.string ⟨#[120]⟩, .string ⟨#[121]⟩] 9)) (.cells #[.int .i64 0] 3)
  simp only [World.size_alloc] at this
  exact this
theorem ints_lit (W : World) (x y : Int) : Ints (W.alloc (.cells #[.int .i64 x, .int .i64 y] 3)) (some ⟨W.heap.size, 0, none⟩) 2 [x, y] := by
  refine ⟨rfl, .inr ⟨_, _, rfl, by simp, fun j hj => ?_⟩⟩
  rw [Lib.cell_of_heap (heap_alloc_new W _)]
  have : j = 0 ∨ j = 1 := by simp at hj; omega
  rcases this with rfl | rfl <;> rfl

set_option maxHeartbeats 8000000 in
set_option maxRecDepth 100000 in
theorem guardBlanks_cut (a : Option Addr) (n c : Nat) (l : List Int) (x y : Int) (w : World) (hn : n ≤ maxLen) (hI : Ints w a n l) :
    Calls Tryd.prog 7 #[.slice a n c, .int .i64 x, .int .i64 y] w fun e w' => e = .returned (.bool true) ∧ Below w.heap.size w w' := by
  have HI := Lib.hid hI; clear hI
  go_enter Tryd.func7, Tryd.ntmps7
  go_wp2_with (fail)
  have HE0 := Lib.hid (nms_new w)
  have HX0 := Lib.hid (boxN_new w)
  generalize ((w.alloc (.cells #[.string ⟨#[120]⟩, .string ⟨#[121]⟩] 9)).alloc (.cells #[.int .i64 0] 3)) = W0 at *
  have hI0 := ints_below (B := w.heap.size + 1) HI.out HE0.out.2.1 (by omega)
  have HIB := Lib.hid hI0
  have hl0 : w.heap.size + 1 < W0.heap.size := (Array.getElem?_eq_some_iff.1 HX0.out).1
  clear hI0
  refine (made_any a n c (w.heap.size + 1) l hn 3 (by omega) 0 W0 (by omega) HX0.out HIB.out).mono ?_
  rintro e w1 ⟨p, rfl, hpd, hpo, ⟨k1, hk1, hX1⟩, hg1⟩
  have HE1 := Lib.hid (HE0.out.grown (B := w.heap.size + 1) (by omega) hg1)
  have hpz : (S p.text).size ≤ 51 := by
    have h1 := text_len p
    have h2 : 2 ^ p.deep ≤ 2 ^ 3 := Nat.pow_le_pow_right (by omega) hpd
    rw [S_size]
    omega
  obtain ⟨s, hs⟩ : ∃ s, S p.text = s := ⟨_, rfl⟩
  have hsl : s.toList = p.text := by rw [← hs, S_toList]
  rw [hs] at hpz ⊢
  have HSl := Lib.hid hsl
  have HP := Lib.hid (And.intro hpd hpo)
  clear hX1 hg1 hk1 HIB HX0 HE0 hl0 hsl hs hpd hpo
  go_wp2_with (fail)
  go_loopw [10, 11] (fun tv iv wr => ∃ (k : Nat) (tB : ByteArray), tv = .string tB ∧ iv = .int .i64 k ∧ k ≤ s.size ∧ tB.size ≤ 2 + 3 * k ∧ Hid (tB.toList = [32, 32] ++ spreadL (s.toList.take k)) ∧ wr = w1) (fun _ iv _ => s.size - (intOf iv).toNat)
  case atStart => exact ⟨0, ⟨#[32, 32]⟩, rfl, rfl, by omega, Nat.le_refl _, Lib.hid (by rw [ByteArray.toList_mk]; rfl), rfl⟩
  case round =>
    obtain ⟨k, tB, rfl, rfl, hk, htk, HT, hwr⟩ := hrel
    obtain rfl : wr = w1 := hwr
    by_cases hlt : k < s.size
    · have hkB : decide ((k : Int) < (s.size : Int)) = true := by simp; omega
      have hexs : (s.extract k (k + 1)).size = 1 := by rw [← bytes_len, ext_one s k hlt]; rfl
      have HX := Lib.hid hexs
      by_cases h32 : s[k] = 32
      · have hB : ((s[k].toNat : Int) == 32) = true := by rw [h32]; rfl
        have hnx := spread_next' hlt h32 HT.out
        have hsz : (tB ++ s.extract k (k + 1) ++ ⟨#[32, 32]⟩).size ≤ 2 + 3 * (k + 1) := by
          rw [ByteArray.size_append, ByteArray.size_append, hexs]
          show tB.size + 1 + 2 ≤ _
          omega
        have HN := Lib.hid hnx
        have HZ := Lib.hid hsz
        clear hnx hsz h32 hexs
        go_wp2_with (fail)
        go_roundw
        case rel => exact ⟨k + 1, _, rfl, by simp, by omega, HZ.out, HN, trivial⟩
        case measure => simp [intOf]; omega
      · have hB : ((s[k].toNat : Int) == 32) = false := by
          apply Bool.eq_false_iff.mpr; intro h
          have := eq_of_beq h
          exact h32 (UInt8.toNat.inj (by simpa using (by omega : s[k].toNat = 32)))
        have hnx := spread_next hlt h32 HT.out
        have hsz : (tB ++ s.extract k (k + 1)).size ≤ 2 + 3 * (k + 1) := by
          rw [ByteArray.size_append, hexs]
          omega
        have HN := Lib.hid hnx
        have HZ := Lib.hid hsz
        clear hnx hsz h32 hexs
        go_wp2_with (fail)
        go_roundw
        case rel => exact ⟨k + 1, _, rfl, by simp, by omega, HZ.out, HN, trivial⟩
        case measure => simp [intOf]; omega
    · obtain rfl : k = s.size := by omega
      have htl : (tB ++ ⟨#[32]⟩).toList = [32, 32] ++ spreadL s.toList ++ [32] := by
        rw [tl_app, HT.out, show (⟨#[32]⟩ : ByteArray).toList = [32] from ByteArray.toList_mk _, List.take_of_length_le (by have := bytes_len s; omega)]
      have htz : (tB ++ ⟨#[32]⟩).size ≤ 200 := by
        rw [ByteArray.size_append]
        show tB.size + 1 ≤ _
        omega
      go_wp2_with (fail)
      · refine (known_walk wr).mono ?_
        rintro e w12 ⟨rfl, hb⟩
        have HB := Lib.hid (HE1.out.2.1.trans (hb.mono HE1.out.2.1.size))
        clear hb
        go_wp2_with (fail)
        go_ret
        exact ⟨rfl, HB.out⟩
      · have hT120 : (tB ++ ⟨#[32]⟩ : ByteArray).size ≤ 120 := by
          rw [ByteArray.size_append]
          show tB.size + 1 ≤ _
          omega
        generalize (tB ++ ⟨#[32]⟩ : ByteArray) = T at *
        have hpt : toksL s.toList = p.toks := by rw [HSl.out]; exact toks_text HP.out.2
        have hTt : toksL T.toList = p.toks := by rw [htl, toks_spread, hpt]
        have hev : ∀ st : ByteArray, st.size ≤ 120 → toksL st.toList = p.toks → evalP xyL [x, y] st.toList = (p.val xyL [x, y], 0) := fun st h1 h2 =>
          eval_tree (by rw [bytes_len]; exact h1) h2 HP.out.2 (named_of xy_has.1 xy_has.2 p HP.out.2) (by have := HP.out.1; omega) (by show 2 ≤ 2; omega)
        have hus : usesL T.toList = usesL s.toList := by rw [uses_tree hTt, uses_tree hpt]
        have he1 := hev s (by omega) hpt
        have he2 := hev T hT120 hTt
        obtain ⟨v, hv⟩ : ∃ v, p.val xyL [x, y] = v := ⟨_, rfl⟩
        rw [hv] at he1 he2
        have HV1 := Lib.hid he1
        have HV2 := Lib.hid he2
        have HUS := Lib.hid hus
        have hY : ∀ W : World, Below W.heap.size W (W.alloc (.cells #[.int .i64 x, .int .i64 y] 3)) := fun W => (Below.refl _ _).alloc (Nat.le_refl _) _
        have HY := Lib.hid hY
        have HE2 := Lib.hid (HE1.out.below (hY _))
        clear htl htz hpt hTt hev hus he1 he2 hv hY HT htk hlt
        refine (eval_any s (some ⟨w.heap.size, 0, none⟩) 2 2 xyL (some ⟨wr.heap.size, 0, none⟩) 2 2 [x, y] _ (by omega) (by omega) HE2.out.1 (ints_lit wr x y)).mono ?_
        rintro e w3 ⟨rfl, hb⟩
        have HE3 := Lib.hid (HE2.out.below hb)
        clear hb
        rw [HV1.out]
        go_wp2_with (fail)
        have HE4 := Lib.hid (HE3.out.below (HY.out w3))
        refine (eval_any T (some ⟨w.heap.size, 0, none⟩) 2 2 xyL (some ⟨w3.heap.size, 0, none⟩) 2 2 [x, y] _ (by omega) (by omega) HE4.out.1 (ints_lit w3 x y)).mono ?_
        rintro e w5 ⟨rfl, hb⟩
        have HE5 := Lib.hid (HE4.out.below hb)
        clear hb
        rw [HV2.out]
        go_wp2_with (fail)
        have hB5 := HE5.out.2.1
        have hT32 : T.size ≤ 4294967296 := by omega
        refine (uses_any s w5 (by omega)).mono ?_
        rintro e w6 ⟨⟨ua, uc, rfl, hu6⟩, hb6⟩
        have HB6 := Lib.hid (hB5.trans (hb6.mono hB5.size))
        have HU6 := Lib.hid hu6
        clear hb6 hu6 hB5
        go_wp2_with (fail)
        refine (uses_any T w6 hT32).mono ?_
        rintro e w7 ⟨⟨ta, tc, rfl, hu7⟩, hb7⟩
        rw [HUS.out] at hu7 ⊢
        have HB7 := Lib.hid (HB6.out.trans (hb7.mono HB6.out.size))
        have HU7 := Lib.hid hu7
        have HU6' := Lib.hid (HU6.out.below hb7)
        clear hb7 hu7
        have hun : (usesL s.toList).length ≤ 4294967296 := by
          have h1 : (usesL s.toList).length ≤ s.toList.length := by
            unfold usesL
            have h2 := compact_len ((namesW (wordsL s.toList)).mergeSort fun x y => decide (x ≤ y))
            have h3 := namesW_len (wordsL s.toList)
            have h4 := words_len s.toList
            rw [List.length_mergeSort] at h2
            omega
          rw [bytes_len] at h1
          omega
        obtain ⟨us, hus⟩ : ∃ us, usesL s.toList = us := ⟨_, rfl⟩
        rw [hus] at HU6' HU7 hun ⊢
        clear hus HUS HU6
        go_wp2_with (fail)
        refine (keepTexts_any ua ta us.length uc tc (us.map S) w7 HU6'.out HU7.out hun).mono ?_
        rintro e w8 ⟨rfl, hb⟩
        have HB8 := Lib.hid (HB7.out.trans (hb.mono HB7.out.size))
        clear hb
        go_wp2_with (fail)
        refine (known_walk w8).mono ?_
        rintro e w9 ⟨rfl, hb⟩
        have HB9 := Lib.hid (HB8.out.trans (hb.mono HB8.out.size))
        clear hb
        go_wp2_with (fail)
        go_ret
        exact ⟨rfl, HB9.out⟩
#print axioms guardBlanks_cut
end Go.Proofs.YtkmncmceheggjaaDoor
