/- GuardUses: a guard hangs on the names alone that it uses. -/
import Derived.Test.YtkmncmceheggjaaDoorUp
import Derived.Test.YtkmncmceheggjaaDoorBl
set_option linter.unusedVariables false
set_option linter.unusedSimpArgs false
namespace Go.Proofs.YtkmncmceheggjaaDoor
open Go.RowKit Go.Ev

def xyzCells : Array Value := #[.string ⟨#[120]⟩, .string ⟨#[121]⟩, .string ⟨#[122]⟩]
/-- names lie where they lay -/
def Nm3 (w : World) (W : World) : Prop := Strs W (some ⟨w.heap.size, 0, none⟩) 3 xyzL ∧ Below w.heap.size w W ∧ w.heap.size + 1 ≤ W.heap.size
theorem Nm3.below {w : World} {W W' : World} (h : Nm3 w W) (hb : Below W.heap.size W W') : Nm3 w W' :=
  ⟨h.1.below hb, h.2.1.trans (hb.mono h.2.1.size), Nat.le_trans h.2.2 hb.size⟩
theorem Nm3.grown {w : World} {W W' : World} {B : Nat} (h : Nm3 w W) (hB : w.heap.size + 1 ≤ B) (hg : W.grownBy W' (some B)) : Nm3 w W' := by
  obtain ⟨⟨n1, h1⟩, h3, h4⟩ := h
  refine ⟨⟨n1, ?_⟩, h3.grown hg (Nat.le_trans (by omega) h4) (fun g e => by have e' : B = g := Option.some.inj e; omega), Nat.le_trans h4 hg.size⟩
  · rcases h1 with h0 | ⟨b, o, ha, hlt, hs⟩
    · exact .inl h0
    · cases ha
      exact .inr ⟨_, _, rfl, Nat.lt_of_lt_of_le hlt hg.size, fun j hj => (hg.cell_far ⟨w.heap.size, 0 + j, none⟩ hlt (fun e => by have e' : w.heap.size = B := Option.some.inj e; omega)).trans (hs j hj)⟩
theorem nm3_new (w : World) : Nm3 w ((w.alloc (.cells #[.string ⟨#[120]⟩, .string ⟨#[121]⟩, .string ⟨#[122]⟩] 9)).alloc (.cells #[.int .i64 0] 3)) := by
  have b1 : Below w.heap.size w (w.alloc (.cells #[.string ⟨#[120]⟩, .string ⟨#[121]⟩, .string ⟨#[122]⟩] 9)) := (Below.refl _ _).alloc (Nat.le_refl _) _
  have s1 : (w.alloc (.cells #[.string ⟨#[120]⟩, .string ⟨#[121]⟩, .string ⟨#[122]⟩] 9)).heap.size = w.heap.size + 1 := by simp
  have n1 := heap_alloc_new w (.cells #[.string ⟨#[120]⟩, .string ⟨#[121]⟩, .string ⟨#[122]⟩] 9)
  generalize w.alloc (.cells #[.string ⟨#[120]⟩, .string ⟨#[121]⟩, .string ⟨#[122]⟩] 9) = W1 at *
  have b3 : Below W1.heap.size W1 (W1.alloc (.cells #[.int .i64 0] 3)) := (Below.refl _ _).alloc (Nat.le_refl _) _
  have s3 : (W1.alloc (.cells #[.int .i64 0] 3)).heap.size = W1.heap.size + 1 := by simp
  generalize W1.alloc (.cells #[.int .i64 0] 3) = W3 at *
  have n1' : W3.heap[w.heap.size]? = _ := (b3.block w.heap.size (by omega)).trans n1
  refine ⟨⟨rfl, .inr ⟨_, _, rfl, by omega, fun j hj => ?_⟩⟩, b1.trans (b3.mono (by omega)), by omega⟩
  · rw [Lib.cell_of_heap n1']
    have : j = 0 ∨ j = 1 ∨ j = 2 := by simp [xyzL] at hj; omega
    rcases this with rfl | rfl | rfl <;> rfl
theorem box3_new (w : World) : ((w.alloc (.cells #[.string ⟨#[120]⟩, .string ⟨#[121]⟩, .string ⟨#[122]⟩] 9)).alloc (.cells #[.int .i64 0] 3)).heap[w.heap.size + 1]? = some (.cells (boxC 0) 3 (0, 0)) := by
  have := heap_alloc_new (w.alloc (.cells #[.string ⟨#[120]⟩, .string ⟨#[121]⟩, .string ⟨#[122]⟩] 9)) (.cells #[.int .i64 0] 3)
  simp only [World.size_alloc] at this
  exact this
theorem ints3_lit (W : World) (x y z : Int) : Ints (W.alloc (.cells #[.int .i64 x, .int .i64 y, .int .i64 z] 3)) (some ⟨W.heap.size, 0, none⟩) 3 [x, y, z] := by
  refine ⟨rfl, .inr ⟨_, _, rfl, by simp, fun j hj => ?_⟩⟩
  rw [Lib.cell_of_heap (heap_alloc_new W _)]
  have : j = 0 ∨ j = 1 ∨ j = 2 := by simp at hj; omega
  rcases this with rfl | rfl | rfl <;> rfl
theorem toL_x : (⟨#[120]⟩ : ByteArray).toList = [120] := ByteArray.toList_mk _
theorem toL_y : (⟨#[121]⟩ : ByteArray).toList = [121] := ByteArray.toList_mk _

set_option maxHeartbeats 8000000 in
set_option maxRecDepth 100000 in
theorem guardUses_cut (a : Option Addr) (n c : Nat) (l : List Int) (x y z : Int) (w : World) (hn : n ≤ maxLen) (hI : Ints w a n l) :
    Calls Tryd.prog 6 #[.slice a n c, .int .i64 x, .int .i64 y, .int .i64 z] w fun e w' => e = .returned (.bool true) ∧ Below w.heap.size w w' := by
  have HI := Lib.hid hI; clear hI
  go_enter Tryd.func6, Tryd.ntmps6
  go_wp2_with (fail)
  have HE0 := Lib.hid (nm3_new w)
  have HX0 := Lib.hid (box3_new w)
  generalize ((w.alloc (.cells #[.string ⟨#[120]⟩, .string ⟨#[121]⟩, .string ⟨#[122]⟩] 9)).alloc (.cells #[.int .i64 0] 3)) = W0 at *
  have hI0 := ints_below (B := w.heap.size + 1) HI.out HE0.out.2.1 (by omega)
  have HIB := Lib.hid hI0
  have hl0 : w.heap.size + 1 < W0.heap.size := (Array.getElem?_eq_some_iff.1 HX0.out).1
  clear hI0
  refine (made_any a n c (w.heap.size + 1) l hn 3 (by omega) 0 W0 (by omega) HX0.out HIB.out).mono ?_
  rintro e w1 ⟨p, rfl, hpd, hpo, ⟨k1, hk1, hX1⟩, hg1⟩
  have HE1 := Lib.hid (HE0.out.grown (B := w.heap.size + 1) (by omega) hg1)
  have hpz : (S p.text).size ≤ 51 := by
    have h1 := text_len p
    have h2 : 2 ^ p.deep ≤ 2 ^ 3 := Nat.pow_le_pow_right (by omega) hpd
    rw [S_size]
    omega
  obtain ⟨s, hs⟩ : ∃ s, S p.text = s := ⟨_, rfl⟩
  have hpt : toksL s.toList = p.toks := by rw [← hs, S_toList]; exact toks_text hpo
  rw [hs] at hpz ⊢
  have HTt := Lib.hid hpt
  have HP := Lib.hid (And.intro hpd hpo)
  have hev : ∀ p' q' r' : Int, evalP xyzL [p', q', r'] s.toList = (p.val xyzL [p', q', r'], 0) := fun p' q' r' => uses_eval (by omega) hpt hpo (by omega)
  have HEv := Lib.hid hev
  have HChk := Lib.hid (uses_check (by omega) hpt hpo (by omega) : checkP ((usesL s.toList).map S) s.toList = (0, 0))
  have hY : ∀ (W : World) (p' q' r' : Int), Below W.heap.size W (W.alloc (.cells #[.int .i64 p', .int .i64 q', .int .i64 r'] 3)) := fun W p' q' r' => (Below.refl _ _).alloc (Nat.le_refl _) _
  have HY := Lib.hid hY
  have hfour := uses_four hpt hpo
  have HFour := Lib.hid hfour
  clear hX1 hg1 hk1 HIB HX0 HE0 hl0 hs hpd hpo hpt hev hY hfour
  obtain ⟨X, hX⟩ : ∃ X : Int, x.tmod 50 = X := ⟨_, rfl⟩
  obtain ⟨Y, hY⟩ : ∃ Y : Int, y.tmod 50 = Y := ⟨_, rfl⟩
  obtain ⟨Z, hZ⟩ : ∃ Z : Int, z.tmod 50 = Z := ⟨_, rfl⟩
  go_wp2_with (fail)
  have HE2 := Lib.hid (HE1.out.below (HY.out w1 X Y 0))
  refine (eval_any s (some ⟨w.heap.size, 0, none⟩) 3 3 xyzL (some ⟨w1.heap.size, 0, none⟩) 3 3 [X, Y, 0] _ (by omega) (by omega) HE2.out.1 (ints3_lit w1 X Y 0)).mono ?_
  rintro e w3 ⟨rfl, hb⟩
  have HE3 := Lib.hid (HE2.out.below hb)
  clear hb
  rw [HEv.out]
  obtain ⟨v, hv⟩ : ∃ v, p.val xyzL [X, Y, 0] = v := ⟨_, rfl⟩
  have HV := Lib.hid hv
  rw [hv]
  clear hv
  go_wp2_with (fail)
  refine (uses_any s w3 (by omega)).mono ?_
  rintro e w4 ⟨⟨ua, uc, rfl, hu⟩, hb⟩
  have HE4 := Lib.hid (HE3.out.below hb)
  have HU := Lib.hid hu
  clear hb hu
  rcases HFour.out with h4 | h4 | h4 | h4
  · have HUs := Lib.hid h4
    have hval : p.val xyzL [Z, Z, Z] = v := by
      rw [← HV.out]
      refine uses_val HTt.out HP.out.2 (fun hm => ?_) (fun hm => ?_)
      · rw [h4] at hm; simp at hm
      · rw [h4] at hm; simp at hm
    have HVal := Lib.hid hval
    have HU2 := HU
    rw [h4] at HU2 ⊢
    clear h4 hval
    simp only [List.length_nil, List.length_cons, List.length_singleton]
    go_wp2_with (fail)
    have HE5 := Lib.hid (HE4.out.below (HY.out w4 Z Z Z))
    refine (eval_any s (some ⟨w.heap.size, 0, none⟩) 3 3 xyzL (some ⟨w4.heap.size, 0, none⟩) 3 3 [Z, Z, Z] _ (by omega) (by omega) HE5.out.1 (ints3_lit w4 Z Z Z)).mono ?_
    rintro e w5 ⟨rfl, hb⟩
    have HE6 := Lib.hid (HE5.out.below hb)
    have hb45 : Below w4.heap.size w4 w5 := (HY.out w4 Z Z Z).trans (hb.mono (HY.out w4 Z Z Z).size)
    have HU5 := Lib.hid (HU.out.below hb45)
    rw [HUs.out] at HU5
    clear hb hb45
    rw [HEv.out, HVal.out]
    go_wp2_with (fail)
    have hck := HChk.out
    rw [HUs.out] at hck
    refine (check_any s _ 0 uc (([] : List Str).map S) w5 (by omega) HU5.out).mono ?_
    rw [hck]
    rintro e w6 ⟨rfl, hb⟩
    have HE7 := Lib.hid (HE6.out.below hb)
    clear hb hck
    go_wp2_with (fail)
    refine (known_walk w6).mono ?_
    rintro e w7 ⟨rfl, hb⟩
    have HB := Lib.hid (HE7.out.2.1.trans (hb.mono HE7.out.2.1.size))
    clear hb
    go_wp2_with (fail)
    go_ret
    exact ⟨rfl, HB.out⟩
  · have HUs := Lib.hid h4
    have hval : p.val xyzL [X, Z, Z] = v := by
      rw [← HV.out]
      refine uses_val HTt.out HP.out.2 (fun hm => ?_) (fun hm => ?_)
      · rfl
      · rw [h4] at hm; simp at hm
    have HVal := Lib.hid hval
    have HU2 := HU
    rw [h4] at HU2 ⊢
    clear h4 hval
    obtain ⟨_, hu0 | ⟨ub, uo, rfl, hub, hucells⟩⟩ := HU2.out
    · exact absurd hu0 (by decide)
    have hc0 : w4.cell? ⟨ub, uo, none⟩ = some (.string ⟨#[120]⟩) := hucells 0 (by simp)
    clear hucells HU2
    simp only [List.length_nil, List.length_cons, List.length_singleton]
    go_wp2_with (fail)
    have HE5 := Lib.hid (HE4.out.below (HY.out w4 X Z Z))
    refine (eval_any s (some ⟨w.heap.size, 0, none⟩) 3 3 xyzL (some ⟨w4.heap.size, 0, none⟩) 3 3 [X, Z, Z] _ (by omega) (by omega) HE5.out.1 (ints3_lit w4 X Z Z)).mono ?_
    rintro e w5 ⟨rfl, hb⟩
    have HE6 := Lib.hid (HE5.out.below hb)
    have hb45 : Below w4.heap.size w4 w5 := (HY.out w4 X Z Z).trans (hb.mono (HY.out w4 X Z Z).size)
    have HU5 := Lib.hid (HU.out.below hb45)
    rw [HUs.out] at HU5
    clear hb hb45
    rw [HEv.out, HVal.out]
    go_wp2_with (fail)
    have hck := HChk.out
    rw [HUs.out] at hck
    refine (check_any s _ 1 uc ([[120]].map S) w5 (by omega) HU5.out).mono ?_
    rw [hck]
    rintro e w6 ⟨rfl, hb⟩
    have HE7 := Lib.hid (HE6.out.below hb)
    clear hb hck
    go_wp2_with (fail)
    refine (known_walk w6).mono ?_
    rintro e w7 ⟨rfl, hb⟩
    have HB := Lib.hid (HE7.out.2.1.trans (hb.mono HE7.out.2.1.size))
    clear hb
    go_wp2_with (fail)
    go_ret
    exact ⟨rfl, HB.out⟩
  · have HUs := Lib.hid h4
    have hval : p.val xyzL [Z, Y, Z] = v := by
      rw [← HV.out]
      refine uses_val HTt.out HP.out.2 (fun hm => ?_) (fun hm => ?_)
      · rw [h4] at hm; simp at hm
      · rfl
    have HVal := Lib.hid hval
    have HU2 := HU
    rw [h4] at HU2 ⊢
    clear h4 hval
    obtain ⟨_, hu0 | ⟨ub, uo, rfl, hub, hucells⟩⟩ := HU2.out
    · exact absurd hu0 (by decide)
    have hc0 : w4.cell? ⟨ub, uo, none⟩ = some (.string ⟨#[121]⟩) := hucells 0 (by simp)
    clear hucells HU2
    simp only [List.length_nil, List.length_cons, List.length_singleton]
    go_wp2_with (fail)
    have HE5 := Lib.hid (HE4.out.below (HY.out w4 Z Y Z))
    refine (eval_any s (some ⟨w.heap.size, 0, none⟩) 3 3 xyzL (some ⟨w4.heap.size, 0, none⟩) 3 3 [Z, Y, Z] _ (by omega) (by omega) HE5.out.1 (ints3_lit w4 Z Y Z)).mono ?_
    rintro e w5 ⟨rfl, hb⟩
    have HE6 := Lib.hid (HE5.out.below hb)
    have hb45 : Below w4.heap.size w4 w5 := (HY.out w4 Z Y Z).trans (hb.mono (HY.out w4 Z Y Z).size)
    have HU5 := Lib.hid (HU.out.below hb45)
    rw [HUs.out] at HU5
    clear hb hb45
    rw [HEv.out, HVal.out]
    go_wp2_with (fail)
    have hck := HChk.out
    rw [HUs.out] at hck
    refine (check_any s _ 1 uc ([[121]].map S) w5 (by omega) HU5.out).mono ?_
    rw [hck]
    rintro e w6 ⟨rfl, hb⟩
    have HE7 := Lib.hid (HE6.out.below hb)
    clear hb hck
    go_wp2_with (fail)
    refine (known_walk w6).mono ?_
    rintro e w7 ⟨rfl, hb⟩
    have HB := Lib.hid (HE7.out.2.1.trans (hb.mono HE7.out.2.1.size))
    clear hb
    go_wp2_with (fail)
    go_ret
    exact ⟨rfl, HB.out⟩
  · have HUs := Lib.hid h4
    have hval : p.val xyzL [X, Y, Z] = v := by
      rw [← HV.out]
      refine uses_val HTt.out HP.out.2 (fun hm => ?_) (fun hm => ?_)
      · rfl
      · rfl
    have HVal := Lib.hid hval
    have HU2 := HU
    rw [h4] at HU2 ⊢
    clear h4 hval
    obtain ⟨_, hu0 | ⟨ub, uo, rfl, hub, hucells⟩⟩ := HU2.out
    · exact absurd hu0 (by decide)
    have hc0 : w4.cell? ⟨ub, uo, none⟩ = some (.string ⟨#[120]⟩) := hucells 0 (by simp)
    have hc1 : w4.cell? ⟨ub, uo + 1, none⟩ = some (.string ⟨#[121]⟩) := hucells 1 (by simp)
    clear hucells HU2
    simp only [List.length_nil, List.length_cons, List.length_singleton]
    go_wp2_with (fail)
    have HE5 := Lib.hid (HE4.out.below (HY.out w4 X Y Z))
    refine (eval_any s (some ⟨w.heap.size, 0, none⟩) 3 3 xyzL (some ⟨w4.heap.size, 0, none⟩) 3 3 [X, Y, Z] _ (by omega) (by omega) HE5.out.1 (ints3_lit w4 X Y Z)).mono ?_
    rintro e w5 ⟨rfl, hb⟩
    have HE6 := Lib.hid (HE5.out.below hb)
    have hb45 : Below w4.heap.size w4 w5 := (HY.out w4 X Y Z).trans (hb.mono (HY.out w4 X Y Z).size)
    have HU5 := Lib.hid (HU.out.below hb45)
    rw [HUs.out] at HU5
    clear hb hb45
    rw [HEv.out, HVal.out]
    go_wp2_with (fail)
    have hck := HChk.out
    rw [HUs.out] at hck
    refine (check_any s _ 2 uc ([[120], [121]].map S) w5 (by omega) HU5.out).mono ?_
    rw [hck]
    rintro e w6 ⟨rfl, hb⟩
    have HE7 := Lib.hid (HE6.out.below hb)
    clear hb hck
    go_wp2_with (fail)
    refine (known_walk w6).mono ?_
    rintro e w7 ⟨rfl, hb⟩
    have HB := Lib.hid (HE7.out.2.1.trans (hb.mono HE7.out.2.1.size))
    clear hb
    go_wp2_with (fail)
    go_ret
    exact ⟨rfl, HB.out⟩
#print axioms guardUses_cut
end Go.Proofs.YtkmncmceheggjaaDoor
