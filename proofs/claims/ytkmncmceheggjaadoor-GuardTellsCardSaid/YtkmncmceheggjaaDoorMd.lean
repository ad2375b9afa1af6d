/- conclavelaw12.made: guards of numbers, no deeper than so many operations. -/
import Derived.Test.YtkmncmceheggjaaDoorGj
import Derived.Deep.RegionWith
import Derived.Lib.Hide
import Derived.Deep.CutBlock
import Derived.Deep.DeepCutAuto
set_option linter.unusedVariables false
set_option linter.unusedSimpArgs false
namespace Go.Proofs.YtkmncmceheggjaaDoor
open Go.RowKit

/-- a number brought within bounds -/
def inB (n lo hi : Int) : Int := if n.tmod (hi - lo + 1) < 0 then lo + (n.tmod (hi - lo + 1) + (hi - lo + 1)) else lo + n.tmod (hi - lo + 1)
theorem inB_bd (n : Int) {lo hi : Int} (h : lo ≤ hi) : lo ≤ inB n lo hi ∧ inB n lo hi ≤ hi := by
  have ha := Int.tmod_lt_of_pos n (b := hi - lo + 1) (by omega)
  have hb : -(hi - lo + 1) < n.tmod (hi - lo + 1) := by
    have h3 := Int.tmod_lt_of_pos (-n) (b := hi - lo + 1) (by omega)
    rw [Int.neg_tmod] at h3
    omega
  unfold inB
  split <;> constructor <;> omega
theorem ret_int' {k : IntKind} {a b : Int} (h : a = b) : Ending.returned (.int k a) = .returned (.int k b) := by rw [h]
set_option maxHeartbeats 400000 in
theorem within_any (n lo hi : Int) (w : World) (h3 : 0 ≤ lo) (h4 : lo ≤ hi) (h5 : hi ≤ 1000000000) :
    Calls Tryd.prog 9 #[.int .i64 n, .int .i64 lo, .int .i64 hi] w fun e w' => e = .returned (.int .i64 (inB n lo hi)) ∧ w = w' := by
  have ha := Int.tmod_lt_of_pos n (b := hi - lo + 1) (by omega)
  have hb : -(hi - lo + 1) < n.tmod (hi - lo + 1) := by
    have h3 := Int.tmod_lt_of_pos (-n) (b := hi - lo + 1) (by omega)
    rw [Int.neg_tmod] at h3
    omega
  by_cases hz : n.tmod (hi - lo + 1) < 0
  · have hw : inB n lo hi = lo + (n.tmod (hi - lo + 1) + (hi - lo + 1)) := by unfold inB; rw [if_pos hz]
    have HW := Go.Lib.hid hw; clear hw
    go_enter Tryd.func9, Tryd.ntmps9
    go_wp2
    go_ret
    exact ⟨ret_int' (by rw [HW.out]; omega), rfl⟩
  · have hw : inB n lo hi = lo + n.tmod (hi - lo + 1) := by unfold inB; rw [if_neg hz]
    have HW := Go.Lib.hid hw; clear hw
    go_enter Tryd.func9, Tryd.ntmps9
    go_wp2
    go_ret
    exact ⟨ret_int' (by rw [HW.out]), rfl⟩

/-- a guard of numbers -/
inductive GT | leaf (k : Nat) | no (t : GT) | op (k : Nat) (a b : GT)
def leafL : List (List UInt8) := [[120], [121], [49], [45, 50], [48], [55], [120], [121], [51], [48], [49], [50]]
def opL : List (List UInt8) := [[97, 110, 100], [111, 114], [108, 116], [101, 113], [97, 100, 100], [115, 117, 98], [97, 110, 100]]
def notL : List UInt8 := [110, 111, 116]
def GT.toks : GT → List (List UInt8)
  | .leaf k => [leafL.getD k []]
  | .no t => notL :: t.toks
  | .op k a b => opL.getD k [] :: (a.toks ++ b.toks)
def GT.text : GT → List UInt8
  | .leaf k => leafL.getD k []
  | .no t => notL ++ [32] ++ t.text
  | .op k a b => opL.getD k [] ++ [32] ++ a.text ++ [32] ++ b.text
def GT.deep : GT → Nat
  | .leaf _ => 0
  | .no t => t.deep + 1
  | .op _ a b => max a.deep b.deep + 1
/-- its numbers are those of words -/
def GT.ok : GT → Prop
  | .leaf k => k < 12
  | .no t => t.ok
  | .op k a b => k < 7 ∧ a.ok ∧ b.ok
theorem pow_pos2 (d : Nat) : 1 ≤ 2 ^ d := Nat.one_le_two_pow
theorem leaf_len (k : Nat) : (leafL.getD k []).length ≤ 2 := by
  by_cases h : k < 12
  · revert k; decide
  · have : leafL.getD k [] = [] := by rw [List.getD_eq_getElem?_getD, List.getElem?_eq_none (by simp [leafL]; omega)]; rfl
    rw [this]; simp
theorem op_len (k : Nat) : (opL.getD k []).length ≤ 3 := by
  by_cases h : k < 7
  · revert k; decide
  · have : opL.getD k [] = [] := by rw [List.getD_eq_getElem?_getD, List.getElem?_eq_none (by simp [opL]; omega)]; rfl
    rw [this]; simp
theorem text_len : ∀ (t : GT), t.text.length + 5 ≤ 7 * 2 ^ t.deep
  | .leaf k => by have := leaf_len k; simp only [GT.text, GT.deep]; omega
  | .no t => by
    have h1 := text_len t
    have h2 := pow_pos2 t.deep
    simp only [GT.text, GT.deep, List.length_append, List.length_cons, List.length_nil, notL, Nat.pow_succ]
    omega
  | .op k a b => by
    have h1 := text_len a
    have h2 := text_len b
    have h3 := op_len k
    have h4 : 2 ^ a.deep ≤ 2 ^ max a.deep b.deep := Nat.pow_le_pow_right (by omega) (Nat.le_max_left _ _)
    have h5 : 2 ^ b.deep ≤ 2 ^ max a.deep b.deep := Nat.pow_le_pow_right (by omega) (Nat.le_max_right _ _)
    simp only [GT.text, GT.deep, List.length_append, List.length_cons, List.length_nil, Nat.pow_succ]
    omega

/-- whole numbers below a block -/
def IntsB (w : World) (B : Nat) (a : Option Addr) (n : Nat) (l : List Int) : Prop := n = l.length ∧ (n = 0 ∨ ∃ b o, a = some ⟨b, o, none⟩ ∧ b < B ∧ ∀ j, j < l.length → w.cell? ⟨b, o + j, none⟩ = some (.int .i64 (l.getD j 0)))
theorem IntsB.grown {w w' : World} {B : Nat} {a : Option Addr} {n : Nat} {l : List Int} (h : IntsB w B a n l) (hB : B < w.heap.size) (hg : w.grownBy w' (some B)) : IntsB w' B a n l := by
  obtain ⟨hn, h0 | ⟨b, o, ha, hlt, hs⟩⟩ := h
  · exact ⟨hn, .inl h0⟩
  · exact ⟨hn, .inr ⟨b, o, ha, hlt, fun j hj => (hg.cell_far ⟨b, _, none⟩ (by show b < _; omega) (fun e => by have e' : b = B := Option.some.inj e; omega)).trans (hs j hj)⟩⟩
def leafCells : Array Value := #[.string ⟨#[120]⟩, .string ⟨#[121]⟩, .string ⟨#[49]⟩, .string ⟨#[45, 50]⟩, .string ⟨#[48]⟩, .string ⟨#[55]⟩, .string ⟨#[120]⟩, .string ⟨#[121]⟩, .string ⟨#[51]⟩, .string ⟨#[48]⟩, .string ⟨#[49]⟩, .string ⟨#[50]⟩]
def opCells : Array Value := #[.string ⟨#[97, 110, 100]⟩, .string ⟨#[111, 114]⟩, .string ⟨#[108, 116]⟩, .string ⟨#[101, 113]⟩, .string ⟨#[97, 100, 100]⟩, .string ⟨#[115, 117, 98]⟩, .string ⟨#[97, 110, 100]⟩]
theorem leaf_at {k : Nat} (h : k < 12) : leafCells[k]? = some (.string (S (leafL.getD k []))) := by
  have : k = 0 ∨ k = 1 ∨ k = 2 ∨ k = 3 ∨ k = 4 ∨ k = 5 ∨ k = 6 ∨ k = 7 ∨ k = 8 ∨ k = 9 ∨ k = 10 ∨ k = 11 := by omega
  rcases this with rfl | rfl | rfl | rfl | rfl | rfl | rfl | rfl | rfl | rfl | rfl | rfl <;> rfl
theorem op_at {k : Nat} (h : k < 7) : opCells[k]? = some (.string (S (opL.getD k []))) := by
  have : k = 0 ∨ k = 1 ∨ k = 2 ∨ k = 3 ∨ k = 4 ∨ k = 5 ∨ k = 6 := by omega
  rcases this with rfl | rfl | rfl | rfl | rfl | rfl | rfl <;> rfl
theorem op_cell (W : World) {k : Nat} (h : k < 7) : (W.alloc (.cells opCells 9)).cell? ⟨W.heap.size, k, none⟩ = some (.string (S (opL.getD k []))) := by
  rw [Lib.cell_of_heap (heap_alloc_new W _)]; exact op_at h
theorem leaf_cell (W : World) {k : Nat} (h : k < 12) : (W.alloc (.cells leafCells 9)).cell? ⟨W.heap.size, k, none⟩ = some (.string (S (leafL.getD k []))) := by
  rw [Lib.cell_of_heap (heap_alloc_new W _)]; exact leaf_at h
def boxC (k : Nat) : Array Value := #[.int .i64 (k : Int)]
theorem set_box {w : World} {B k : Nat} {v : Value} (h : w.heap[B]? = some (.cells (boxC k) 3 (0, 0))) : (w.setCell ⟨B, 0, none⟩ v).heap[B]? = some (.cells #[v] 3 (0, 0)) := by
  simp [World.setCell, Array.getElem?_modify, h, boxC]
theorem grown_set0 (W : World) (b : Nat) (u : Value) : W.grownBy (W.setCell ⟨b, 0, none⟩ u) (some b) := ⟨rfl, rfl, rfl, by simp [World.setCell], fun k hk hb => Below.heap_setCell _ _ _ _ (fun e => hb (by simp [e]))⟩
theorem grown_tr {a b c : World} {r : Option Nat} (h : a.grownBy b r) (k : b.grownBy c r) : a.grownBy c r := World.grownBy.trans h k

theorem app_S (a b : List UInt8) : S a ++ S b = S (a ++ b) := by
  apply S_inj
  rw [ByteArray.toList_eq, ByteArray.data_append, Array.toList_append, S_toList]
  simp [S]
theorem grown_drew {a b : World} {r : Option Nat} (h : a.grownBy b r) : a.grownBy b.drew r := ⟨h.os, h.tape, h.output, h.size, h.block⟩
theorem ret_str {a b : ByteArray} (h : a = b) : Ending.returned (.string a) = .returned (.string b) := by rw [h]
theorem two_pow_le {t d : Nat} (h : t ≤ d) (h6 : d ≤ 6) : 2 ^ t ≤ 64 := Nat.le_trans (Nat.pow_le_pow_right (by omega) h) (Nat.pow_le_pow_right (n := 2) (by omega) h6)
theorem text_size {t : GT} {d : Nat} (h : t.deep ≤ d) (h6 : d ≤ 6) : (S t.text).size ≤ 448 := by
  have := text_len t
  have := two_pow_le h h6
  rw [S_size]; omega
def MadeC (a : Option Addr) (n c B : Nat) (l : List Int) (d : Nat) : Prop := ∀ (k : Nat) (w : World), k + 2 ^ (d + 1) ≤ 100000 → w.heap[B]? = some (.cells (boxC k) 3 (0, 0)) → IntsB w B a n l →
    Calls Tryd.prog 10 #[.slice a n c, .pointer (some ⟨B, 0, none⟩), .int .i64 (d : Int)] w fun e w' => ∃ t : GT, e = .returned (.string (S t.text)) ∧ t.deep ≤ d ∧ t.ok ∧ (∃ k', k' + 1 ≤ k + 2 ^ (d + 1) ∧ w'.heap[B]? = some (.cells (boxC k') 3 (0, 0))) ∧ w.grownBy w' (some B)

set_option maxHeartbeats 8000000 in
set_option maxRecDepth 100000 in
theorem made_step (a : Option Addr) (n c B : Nat) (l : List Int) (hn : n ≤ maxLen) (d : Nat) (hd6 : d ≤ 6) (IH : d ≠ 0 → MadeC a n c B l (d - 1)) : MadeC a n c B l d := by
  unfold maxLen at hn
  intro k w hk hBx hI
  have hBl : B < w.heap.size := (Array.getElem?_eq_some_iff.1 hBx).1
  have hc0 : w.cell? ⟨B, 0, none⟩ = some (.int .i64 (k : Int)) := by rw [Lib.cell_of_heap hBx]; rfl
  have hfz : w.frozen? ⟨B, 0, none⟩ = false := Lib.frozen_of_heap hBx 0
  have hp1 := pow_pos2 d
  have hk2 : k + 2 * 2 ^ d ≤ 100000 := by rw [Nat.pow_succ] at hk; omega
  have HBx := Lib.hid hBx
  have HI := Lib.hid hI
  have HIH := Lib.hid IH
  have HK2 := Lib.hid hk2
  have hkS : k < 100000 := by omega
  clear hBx hI IH hk hp1 hk2
  go_enter Tryd.func10, Tryd.ntmps10
  go_upto_if 14 with (fail)
  go_cut [7] (fun v wx => ∃ m : Nat, m ≤ 11 ∧ v = .int .i64 (m : Int) ∧ w = wx)
  case first =>
    obtain ⟨hln, hz⟩ := HI.out
    by_cases hkl : k < n
    · have hkB : decide (k < n) = true := decide_eq_true hkl
      rcases hz with h0 | ⟨b, o, rfl, hlt, hs⟩
      · omega
      have hcx := hs k (by omega)
      obtain ⟨x, hx⟩ : ∃ x, l.getD k 0 = x := ⟨_, rfl⟩
      rw [hx] at hcx
      clear hs hx hln
      go_wp2_with (fail)
      refine (within_any x 0 11 w (by omega) (by omega) (by omega)).mono ?_
      rintro e w' ⟨rfl, rfl⟩
      have hbd := inB_bd x (lo := 0) (hi := 11) (by omega)
      obtain ⟨m, hm⟩ : ∃ m : Nat, inB x 0 11 = (m : Int) := ⟨_, (Int.toNat_of_nonneg hbd.1).symm⟩
      rw [hm] at hbd ⊢
      clear hm
      go_wp2_with (fail)
      go_meet
      exact ⟨m, by omega, rfl, rfl⟩
    · have hkB : decide (k < n) = false := decide_eq_false hkl
      clear hz hln
      go_wp2_with (fail)
      go_meet
      exact ⟨0, by omega, rfl, rfl⟩
  case rest =>
  obtain ⟨m, hm, rfl, rfl⟩ := hcut
  go_upto_region 5 with (fail)
  have hB1 : (w.setCell ⟨B, 0, none⟩ (.int .i64 ((k : Int) + 1))).heap[B]? = some (.cells (boxC (k + 1)) 3 (0, 0)) := set_box HBx.out
  have hg1 := grown_set0 w B (.int .i64 ((k : Int) + 1))
  have hl1 : B < (w.setCell ⟨B, 0, none⟩ (.int .i64 ((k : Int) + 1))).heap.size := (Array.getElem?_eq_some_iff.1 hB1).1
  have HI1 := Lib.hid (HI.out.grown hBl hg1)
  have HB1 := Lib.hid hB1
  have HG1 := Lib.hid hg1
  generalize w.setCell ⟨B, 0, none⟩ (.int .i64 ((k : Int) + 1)) = W1 at *
  clear hB1 hg1 hc0 hfz
  have leafed : d = 0 ∨ m < 4 → True := fun _ => trivial
  clear leafed
  have h4 : (m < 4) ∨ 4 ≤ m := by omega
  have HL := Lib.hid (leaf_cell W1 (k := m) (by omega))
  by_cases hd0 : d = 0
  · subst hd0
    have hlf := HL.out
    unfold leafCells at hlf
    clear h4
    go_wp2_with (fail)
    go_ret
    refine ⟨.leaf m, rfl, Nat.le_refl _, ?_, ⟨k + 1, ?_, ?_⟩, ?_⟩
    · show m < 12; omega
    · omega
    · exact (((Below.refl _ _).alloc (Nat.le_refl _) _).block B hl1).trans HB1.out
    · exact grown_tr HG1.out (grownBy_below ((Below.refl _ _).alloc (Nat.le_refl _) _) _)
  have hdB : ((d : Int) == 0) = false := by simp; exact hd0
  by_cases hm4 : m < 4
  · have hmB : decide ((m : Int) < 4) = true := decide_eq_true (by omega)
    have hlf := HL.out
    unfold leafCells at hlf
    clear h4
    go_wp2_with (fail)
    go_ret
    refine ⟨.leaf m, rfl, Nat.zero_le _, ?_, ⟨k + 1, ?_, ?_⟩, ?_⟩
    · show m < 12; omega
    · have := HK2.out; have := pow_pos2 d; rw [Nat.pow_succ]; omega
    · exact (((Below.refl _ _).alloc (Nat.le_refl _) _).block B hl1).trans HB1.out
    · exact grown_tr HG1.out (grownBy_below ((Below.refl _ _).alloc (Nat.le_refl _) _) _)
  have hmB : decide ((m : Int) < 4) = false := decide_eq_false (by omega)
  clear h4 HL
  have hpw : 2 * 2 ^ (d - 1) = 2 ^ d := by rw [← Nat.pow_succ']; congr 1; omega
  have hIH := HIH.out hd0
  have hdc : ((d - 1 : Nat) : Int) = (d : Int) - 1 := by omega
  unfold MadeC at hIH
  rw [hdc, show d - 1 + 1 = d by omega] at hIH
  have HH := Lib.hid hIH
  clear hIH hdc
  have hp0 := pow_pos2 d
  have hk2 := HK2.out
  have hca : k + 1 + 2 ^ d ≤ 100000 := by omega
  clear hpw hk2
  by_cases hme : m = 4
  · subst hme
    go_wp2_with (fail)
    refine (HH.out (k + 1) W1 hca HB1.out HI1.out).mono ?_
    rintro e w2 ⟨t, rfl, htd, hto, ⟨k', hk', hB2⟩, hg2⟩
    have hsz := text_size htd (by omega)
    have HG2 := Lib.hid (grown_tr HG1.out hg2)
    have HB2 := Lib.hid hB2
    clear hB2 hg2
    go_wp2_with (fail)
    go_ret
    refine ⟨.no t, ret_str ?_, ?_, hto, ⟨k', ?_, HB2.out⟩, HG2.out⟩
    · show S [110, 111, 116, 32] ++ S t.text = _
      rw [app_S]; rfl
    · show t.deep + 1 ≤ d; omega
    · rw [Nat.pow_succ]; omega
  · have hme' : ((m : Int) == 4) = false := by simp; omega
    go_wp2_with (fail)
    refine (HH.out (k + 1) W1 hca HB1.out HI1.out).mono ?_
    rintro e w2 ⟨ta, rfl, htd, hto, ⟨k2, hk2, hB2⟩, hg2⟩
    have hsz := text_size htd (by omega)
    have hcb : k2 + 2 ^ d ≤ 100000 := by have := HK2.out; omega
    have HI2 := Lib.hid (HI1.out.grown hl1 hg2)
    have HG2 := Lib.hid (grown_tr HG1.out hg2)
    have HB2 := Lib.hid hB2
    have hl2 : B < w2.heap.size := (Array.getElem?_eq_some_iff.1 hB2).1
    clear hB2 hg2
    go_wp2_with (fail)
    obtain ⟨q, hq⟩ : ∃ q : Nat, (m : Int) = (q : Int) + 5 := ⟨(m - 5), by omega⟩
    have hq7 : q < 7 := by omega
    rw [hq]
    clear hme' hmB hq hme hm4
    have hwr : IntKind.i64.wrap (q : Int) = (q : Int) := by simp [IntKind.wrap, IntKind.min, IntKind.max, IntKind.signed, IntKind.bits]; omega
    have hq7I : (q : Int) < 7 := by omega
    have hdr : IntKind.i64.wrap ((d : Int) - 1) = (d : Int) - 1 := by simp [IntKind.wrap, IntKind.min, IntKind.max, IntKind.signed, IntKind.bits]; omega
    obtain ⟨x, hx⟩ : ∃ x, opL.getD q [] = x := ⟨_, rfl⟩
    have hxs : (S x).size ≤ 3 := by rw [S_size, ← hx]; exact op_len q
    have hX0 : (w2.drew.alloc (.cells #[.string ⟨#[97, 110, 100]⟩, .string ⟨#[111, 114]⟩, .string ⟨#[108, 116]⟩, .string ⟨#[101, 113]⟩, .string ⟨#[97, 100, 100]⟩, .string ⟨#[115, 117, 98]⟩, .string ⟨#[97, 110, 100]⟩] 9)).cell? ⟨w2.heap.size, q, none⟩ = some (.string (S x)) := by rw [← hx]; exact op_cell w2.drew hq7
    have hXg : ∀ W : World, (W.alloc (.cells #[.string ⟨#[97, 110, 100]⟩, .string ⟨#[111, 114]⟩, .string ⟨#[108, 116]⟩, .string ⟨#[101, 113]⟩, .string ⟨#[97, 100, 100]⟩, .string ⟨#[115, 117, 98]⟩, .string ⟨#[97, 110, 100]⟩] 9)).cell? ⟨W.heap.size, q, none⟩ = some (.string (S x)) := fun W => by rw [← hx]; exact op_cell W hq7
    have hA0 : ∀ W : World, W.grownBy (W.alloc (.cells #[.string ⟨#[97, 110, 100]⟩, .string ⟨#[111, 114]⟩, .string ⟨#[108, 116]⟩, .string ⟨#[101, 113]⟩, .string ⟨#[97, 100, 100]⟩, .string ⟨#[115, 117, 98]⟩, .string ⟨#[97, 110, 100]⟩] 9)) none := fun W => grownBy_below ((Below.refl _ _).alloc (Nat.le_refl _) _) _
    have HX0 := Lib.hid hX0
    have HXg := Lib.hid hXg
    have HA0 := Lib.hid hA0
    have HBa := Lib.hid (show ((w2.alloc (.cells #[.string ⟨#[97, 110, 100]⟩, .string ⟨#[111, 114]⟩, .string ⟨#[108, 116]⟩, .string ⟨#[101, 113]⟩, .string ⟨#[97, 100, 100]⟩, .string ⟨#[115, 117, 98]⟩, .string ⟨#[97, 110, 100]⟩] 9)).drew).heap[B]? = some (.cells (boxC k2) 3 (0, 0)) from (((Below.refl _ _).alloc (Nat.le_refl _) _).block B hl2).trans HB2.out)
    have HGa := Lib.hid (show w2.grownBy ((w2.alloc (.cells #[.string ⟨#[97, 110, 100]⟩, .string ⟨#[111, 114]⟩, .string ⟨#[108, 116]⟩, .string ⟨#[101, 113]⟩, .string ⟨#[97, 100, 100]⟩, .string ⟨#[115, 117, 98]⟩, .string ⟨#[97, 110, 100]⟩] 9)).drew) (some B) from grown_drew (grownBy_below ((Below.refl _ _).alloc (Nat.le_refl _) _) _))
    have HIa := Lib.hid (show IntsB ((w2.alloc (.cells #[.string ⟨#[97, 110, 100]⟩, .string ⟨#[111, 114]⟩, .string ⟨#[108, 116]⟩, .string ⟨#[101, 113]⟩, .string ⟨#[97, 100, 100]⟩, .string ⟨#[115, 117, 98]⟩, .string ⟨#[97, 110, 100]⟩] 9)).drew) B a n l from HI2.out.grown hl2 HGa.out)
    have hla : w2.heap.size < ((w2.alloc (.cells #[.string ⟨#[97, 110, 100]⟩, .string ⟨#[111, 114]⟩, .string ⟨#[108, 116]⟩, .string ⟨#[101, 113]⟩, .string ⟨#[97, 100, 100]⟩, .string ⟨#[115, 117, 98]⟩, .string ⟨#[97, 110, 100]⟩] 9)).drew).heap.size := by show w2.heap.size < (w2.alloc (.cells #[.string ⟨#[97, 110, 100]⟩, .string ⟨#[111, 114]⟩, .string ⟨#[108, 116]⟩, .string ⟨#[101, 113]⟩, .string ⟨#[97, 100, 100]⟩, .string ⟨#[115, 117, 98]⟩, .string ⟨#[97, 110, 100]⟩] 9)).heap.size; simp
    have HLa := Lib.hid hla
    have HTx := Lib.hid (show ∀ tb : GT, S x ++ ⟨#[32]⟩ ++ S ta.text ++ ⟨#[32]⟩ ++ S tb.text = S (GT.op q ta tb).text from fun tb => by
      show S x ++ S [32] ++ S ta.text ++ S [32] ++ S tb.text = _
      rw [app_S, app_S, app_S, app_S, ← hx]
      rfl)
    clear hA0 hXg hX0 hla
    refine wp_region_any (by kernel_rfl) ?_
    change wpAny _ _ _ _ _ _ _ (World.drew _)
    refine wpAny_take (i := 1) (v := ?v1) rfl (by kernel_rfl) (by kernel_rfl) (by kernel_rfl) (fun _ _ _ h => h) (Or.inl ⟨by rfl, ?hy1⟩) ?rest1
    case hy1 => (intro W; go_simp; first | done | with_reducible rfl | rw [if_neg (by omega)])
    refine wpAny_take (i := 2) (v := ?v2) rfl (by kernel_rfl) (by kernel_rfl) (by kernel_rfl) (fun _ _ _ h => h) (Or.inl ⟨by rfl, ?hy2⟩) ?rest2
    case hy2 => (intro W; go_simp; first | done | with_reducible rfl | rw [if_neg (by omega)])
    refine wpAny_take (i := 6) (v := ?v6) rfl (by kernel_rfl) (by kernel_rfl) (by kernel_rfl) (fun _ _ _ h => h) (Or.inl ⟨by rfl, ?hy6⟩) ?rest6
    case hy6 => (intro W; go_simp; first | done | with_reducible rfl | rw [if_neg (by omega)])
    refine wpAny_take (i := 9) (v := ?v9) rfl (by kernel_rfl) (by kernel_rfl) (by kernel_rfl) (fun _ _ _ h => h) (Or.inl ⟨by rfl, ?hy9⟩) ?rest9
    case hy9 => (intro W; go_simp; first | done | with_reducible rfl | rw [if_neg (by omega)])
    refine wpAny_take (i := 10) (v := ?v10) rfl (by kernel_rfl) (by kernel_rfl) (by kernel_rfl) (fun _ _ _ h => h) (Or.inl ⟨by rfl, ?hy10⟩) ?rest10
    case hy10 => (intro W; go_simp; first | done | with_reducible rfl | rw [if_neg (by omega)])
    refine wpAny_take (i := 11) (v := ?v11) rfl (by kernel_rfl) (by kernel_rfl) (by kernel_rfl) (fun _ _ _ h => h) (Or.inl ⟨by rfl, ?hy11⟩) ?rest11
    case hy11 => (intro W; go_simp; first | done | with_reducible rfl | rw [if_neg (by omega)])
    refine wpAny_take (i := 12) (v := ?v12) rfl (by kernel_rfl) (by kernel_rfl) (by kernel_rfl) (fun _ _ _ h => h) (Or.inl ⟨by rfl, ?hy12⟩) ?rest12
    case hy12 => (intro W; go_simp; first | done | with_reducible rfl | rw [if_neg (by omega)])
    refine wpAny_ready (rs := [0, 13]) (by kernel_rfl) (by simp) ?_
    refine AllReady.cons rfl (fun K hK => ?_) ?_
    · go_simp
      refine hK _ _ ?_
      clear hK K
      refine wpAny_take (i := 3) (v := ?vp3) rfl (by kernel_rfl) (by kernel_rfl) (by kernel_rfl) (fun _ _ _ h => h) (Or.inl ⟨by rfl, ?hyp3⟩) ?restp3
      case hyp3 => (intro W; go_simp; first | done | with_reducible rfl | rw [if_neg (by omega)])
      refine wpAny_of_held (S := fun W => W.cell? ⟨w2.heap.size, q, none⟩ = some (.string (S x))) _ _ _ _ ?_
      refine wpAnyH_take (i := 4) (v := ?vq4) rfl (by kernel_rfl) (by kernel_rfl) (by kernel_rfl) (fun _ _ _ h => h) (Or.inl ⟨by rfl, ?hyq4⟩) HX0.out ?restq4
      case hyq4 => (intro W hW; have hW2 : W.cell? ⟨w2.heap.size, q, none⟩ = some (.string (S x)) := hW; clear hW; go_simp; first | done | with_reducible rfl | rw [if_neg (by omega)])
      refine wpAnyH_take (i := 5) (v := ?vq5) rfl (by kernel_rfl) (by kernel_rfl) (by kernel_rfl) (fun _ _ _ h => h) (Or.inl ⟨by rfl, ?hyq5⟩) HX0.out ?restq5
      case hyq5 => (intro W hW; have hW2 : W.cell? ⟨w2.heap.size, q, none⟩ = some (.string (S x)) := hW; clear hW; go_simp; first | done | with_reducible rfl | rw [if_neg (by omega)])
      refine wpAnyH_take (i := 7) (v := ?vq7) rfl (by kernel_rfl) (by kernel_rfl) (by kernel_rfl) (fun _ _ _ h => h) (Or.inl ⟨by rfl, ?hyq7⟩) HX0.out ?restq7
      case hyq7 => (intro W hW; have hW2 : W.cell? ⟨w2.heap.size, q, none⟩ = some (.string (S x)) := hW; clear hW; go_simp; first | done | with_reducible rfl | rw [if_neg (by omega)])
      refine wpAnyH_take (i := 8) (v := ?vq8) rfl (by kernel_rfl) (by kernel_rfl) (by kernel_rfl) (fun _ _ _ h => h) (Or.inl ⟨by rfl, ?hyq8⟩) HX0.out ?restq8
      case hyq8 => (intro W hW; have hW2 : W.cell? ⟨w2.heap.size, q, none⟩ = some (.string (S x)) := hW; clear hW; go_simp; first | done | with_reducible rfl | rw [if_neg (by omega)])
      refine wpAnyH_ready (rs := [13]) (by kernel_rfl) (by simp) ?_
      refine AllReadyH.cons rfl (fun K hK => ?_) AllReadyH.nil
      go_simp
      refine (HH.out k2 _ hcb HBa.out HIa.out).mono ?_
      rintro e w3 ⟨tb, rfl, htd2, hto2, ⟨k3, hk3, hB3⟩, hg3⟩
      have hsz2 := text_size htd2 (by omega)
      have HC3 := Lib.hid ((hg3.cell_far ⟨w2.heap.size, q, none⟩ HLa.out (fun e => by have e' : w2.heap.size = B := Option.some.inj e; omega)).trans HX0.out)
      have HG3 := Lib.hid (grown_tr HGa.out hg3)
      have HB3 := Lib.hid hB3
      clear hg3 hB3
      refine hK.out _ _ HC3.out (fun _ => ?_)
      clear hK K
      refine wpAnyH_ready (rs := [14]) (by kernel_rfl) (by simp) ?_
      refine AllReadyH.cons rfl (fun K hK => ?_) AllReadyH.nil
      go_simp
      rw [if_neg (by omega)]
      go_simp
      refine hK.out _ _ HC3.out (fun _ => ?_)
      clear hK K
      refine wpAnyH_ready (rs := [15]) (by kernel_rfl) (by simp) ?_
      refine AllReadyH.cons rfl (fun K hK => ?_) AllReadyH.nil
      go_simp
      refine hK.out _ _ HC3.out (fun _ => ?_)
      clear hK K
      refine wpAnyH_done (by kernel_rfl) ?_ _
      go_wp2_with (fail)
      go_ret
      refine ⟨.op q ta tb, ret_str (HTx.out tb), ?_, ⟨hq7, hto, hto2⟩, ⟨k3, ?_, HB3.out⟩, grown_tr HG2.out HG3.out⟩
      · show max ta.deep tb.deep + 1 ≤ d; omega
      · rw [Nat.pow_succ]; omega
    · refine AllReady.cons rfl (fun K hK => ?_) AllReady.nil
      have HBd := Lib.hid (show w2.drew.heap[B]? = some (.cells (boxC k2) 3 (0, 0)) from HB2.out)
      have HId := Lib.hid (show IntsB w2.drew B a n l from HI2.out)
      go_simp
      refine (HH.out k2 _ hcb HBd.out HId.out).mono ?_
      rintro e w3 ⟨tb, rfl, htd2, hto2, ⟨k3, hk3, hB3⟩, hg3⟩
      have hsz2 := text_size htd2 (by omega)
      have HG3 := Lib.hid (show w2.grownBy w3 (some B) from ⟨hg3.os, hg3.tape, hg3.output, hg3.size, hg3.block⟩)
      have HX3 := Lib.hid (HXg.out w3)
      have HB3 := Lib.hid hB3
      clear hg3 hB3
      refine hK _ _ ?_
      clear hK K
      refine wpAny_ready (rs := [0]) (by kernel_rfl) (by simp) ?_
      refine AllReady.cons rfl (fun K hK => ?_) AllReady.nil
      go_simp
      refine hK _ _ ?_
      clear hK K
      refine wpAny_take (i := 3) (v := ?vz3) rfl (by kernel_rfl) (by kernel_rfl) (by kernel_rfl) (fun _ _ _ h => h) (Or.inl ⟨by rfl, ?hyz3⟩) ?restz3
      case hyz3 => (intro W; go_simp; first | done | with_reducible rfl | rw [if_neg (by omega)])
      refine wpAny_of_held (S := fun W => W.cell? ⟨w3.heap.size, q, none⟩ = some (.string (S x))) _ _ _ _ ?_
      refine wpAnyH_take (i := 4) (v := ?vy4) rfl (by kernel_rfl) (by kernel_rfl) (by kernel_rfl) (fun _ _ _ h => h) (Or.inl ⟨by rfl, ?hyy4⟩) HX3.out ?resty4
      case hyy4 => (intro W hW; have hW2 : W.cell? ⟨w3.heap.size, q, none⟩ = some (.string (S x)) := hW; clear hW; go_simp; first | done | with_reducible rfl | rw [if_neg (by omega)])
      refine wpAnyH_take (i := 5) (v := ?vy5) rfl (by kernel_rfl) (by kernel_rfl) (by kernel_rfl) (fun _ _ _ h => h) (Or.inl ⟨by rfl, ?hyy5⟩) HX3.out ?resty5
      case hyy5 => (intro W hW; have hW2 : W.cell? ⟨w3.heap.size, q, none⟩ = some (.string (S x)) := hW; clear hW; go_simp; first | done | with_reducible rfl | rw [if_neg (by omega)])
      refine wpAnyH_take (i := 7) (v := ?vy7) rfl (by kernel_rfl) (by kernel_rfl) (by kernel_rfl) (fun _ _ _ h => h) (Or.inl ⟨by rfl, ?hyy7⟩) HX3.out ?resty7
      case hyy7 => (intro W hW; have hW2 : W.cell? ⟨w3.heap.size, q, none⟩ = some (.string (S x)) := hW; clear hW; go_simp; first | done | with_reducible rfl | rw [if_neg (by omega)])
      refine wpAnyH_take (i := 8) (v := ?vy8) rfl (by kernel_rfl) (by kernel_rfl) (by kernel_rfl) (fun _ _ _ h => h) (Or.inl ⟨by rfl, ?hyy8⟩) HX3.out ?resty8
      case hyy8 => (intro W hW; have hW2 : W.cell? ⟨w3.heap.size, q, none⟩ = some (.string (S x)) := hW; clear hW; go_simp; first | done | with_reducible rfl | rw [if_neg (by omega)])
      refine wpAnyH_ready (rs := [14]) (by kernel_rfl) (by simp) ?_
      refine AllReadyH.cons rfl (fun K hK => ?_) AllReadyH.nil
      go_simp
      rw [if_neg (by omega)]
      go_simp
      refine hK.out _ _ HX3.out (fun _ => ?_)
      clear hK K
      refine wpAnyH_ready (rs := [15]) (by kernel_rfl) (by simp) ?_
      refine AllReadyH.cons rfl (fun K hK => ?_) AllReadyH.nil
      go_simp
      refine hK.out _ _ HX3.out (fun _ => ?_)
      clear hK K
      refine wpAnyH_done (by kernel_rfl) ?_ _
      go_wp2_with (fail)
      go_ret
      refine ⟨.op q ta tb, ret_str (HTx.out tb), ?_, ⟨hq7, hto, hto2⟩, ⟨k3, ?_, ((grownBy_below ((Below.refl _ _).alloc (Nat.le_refl _) _) none).block B (Nat.lt_of_lt_of_le hl2 HG3.out.size) (by simp)).trans HB3.out⟩, grown_tr (grown_tr HG2.out HG3.out) (grownBy_below ((Below.refl _ _).alloc (Nat.le_refl _) _) _)⟩
      · show max ta.deep tb.deep + 1 ≤ d; omega
      · rw [Nat.pow_succ]; omega

theorem made_any (a : Option Addr) (n c B : Nat) (l : List Int) (hn : n ≤ maxLen) : ∀ (d : Nat), d ≤ 6 → MadeC a n c B l d
  | 0, h => made_step a n c B l hn 0 h (fun h0 => absurd rfl h0)
  | d + 1, h => made_step a n c B l hn (d + 1) h (fun _ => made_any a n c B l hn d (by omega))
#print axioms made_any
end Go.Proofs.YtkmncmceheggjaaDoor
