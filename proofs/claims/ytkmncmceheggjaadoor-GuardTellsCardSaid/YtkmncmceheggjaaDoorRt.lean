/- Values of guards of numbers; names and values that lie. -/
import Derived.Test.YtkmncmceheggjaaDoorMp
import Derived.Test.YtkmncmceheggjaaDoorGn
import Derived.Test.YtkmncmceheggjaaDoorNo
import Derived.Deep.CutBlock
import Derived.Deep.DeepCutAuto
set_option linter.unusedVariables false
set_option linter.unusedSimpArgs false
namespace Go.Proofs.YtkmncmceheggjaaDoor
open Go.RowKit Go.Ev

/-! ### how great a guard's value is -/
def bdI (m : Int) (x : Int) : Prop := -m ≤ x ∧ x ≤ m
theorem bd_mono {m m' x : Int} (h : bdI m x) (hm : m ≤ m') : bdI m' x := ⟨by have := h.1; omega, by have := h.2; omega⟩
theorem leaf_num : ∀ k, k < 12 → kindI (leafL.getD k []) = 1 → bdI 9 (numI (leafL.getD k [])) := by
  intro k hk
  have : k = 0 ∨ k = 1 ∨ k = 2 ∨ k = 3 ∨ k = 4 ∨ k = 5 ∨ k = 6 ∨ k = 7 ∨ k = 8 ∨ k = 9 ∨ k = 10 ∨ k = 11 := by omega
  rcases this with rfl | rfl | rfl | rfl | rfl | rfl | rfl | rfl | rfl | rfl | rfl | rfl <;> (unfold bdI; decide +kernel)
theorem wr64 {n : Int} (h : -9223372036854775808 ≤ n ∧ n ≤ 9223372036854775807) : wrap64 n = n := by unfold wrap64; omega
theorem getD_lt {l : List Int} {i : Nat} (h : i < l.length) : l.getD i 0 = l[i] := by rw [List.getD_eq_getElem?_getD, List.getElem?_eq_getElem h]; rfl
theorem getD_ge {l : List Int} {i : Nat} (h : ¬ i < l.length) : l.getD i 0 = 0 := by rw [List.getD_eq_getElem?_getD, List.getElem?_eq_none (by omega)]; rfl
theorem tr_bd (b : Bool) : bdI 1 (trI b) := by cases b <;> (unfold bdI; decide)
theorem app_bd {op : List UInt8} {a b m : Int} (h1 : 1 ≤ m) (hm : m ≤ 1000000) (ha : bdI m a) (hb : bdI m b) : bdI (2 * m) (appI op a b) := by
  obtain ⟨a1, a2⟩ := ha
  obtain ⟨b1, b2⟩ := hb
  unfold appI
  repeat' split
  · exact bd_mono (tr_bd _) (by omega)
  · exact bd_mono (tr_bd _) (by omega)
  · exact bd_mono (tr_bd _) (by omega)
  · exact bd_mono (tr_bd _) (by omega)
  · rw [show wrap64 _ = _ from wr64 (by omega)]; constructor <;> omega
  · rw [show wrap64 _ = _ from wr64 (by omega)]; constructor <;> omega
theorem val_bd {names : List ByteArray} {vals : List Int} {m : Nat} (h9 : 9 ≤ m) (hv : ∀ x ∈ vals, bdI m x) : ∀ (t : GT), t.ok → m * 2 ^ t.deep ≤ 1000000 → bdI ((m * 2 ^ t.deep : Nat) : Int) (t.val names vals)
  | .leaf k, h, _ => by
    simp only [GT.val, GT.deep]
    split
    · rename_i hk
      exact bd_mono (leaf_num k h hk) (by omega)
    · by_cases hl : (idxI names (leafL.getD k [])).toNat < vals.length
      · rw [getD_lt hl]
        exact bd_mono (hv _ (List.getElem_mem hl)) (by omega)
      · rw [getD_ge hl]
        constructor <;> omega
  | .no t, h, hm => by
    simp only [GT.val, GT.deep] at hm ⊢
    have h1 := pow_pos2 (t.deep + 1)
    have h2 : 9 * 1 ≤ m * 2 ^ (t.deep + 1) := Nat.mul_le_mul h9 h1
    exact bd_mono (tr_bd _) (by omega)
  | .op k a b, h, hm => by
    simp only [GT.val, GT.deep] at hm ⊢
    have e : m * 2 ^ (max a.deep b.deep + 1) = 2 * (m * 2 ^ max a.deep b.deep) := by rw [Nat.pow_succ]; ac_rfl
    rw [e] at hm ⊢
    have h4 : m * 2 ^ a.deep ≤ m * 2 ^ max a.deep b.deep := Nat.mul_le_mul_left _ (Nat.pow_le_pow_right (by omega) (Nat.le_max_left _ _))
    have h5 : m * 2 ^ b.deep ≤ m * 2 ^ max a.deep b.deep := Nat.mul_le_mul_left _ (Nat.pow_le_pow_right (by omega) (Nat.le_max_right _ _))
    have h6 : 1 ≤ m * 2 ^ max a.deep b.deep := by have := Nat.mul_le_mul h9 (pow_pos2 (max a.deep b.deep)); omega
    have := app_bd (op := opL.getD k []) (m := ((m * 2 ^ max a.deep b.deep : Nat) : Int)) (by omega) (by omega) (bd_mono (val_bd (names := names) h9 hv a h.2.1 (by omega)) (by omega)) (bd_mono (val_bd (names := names) h9 hv b h.2.2 (by omega)) (by omega))
    exact bd_mono this (by omega)

/-- the names of a guard of numbers are x and y -/
theorem leaf_name {k : Nat} (h : k < 12) (hq : nameB (leafL.getD k []) = true) : leafL.getD k [] = [120] ∨ leafL.getD k [] = [121] := by revert k; decide +kernel
theorem named_of {names : List ByteArray} (hx : hasB names [120] = true) (hy : hasB names [121] = true) : ∀ (t : GT), t.ok → t.named names
  | .leaf k, h => fun hq => by rcases leaf_name h hq with e | e <;> rw [e] <;> assumption
  | .no t, h => named_of hx hy t h
  | .op _ a b, h => ⟨named_of hx hy a h.2.1, named_of hx hy b h.2.2⟩
def xyL : List ByteArray := [⟨#[120]⟩, ⟨#[121]⟩]
theorem xy_has : hasB xyL [120] = true ∧ hasB xyL [121] = true := by decide +kernel
theorem eval_xy {vals : List Int} {t : GT} (h : t.ok) (hd : t.deep ≤ 4) (hv : 2 ≤ vals.length) : evalP xyL vals (S t.text).toList = (t.val xyL vals, 0) := by
  rw [S_toList]
  have h1 := text_len t
  have h2 : 2 ^ t.deep ≤ 2 ^ 4 := Nat.pow_le_pow_right (by omega) hd
  refine eval_tree (by omega) (toks_text h) h (named_of xy_has.1 xy_has.2 t h) (by omega) (by show 2 ≤ _; omega)

/-- names and values lie where they lay -/
def Env (w : World) (vals : List Int) (W : World) : Prop := Strs W (some ⟨w.heap.size, 0, none⟩) 2 xyL ∧ Ints W (some ⟨w.heap.size + 1, 0, none⟩) 2 vals ∧ Below w.heap.size w W ∧ w.heap.size + 2 ≤ W.heap.size
theorem Env.below {w : World} {vals : List Int} {W W' : World} (h : Env w vals W) (hb : Below W.heap.size W W') : Env w vals W' :=
  ⟨h.1.below hb, h.2.1.below hb, h.2.2.1.trans (hb.mono h.2.2.1.size), Nat.le_trans h.2.2.2 hb.size⟩
theorem Env.grown {w : World} {vals : List Int} {W W' : World} {B : Nat} (h : Env w vals W) (hB : w.heap.size + 2 ≤ B) (hg : W.grownBy W' (some B)) : Env w vals W' := by
  obtain ⟨⟨n1, h1⟩, ⟨n2, h2⟩, h3, h4⟩ := h
  refine ⟨⟨n1, ?_⟩, ⟨n2, ?_⟩, h3.grown hg (Nat.le_trans (by omega) h4) (fun g e => by have e' : B = g := Option.some.inj e; omega), Nat.le_trans h4 hg.size⟩
  · rcases h1 with h0 | ⟨b, o, ha, hlt, hs⟩
    · exact .inl h0
    · cases ha
      exact .inr ⟨_, _, rfl, Nat.lt_of_lt_of_le hlt hg.size, fun j hj => (hg.cell_far ⟨w.heap.size, 0 + j, none⟩ hlt (fun e => by have e' : w.heap.size = B := Option.some.inj e; omega)).trans (hs j hj)⟩
  · rcases h2 with h0 | ⟨b, o, ha, hlt, hs⟩
    · exact .inl h0
    · cases ha
      exact .inr ⟨_, _, rfl, Nat.lt_of_lt_of_le hlt hg.size, fun j hj => (hg.cell_far ⟨w.heap.size + 1, 0 + j, none⟩ hlt (fun e => by have e' : w.heap.size + 1 = B := Option.some.inj e; omega)).trans (hs j hj)⟩
theorem env_new (w : World) (p q : Int) : Env w [p, q] (((w.alloc (.cells #[.string ⟨#[120]⟩, .string ⟨#[121]⟩] 9)).alloc (.cells #[.int .i64 p, .int .i64 q] 3)).alloc (.cells #[.int .i64 0] 3)) := by
  have b1 : Below w.heap.size w (w.alloc (.cells #[.string ⟨#[120]⟩, .string ⟨#[121]⟩] 9)) := (Below.refl _ _).alloc (Nat.le_refl _) _
  have s1 : (w.alloc (.cells #[.string ⟨#[120]⟩, .string ⟨#[121]⟩] 9)).heap.size = w.heap.size + 1 := by simp
  have n1 := heap_alloc_new w (.cells #[.string ⟨#[120]⟩, .string ⟨#[121]⟩] 9)
  generalize w.alloc (.cells #[.string ⟨#[120]⟩, .string ⟨#[121]⟩] 9) = W1 at *
  have b2 : Below W1.heap.size W1 (W1.alloc (.cells #[.int .i64 p, .int .i64 q] 3)) := (Below.refl _ _).alloc (Nat.le_refl _) _
  have s2 : (W1.alloc (.cells #[.int .i64 p, .int .i64 q] 3)).heap.size = W1.heap.size + 1 := by simp
  have n2 := heap_alloc_new W1 (.cells #[.int .i64 p, .int .i64 q] 3)
  generalize W1.alloc (.cells #[.int .i64 p, .int .i64 q] 3) = W2 at *
  have b3 : Below W2.heap.size W2 (W2.alloc (.cells #[.int .i64 0] 3)) := (Below.refl _ _).alloc (Nat.le_refl _) _
  have s3 : (W2.alloc (.cells #[.int .i64 0] 3)).heap.size = W2.heap.size + 1 := by simp
  generalize W2.alloc (.cells #[.int .i64 0] 3) = W3 at *
  have n1' : W3.heap[w.heap.size]? = _ := ((b2.trans (b3.mono (by omega))).block w.heap.size (by omega)).trans n1
  rw [s1] at n2
  have n2' : W3.heap[w.heap.size + 1]? = _ := (b3.block _ (by omega)).trans n2
  refine ⟨⟨rfl, .inr ⟨_, _, rfl, by omega, fun j hj => ?_⟩⟩, ⟨rfl, .inr ⟨_, _, rfl, by omega, fun j hj => ?_⟩⟩, b1.trans ((b2.trans (b3.mono (by omega))).mono (by omega)), by omega⟩
  · rw [Lib.cell_of_heap n1']
    have : j = 0 ∨ j = 1 := by simp [xyL] at hj; omega
    rcases this with rfl | rfl <;> rfl
  · rw [Lib.cell_of_heap n2']
    have : j = 0 ∨ j = 1 := by simp at hj; omega
    rcases this with rfl | rfl <;> rfl
theorem box_new (w : World) (p q : Int) : (((w.alloc (.cells #[.string ⟨#[120]⟩, .string ⟨#[121]⟩] 9)).alloc (.cells #[.int .i64 p, .int .i64 q] 3)).alloc (.cells #[.int .i64 0] 3)).heap[w.heap.size + 1 + 1]? = some (.cells (boxC 0) 3 (0, 0)) := by
  have := heap_alloc_new ((w.alloc (.cells #[.string ⟨#[120]⟩, .string ⟨#[121]⟩] 9)).alloc (.cells #[.int .i64 p, .int .i64 q] 3)) (.cells #[.int .i64 0] 3)
  simp only [World.size_alloc] at this
  exact this
theorem ints_below {w W : World} {a : Option Addr} {n : Nat} {l : List Int} (h : Ints w a n l) (hb : Below w.heap.size w W) {B : Nat} (hB : w.heap.size ≤ B) : IntsB W B a n l := by
  obtain ⟨hn, h0 | ⟨b, o, ha, hlt, hs⟩⟩ := h
  · exact ⟨hn, .inl h0⟩
  · exact ⟨hn, .inr ⟨b, o, ha, by omega, fun j hj => (hb.cell (p := ⟨b, _, none⟩) hlt).trans (hs j hj)⟩⟩

end Go.Proofs.YtkmncmceheggjaaDoor
