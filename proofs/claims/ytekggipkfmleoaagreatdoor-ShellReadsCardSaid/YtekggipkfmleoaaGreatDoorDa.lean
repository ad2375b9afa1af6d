/- Scripts from bytes, plain; wire.Reader; shell.signed, rest, Decode. -/
import Derived.Test.YtekggipkfmleoaaGreatDoorWa
import Derived.Deep.QuietTactic
import Derived.BigQuiet
import Derived.Laws.Strings
import Derived.Laws.IdiomStrings
import Derived.Laws.BitsAllLaws
import Derived.Lib.BufferRead
import Derived.Test.YtekggipkfmleoaaGreatDoorEa
import Derived.Deep.RegionLaw
import Derived.Deep.CutBlock
import Derived.Deep.DeepCutAuto
import Derived.Deep.AppendLies
set_option linter.unusedVariables false
set_option linter.unusedSimpArgs false
namespace Go.Proofs.YtekggipkfmleoaaGreatDoor
open Go.RowKit

/-- bytes as a number, the highest first -/
def numB (l : List UInt8) : Nat := l.foldl (fun n c => n * 256 + c.toNat) 0
abbrev RSt := Option (List UInt8)
/-- what is left to read (none: refused); k bytes read as a number -/
def gB (k : Nat) (s : RSt) : Nat × RSt := match s with
  | none => (0, none)
  | some r => if k ≤ r.length then (numB (r.take k), some (r.drop k)) else (0, none)
def s32 (n : Nat) : Int := if n < 2147483648 then n else (n : Int) - 4294967296
def gS (s : RSt) : Int × RSt := (s32 (gB 4 s).1, (gB 4 s).2)
def gRaw (k : Nat) (s : RSt) : List UInt8 × RSt := match s with
  | none => ([], none)
  | some r => if k ≤ r.length then (r.take k, some (r.drop k)) else ([], none)
/-- a number of at most so much -/
def gC (most : Nat) (s : RSt) : Nat × RSt := if most < (gB 4 s).1 then (0, none) else gB 4 s
def gT (most : Nat) (s : RSt) : ByteArray × RSt := (⟨(gRaw (gC most s).1 (gC most s).2).1.toArray⟩, (gRaw (gC most s).1 (gC most s).2).2)
def gOp (s : RSt) : OpT × RSt :=
  let a := gB 1 s
  let b := gT 255 a.2
  let c := gT 255 b.2
  let d := gS c.2
  (⟨a.1, b.1, c.1, d.1⟩, d.2)
def gOps (k : Nat) : RSt → List OpT × RSt := Nat.rec (motive := fun _ => RSt → List OpT × RSt) (fun s => ([], s)) (fun _ ih s => ((gOp s).1 :: (ih (gOp s).2).1, (ih (gOp s).2).2)) k
theorem gOps_succ (k : Nat) (s : RSt) : gOps (k + 1) s = ((gOp s).1 :: (gOps k (gOp s).2).1, (gOps k (gOp s).2).2) := rfl
def gNums (k : Nat) : RSt → List Int × RSt := Nat.rec (motive := fun _ => RSt → List Int × RSt) (fun s => ([], s)) (fun _ ih s => ((gS s).1 :: (ih (gS s).2).1, (ih (gS s).2).2)) k
theorem gNums_succ (k : Nat) (s : RSt) : gNums (k + 1) s = ((gS s).1 :: (gNums k (gS s).2).1, (gNums k (gS s).2).2) := rfl
def itOf (kind : Int) (l : List Int) (ops : List OpT) : ItT := ⟨kind, l.getD 0 0, l.getD 1 0, l.getD 2 0, l.getD 3 0, l.getD 4 0, l.getD 5 0, ops⟩
/-- what stands behind an item's kind -/
def gItem (kind : Int) (r : List UInt8) : Option (ItT × List UInt8) :=
  let a := gNums 6 (some r)
  let b := gB 1 a.2
  if 4 < b.1 then none else
    let c := gOps b.1 b.2
    match c.2 with
    | none => none
    | some t => some (itOf kind a.1 c.1, t)
/-- items of bytes: f bounds the steps, m the items -/
def decL (f : Nat) : Nat → List UInt8 → List ItT := Nat.rec (motive := fun _ => Nat → List UInt8 → List ItT) (fun _ _ => [])
  (fun _ ih m r => match r with
    | [] => []
    | c :: t => if m = 0 then [] else if c.toNat < 1 ∨ 9 < c.toNat then ih m t else
      match gItem c.toNat t with
      | none => []
      | some (x, t') => x :: ih (m - 1) t') f
def decP (b : List UInt8) : List ItT := decL (b.length + 1) 2048 b
theorem decL_nil (f m : Nat) : decL f m [] = [] := by cases f <;> rfl
theorem decL_cons (f m : Nat) (c : UInt8) (t : List UInt8) : decL (f + 1) m (c :: t) = if m = 0 then [] else if c.toNat < 1 ∨ 9 < c.toNat then decL f m t else
      match gItem c.toNat t with
      | none => []
      | some (x, t') => x :: decL f (m - 1) t' := rfl

/-! ### what is read gets shorter -/
theorem gB_len (k : Nat) (s : RSt) (r : List UInt8) (h : (gB k s).2 = some r) : ∃ r0, s = some r0 ∧ r0.length = r.length + k := by
  unfold gB at h
  cases s with
  | none => cases h
  | some r0 =>
    simp only at h
    split at h
    · simp only [Option.some.injEq] at h
      refine ⟨r0, rfl, ?_⟩
      rw [← h, List.length_drop]
      omega
    · cases h
theorem gC_len (most : Nat) (s : RSt) (r : List UInt8) (h : (gC most s).2 = some r) : ∃ r0, s = some r0 ∧ r0.length = r.length + 4 := by
  unfold gC at h
  split at h
  · cases h
  · exact gB_len 4 s r h
theorem gRaw_len (k : Nat) (s : RSt) (r : List UInt8) (h : (gRaw k s).2 = some r) : ∃ r0, s = some r0 ∧ r.length ≤ r0.length := by
  unfold gRaw at h
  cases s with
  | none => cases h
  | some r0 =>
    simp only at h
    split at h
    · simp only [Option.some.injEq] at h
      refine ⟨r0, rfl, ?_⟩
      rw [← h, List.length_drop]
      omega
    · cases h
theorem gT_len (most : Nat) (s : RSt) (r : List UInt8) (h : (gT most s).2 = some r) : ∃ r0, s = some r0 ∧ r.length + 4 ≤ r0.length := by
  obtain ⟨r1, h1, l1⟩ := gRaw_len _ _ _ h
  obtain ⟨r0, h0, l0⟩ := gC_len _ _ _ h1
  exact ⟨r0, h0, by omega⟩
theorem gOp_len (s : RSt) (r : List UInt8) (h : (gOp s).2 = some r) : ∃ r0, s = some r0 ∧ r.length ≤ r0.length := by
  obtain ⟨r1, h1, l1⟩ := gB_len 4 _ _ h
  obtain ⟨r2, h2, l2⟩ := gT_len _ _ _ h1
  obtain ⟨r3, h3, l3⟩ := gT_len _ _ _ h2
  obtain ⟨r4, h4, l4⟩ := gB_len 1 _ _ h3
  exact ⟨r4, h4, by omega⟩
theorem gOps_len : ∀ (k : Nat) (s : RSt) (r : List UInt8), (gOps k s).2 = some r → ∃ r0, s = some r0 ∧ r.length ≤ r0.length
  | 0, s, r, h => ⟨r, h, Nat.le_refl _⟩
  | k + 1, s, r, h => by
    obtain ⟨r1, h1, l1⟩ := gOps_len k _ _ h
    obtain ⟨r0, h0, l0⟩ := gOp_len _ _ h1
    exact ⟨r0, h0, by omega⟩
theorem gNums_len : ∀ (k : Nat) (s : RSt) (r : List UInt8), (gNums k s).2 = some r → ∃ r0, s = some r0 ∧ r.length ≤ r0.length
  | 0, s, r, h => ⟨r, h, Nat.le_refl _⟩
  | k + 1, s, r, h => by
    obtain ⟨r1, h1, l1⟩ := gNums_len k _ _ h
    obtain ⟨r0, h0, l0⟩ := gB_len 4 _ _ h1
    exact ⟨r0, h0, by omega⟩
theorem gItem_len {kind : Int} {r t : List UInt8} {x : ItT} (h : gItem kind r = some (x, t)) : t.length ≤ r.length := by
  unfold gItem at h
  simp only at h
  split at h
  · cases h
  · split at h
    · cases h
    · rename_i t' h1
      cases h
      obtain ⟨r2, h2, l2⟩ := gOps_len _ _ _ h1
      obtain ⟨r3, h3, l3⟩ := gB_len _ _ _ h2
      obtain ⟨r4, h4, l4⟩ := gNums_len _ _ _ h3
      cases h4
      omega
/-- enough steps are enough -/
theorem decL_fuel : ∀ (f g m : Nat) (r : List UInt8), r.length < f → r.length < g → decL f m r = decL g m r
  | 0, _, _, _, h, _ => absurd h (Nat.not_lt_zero _)
  | _ + 1, 0, _, _, _, h => absurd h (Nat.not_lt_zero _)
  | f + 1, g + 1, m, [], _, _ => by rw [decL_nil, decL_nil]
  | f + 1, g + 1, m, c :: t, hf, hg => by
    rw [decL_cons, decL_cons]
    simp only [List.length_cons] at hf hg
    split
    · rfl
    split
    · exact decL_fuel f g m t (by omega) (by omega)
    · cases hi : gItem c.toNat t with
      | none => rfl
      | some p =>
        obtain ⟨x, t'⟩ := p
        have := gItem_len hi
        simp only
        rw [decL_fuel f g (m - 1) t' (by omega) (by omega)]

/-! ### what was written is read -/
theorem num1 (n : Int) : (numB (beN n 1) : Int) = n % 256 := by
  have : numB (beN n 1) = 0 * 256 + (bN n 0).toNat := rfl
  rw [this]
  have := bN_toNat n 0
  simp at this
  omega
theorem num4 (n : Int) : (numB (beN n 4) : Int) = n % 4294967296 := by
  have : numB (beN n 4) = (((0 * 256 + (bN n 3).toNat) * 256 + (bN n 2).toNat) * 256 + (bN n 1).toNat) * 256 + (bN n 0).toNat := rfl
  rw [this]
  have h0 := bN_toNat n 0
  have h1 := bN_toNat n 1
  have h2 := bN_toNat n 2
  have h3 := bN_toNat n 3
  simp at h0 h1 h2 h3
  omega
theorem gB_app (n : Int) (k : Nat) (t : List UInt8) : gB k (some (beN n k ++ t)) = (numB (beN n k), some t) := by
  unfold gB
  simp only
  rw [if_pos (by rw [List.length_append, beN_len]; omega)]
  congr 2
  · rw [List.take_append_of_le_length (by rw [beN_len]; exact Nat.le_refl _), List.take_of_length_le (by rw [beN_len]; exact Nat.le_refl _)]
  · rw [List.drop_append_of_le_length (by rw [beN_len]; exact Nat.le_refl _), List.drop_of_length_le (by rw [beN_len]; exact Nat.le_refl _)]; rfl
theorem sm_of {n : Int} (h : sm n = true) : -2147483648 ≤ n ∧ n ≤ 2147483647 := by
  unfold sm at h
  exact of_decide_eq_true h
theorem gS_app {n : Int} (h : sm n = true) (t : List UInt8) : gS (some (beN n 4 ++ t)) = (n, some t) := by
  obtain ⟨h1, h2⟩ := sm_of h
  unfold gS
  rw [gB_app]
  have := num4 n
  simp only
  congr 1
  unfold s32
  split <;> omega
theorem gB1_app {n : Int} (h0 : 0 ≤ n) (h1 : n ≤ 255) (t : List UInt8) : gB 1 (some (beN n 1 ++ t)) = (n.toNat, some t) := by
  rw [gB_app]
  have := num1 n
  congr 1
  omega
theorem gT_app {s : ByteArray} (h : s.size ≤ 255) (t : List UInt8) : gT 255 (some (textB s ++ t)) = (s, some t) := by
  have hn := num4 s.size
  have e : gC 255 (some (textB s ++ t)) = (s.size, some (s.data.toList ++ t)) := by
    unfold gC textB
    rw [List.append_assoc, gB_app]
    rw [if_neg (by simp only; omega)]
    congr 1
    omega
  unfold gT
  rw [e]
  have hl : s.data.toList.length = s.size := by rw [Array.length_toList]; rfl
  have e2 : gRaw s.size (some (s.data.toList ++ t)) = (s.data.toList, some t) := by
    unfold gRaw
    simp only
    rw [if_pos (by rw [List.length_append]; omega)]
    congr 2
    · rw [List.take_append_of_le_length (by omega), List.take_of_length_le (by omega)]
    · rw [List.drop_append_of_le_length (by omega), List.drop_of_length_le (by omega)]; rfl
  simp only
  rw [e2]
theorem gOp_app {o : OpT} (h : opOk o = true) (t : List UInt8) : gOp (some (opB o ++ t)) = (o, some t) := by
  unfold opOk at h
  simp only [Bool.and_eq_true, decide_eq_true_eq] at h
  obtain ⟨⟨h1, h2⟩, h3, h4, h5⟩ := h
  unfold gOp opB
  simp only [List.append_assoc]
  rw [gB1_app h1 h2]
  simp only
  rw [gT_app h3]
  simp only
  rw [gT_app h4]
  simp only
  rw [gS_app h5]
  obtain ⟨k, c, n, m⟩ := o
  simp only at h1 ⊢
  congr
  exact Int.toNat_of_nonneg h1
theorem gOps_app : ∀ (l : List OpT) (t : List UInt8), l.all opOk = true → gOps l.length (some (opsB l ++ t)) = (l, some t)
  | [], t, _ => rfl
  | o :: r, t, h => by
    rw [List.all_cons, Bool.and_eq_true] at h
    have e : opsB (o :: r) ++ t = opB o ++ (opsB r ++ t) := by unfold opsB; rw [List.flatMap_cons, List.append_assoc]
    rw [List.length_cons, gOps_succ, e, gOp_app h.1]
    simp only
    rw [gOps_app r t h.2]
theorem gNums_app : ∀ (l : List Int) (t : List UInt8), l.all sm = true → gNums l.length (some (fours l ++ t)) = (l, some t)
  | [], t, _ => rfl
  | o :: r, t, h => by
    rw [List.all_cons, Bool.and_eq_true] at h
    have e : fours (o :: r) ++ t = beN o 4 ++ (fours r ++ t) := by unfold fours; rw [List.flatMap_cons, List.append_assoc]
    rw [List.length_cons, gNums_succ, e, gS_app h.1]
    simp only
    rw [gNums_app r t h.2]
theorem gItem_app {x : ItT} (h : itOk x = true) (t : List UInt8) : gItem x.kind (fours (nums x) ++ (beN x.ops.length 1 ++ (opsB x.ops ++ t))) = some (x, t) := by
  unfold itOk at h
  simp only [Bool.and_eq_true, decide_eq_true_eq] at h
  obtain ⟨⟨h1, h2⟩, h3, h4, h5⟩ := h
  have e1 := gNums_app (nums x) (beN x.ops.length 1 ++ (opsB x.ops ++ t)) h4
  rw [show (nums x).length = 6 from rfl] at e1
  unfold gItem
  simp only
  rw [e1]
  simp only
  rw [gB1_app (by omega) (by omega)]
  simp only [Int.toNat_natCast]
  rw [if_neg (by omega), gOps_app x.ops t h5]
  rfl
theorem itB_eq {x : ItT} (h : itOk x = true) (t : List UInt8) : ∃ c : UInt8, (c.toNat : Int) = x.kind ∧ itB x ++ t = c :: (fours (nums x) ++ (beN x.ops.length 1 ++ (opsB x.ops ++ t))) := by
  unfold itOk at h
  simp only [Bool.and_eq_true, decide_eq_true_eq] at h
  refine ⟨bN x.kind 0, ?_, ?_⟩
  · have := bN_toNat x.kind 0
    simp at this
    omega
  · unfold itB
    rw [List.append_assoc, List.append_assoc, List.append_assoc]
    rfl
/-- W6: what is written is read as itself, and what stands behind it as if alone -/
theorem decL_app : ∀ (l : List ItT) (f m : Nat) (t : List UInt8), l.all itOk = true → l.length ≤ m → (itsB l ++ t).length < f → decL f m (itsB l ++ t) = l ++ decL f (m - l.length) t
  | [], f, m, t, _, _, _ => by simp [itsB]
  | x :: r, f, m, t, h, hm, hf => by
    rw [List.all_cons, Bool.and_eq_true] at h
    have e : itsB (x :: r) ++ t = itB x ++ (itsB r ++ t) := by unfold itsB; rw [List.flatMap_cons, List.append_assoc]
    obtain ⟨c, hc, e2⟩ := itB_eq h.1 (itsB r ++ t)
    have hk := h.1
    unfold itOk at hk
    simp only [Bool.and_eq_true, decide_eq_true_eq] at hk
    rw [e, e2] at hf ⊢
    simp only [List.length_cons] at hf hm
    cases f with
    | zero => omega
    | succ f =>
      rw [decL_cons, if_neg (by omega), if_neg (by omega), hc, gItem_app h.1]
      simp only
      have hl : (itsB r ++ t).length < f := by
        simp only [List.length_append] at hf ⊢
        omega
      rw [decL_app r f (m - 1) t h.2 (by omega) hl, List.cons_append, List.length_cons, show m - 1 - r.length = m - (r.length + 1) by omega]
      have ht : t.length < f := by
        rw [List.length_append] at hl
        omega
      rw [decL_fuel f (f + 1) _ t ht (by omega)]
theorem decP_its {l : List ItT} (h : l.all itOk = true) (hl : l.length ≤ 2048) : decP (itsB l) = l := by
  have := decL_app l ((itsB l).length + 1) 2048 [] h hl (by rw [List.append_nil]; omega)
  rw [List.append_nil, decL_nil, List.append_nil] at this
  exact this
end Go.Proofs.YtekggipkfmleoaaGreatDoor

namespace Go.Proofs.YtekggipkfmleoaaGreatDoor
open Go.RowKit

/-- the bytes lie in another block than the reader -/
def BLies (b : Nat) (a : Option Addr) (bs : List UInt8) (W : World) : Prop := (a = none ∧ bs = []) ∨ ∃ g o, a = some ⟨g, o, none⟩ ∧ (g ≠ b ∧ ∃ cs, W.heap[g]? = some (.cells cs 5 (0, 0))) ∧ ∀ j x, bs[j]? = some x → W.cell? ⟨g, o + j, none⟩ = some (.int .u8 (x.toNat : Int))
def stOk (bs : List UInt8) (st : RSt) (at_ : Nat) (why : Int) : Prop := at_ ≤ bs.length ∧ match st with
  | some r => why = 0 ∧ r = bs.drop at_
  | none => why = 10 ∨ why = 3
def RdC (b : Nat) (a : Option Addr) (n c at_ : Nat) (why fin : Int) (W : World) : Prop := W.heap[b]? = some (.cells #[.slice a n c, .int .i64 (at_ : Int), .int .i64 why, .int .i64 fin] 73 (0, 0))
/-- a reader over these bytes; what is left to read -/
def RdAt (b : Nat) (bs : List UInt8) (st : RSt) (W : World) : Prop := ∃ a c at_ why fin, RdC b a bs.length c at_ why fin W ∧ bs.length ≤ c ∧ c ≤ maxLen ∧ BLies b a bs W ∧ stOk bs st at_ why

theorem BLies.kept {b : Nat} {a : Option Addr} {bs : List UInt8} {W W' : World} (h : BLies b a bs W) (hg : W.grownBy W' (some b)) : BLies b a bs W' := by
  rcases h with h | ⟨g, o, rfl, hgb, hs⟩
  · exact .inl h
  · obtain ⟨hgb, cs, hcs⟩ := hgb
    refine .inr ⟨g, o, rfl, ⟨hgb, cs, (hg.block g (Array.getElem?_eq_some_iff.1 hcs).1 (by simpa using hgb)).trans hcs⟩, fun j x hj => ?_⟩
    have h1 := hs j x hj
    have hlt : g < W.heap.size := World.block_lt_of_cell? W _ h1
    exact (hg.cell_far ⟨g, o + j, none⟩ hlt (by simpa using hgb)).trans h1
theorem grown_set (W : World) (b k : Nat) (u : Value) : W.grownBy (W.setCell ⟨b, k, none⟩ u) (some b) := ⟨rfl, rfl, rfl, by simp [World.setCell], fun k hk hb => Below.heap_setCell _ _ _ _ (fun e => hb (by simp [e]))⟩
theorem grown_q (W : World) (p q b k : Nat) (u : Value) : W.grownBy (((W.drewN p).setCell ⟨b, k, none⟩ u).drewN q) (some b) := ⟨rfl, rfl, rfl, by simp [World.setCell, World.drewN], fun k hk hb => Below.heap_setCell W _ _ _ (fun e => hb (by simp [e]))⟩
theorem grown_drew {W W' : World} {r : Option Nat} (h : W.grownBy W' r) : W.grownBy W'.drew r := ⟨h.os, h.tape, h.output, h.size, h.block⟩
theorem grown_refl (W : World) (r : Option Nat) : W.grownBy W r := ⟨rfl, rfl, rfl, Nat.le_refl _, fun _ _ _ => rfl⟩
theorem RdC.drew {b : Nat} {a : Option Addr} {n c at_ : Nat} {why fin : Int} {W : World} (h : RdC b a n c at_ why fin W) : RdC b a n c at_ why fin W.drew := h
theorem RdC.set1 {b : Nat} {a : Option Addr} {n c at_ at' : Nat} {why fin z : Int} {W : World} (h : RdC b a n c at_ why fin W) (hz : z = (at' : Int)) : RdC b a n c at' why fin (W.setCell ⟨b, 1, none⟩ (.int .i64 z)) := by
  subst hz
  unfold RdC at *
  simp [World.setCell, Array.getElem?_modify, h]
theorem RdC.set23 {b : Nat} {a : Option Addr} {n c at_ : Nat} {why fin why' fin' : Int} {W : World} (h : RdC b a n c at_ why fin W) : RdC b a n c at_ why' fin' ((W.setCell ⟨b, 2, none⟩ (.int .i64 why')).setCell ⟨b, 3, none⟩ (.int .i64 fin')) := by
  unfold RdC at *
  simp [World.setCell, Array.getElem?_modify, h]
theorem RdC.cells {b : Nat} {a : Option Addr} {n c at_ : Nat} {why fin : Int} {W : World} (h : RdC b a n c at_ why fin W) :
    W.cell? ⟨b, 0, none⟩ = some (.slice a n c) ∧ W.cell? ⟨b, 1, none⟩ = some (.int .i64 (at_ : Int)) ∧ W.cell? ⟨b, 2, none⟩ = some (.int .i64 why) ∧ W.cell? ⟨b, 3, none⟩ = some (.int .i64 fin) ∧ ∀ k, W.frozen? ⟨b, k, none⟩ = false := by
  unfold RdC at h
  refine ⟨?_, ?_, ?_, ?_, fun k => Lib.frozen_of_heap h k⟩
  all_goals
    rw [Lib.cell_of_heap h]
    rfl

theorem newReader_any (v : Value) (bs : List UInt8) (w : World) (h : ByAt w v bs) (hlen : bs.length ≤ 1099511627776) :
    Calls Tryz.prog 18 #[v] w fun e w' => ∃ b, e = .returned (.pointer (some ⟨b, 0, none⟩)) ∧ w.heap.size ≤ b ∧ RdAt b bs (some bs) w' ∧ Below w.heap.size w w' := by
  go_enter Tryz.func18, Tryz.ntmps18
  go_wp2_with (fail)
  refine (clone_any v bs w h hlen).mono ?_
  rintro e w1 ⟨v1, rfl, hown, hb⟩
  obtain ⟨a1, n1, q1, rfl⟩ : ∃ a1 n1 q1, v1 = .slice a1 n1 q1 := by
    rcases hown.2 with ⟨hv, _⟩ | ⟨g, cap, cur, hv, _⟩
    · exact ⟨_, _, _, hv⟩
    · exact ⟨_, _, _, hv⟩
  have Ho := Lib.hid hown
  have Hb := Lib.hid hb
  clear hown hb
  go_wp2_with (fail)
  go_ret
  have hz := Hb.out.size
  refine ⟨_, rfl, hz, ?_, Hb.out.alloc hz _⟩
  obtain ⟨hl, ⟨hv, h0⟩ | ⟨g, cap, cur, hv, hg, hh, h1, h2, h3, h4⟩⟩ := Ho.out
  all_goals cases hv
  · have : bs = [] := List.eq_nil_of_length_eq_zero h0
    subst this
    exact ⟨none, 0, 0, 0, 0, heap_alloc_new w1 _, Nat.le_refl _, by unfold maxLen; omega, .inl ⟨rfl, rfl⟩, Nat.le_refl _, rfl, rfl⟩
  · have hlt : g < w1.heap.size := (Array.getElem?_eq_some_iff.1 hh).1
    refine ⟨_, q1, 0, 0, 0, heap_alloc_new w1 _, h1, h2, .inr ⟨g, 0, rfl, ⟨by omega, _, (Below.heap_alloc w1 _ g hlt).trans hh⟩, fun j x hj => ?_⟩, Nat.zero_le _, rfl, rfl⟩
    have ho : w1.ownsRow w.heap.size 5 1 (.slice (some ⟨g, 0, none⟩) bs.length q1) bs.length (Lib.byteCells bs) := ⟨hl, .inr ⟨g, q1, cur, rfl, hg, hh, h1, h2, h3, h4⟩⟩
    obtain ⟨a', c', e1, h | ⟨g', o', e2, h⟩⟩ := ByAt.of_own ho
    · cases e1; cases h.1
    · cases e1
      cases e2
      exact ((((Below.refl w1.heap.size w1).alloc (Nat.le_refl _) _).cell (p := ⟨g, 0 + j, none⟩) hlt)).trans (h j x hj)

theorem refuse_any (b : Nat) (a : Option Addr) (n c at_ : Nat) (fin why' fin' : Int) (w : World) (h : RdC b a n c at_ 0 fin w) :
    Calls Tryz.prog 81 #[.pointer (some ⟨b, 0, none⟩), .int .i64 why', .int .i64 fin'] w fun e w' => e = .returned (.tuple #[]) ∧ RdC b a n c at_ why' fin' w' ∧ w.grownBy w' (some b) := by
  have HC := Lib.hid h
  obtain ⟨c0, c1, c2, c3, hf⟩ := h.cells
  have f2 := hf 2
  have f3 := hf 3
  clear h hf
  go_enter Tryz.func81, Tryz.ntmps81
  go_wp2
  go_end0
  exact ⟨rfl, HC.out.set23, ⟨rfl, rfl, rfl, by simp [World.setCell], fun k hk hb => (Below.heap_setCell _ _ _ _ (fun e => hb (by simp [e]))).trans (Below.heap_setCell _ _ _ _ (fun e => hb (by simp [e])))⟩⟩
theorem refuse_not (b : Nat) (a : Option Addr) (n c at_ : Nat) (why fin why' fin' : Int) (w : World) (h : RdC b a n c at_ why fin w) (hw : why ≠ 0) :
    Calls Tryz.prog 81 #[.pointer (some ⟨b, 0, none⟩), .int .i64 why', .int .i64 fin'] w fun e w' => e = .returned (.tuple #[]) ∧ w' = w := by
  obtain ⟨c0, c1, c2, c3, hf⟩ := h.cells
  have hwB : (why == 0) = false := by simpa using hw
  clear h hf hw
  go_enter Tryz.func81, Tryz.ntmps81
  go_wp2
  go_end0
  exact ⟨rfl, rfl⟩

theorem addr_add (g o k : Nat) : (⟨g, o, none⟩ : Addr).add k = ⟨g, o + k, none⟩ := by
  unfold Addr.add
  split
  · rename_i h; subst h; rfl
  · rfl
theorem byAt_of {b : Nat} {a : Option Addr} {bs : List UInt8} {W : World} {at_ n c : Nat} (h : BLies b a bs W) (hk : n ≤ bs.length - at_) : ByAt W (.slice (Option.map (fun x => x.add at_) a) n c) ((bs.drop at_).take n) := by
  have hl : ((bs.drop at_).take n).length = n := by rw [List.length_take, List.length_drop]; omega
  refine ⟨Option.map (fun x => x.add at_) a, c, by rw [hl], ?_⟩
  rcases h with ⟨rfl, rfl⟩ | ⟨g, o, rfl, hgb, hs⟩
  · exact .inl ⟨rfl, by simp⟩
  · refine .inr ⟨g, o + at_, by show some ((⟨g, o, none⟩ : Addr).add at_) = _; rw [addr_add], fun j x hj => ?_⟩
    rw [Nat.add_assoc]
    refine hs (at_ + j) x ?_
    rw [List.getElem?_take] at hj
    split at hj
    · rw [List.getElem?_drop] at hj
      exact hj
    · cases hj
theorem byAt_zero {b : Nat} {a : Option Addr} {bs l : List UInt8} {W : World} {n c : Nat} (h : BLies b a bs W) (hn : n = 0) : ByAt W (.slice a n c) (l.take n) := by
  subst hn
  rw [List.take_zero]
  refine ⟨a, c, rfl, ?_⟩
  rcases h with ⟨rfl, rfl⟩ | ⟨g, o, rfl, hgb, hs⟩
  · exact .inl ⟨rfl, rfl⟩
  · exact .inr ⟨g, o, rfl, fun j x hj => by simp at hj⟩
theorem gRaw_none (k : Nat) : gRaw k none = ([], none) := rfl
theorem gRaw_ok {k : Nat} {r : List UInt8} (h : k ≤ r.length) : gRaw k (some r) = (r.take k, some (r.drop k)) := by unfold gRaw; simp only; rw [if_pos h]
theorem gRaw_no {k : Nat} {r : List UInt8} (h : ¬ k ≤ r.length) : gRaw k (some r) = ([], none) := by unfold gRaw; simp only; rw [if_neg h]
theorem ByAt.nil (w : World) : ByAt w (.slice none 0 0) [] := ⟨none, 0, rfl, .inl ⟨rfl, rfl⟩⟩

set_option maxHeartbeats 2000000 in
set_option maxRecDepth 100000 in
theorem take_any (b : Nat) (bs : List UInt8) (st : RSt) (n : Nat) (w : World) (h : RdAt b bs st w) (hn : n ≤ 1099511627776) (hlen : bs.length ≤ 1099511627776) :
    Calls Tryz.prog 51 #[.pointer (some ⟨b, 0, none⟩), .int .i64 n] w fun e w' => ∃ v, e = .returned v ∧ ByAt w' v (gRaw n st).1 ∧ RdAt b bs (gRaw n st).2 w' ∧ w.grownBy w' (some b) := by
  obtain ⟨a, c, at_, why, fin, hC, hbc, hcm, hL, hat, hst⟩ := h
  have HC := Lib.hid hC
  obtain ⟨c0, c1, c2, c3, hf⟩ := hC.cells
  have f1 := hf 1
  clear hf hC
  cases st with
  | none =>
    have hw : why ≠ 0 := by rcases hst with h | h <;> omega
    have hwB : (why != 0) = true := by simpa using hw
    have Hst := Lib.hid hst; clear hst hw
    go_enter Tryz.func51, Tryz.ntmps51
    go_wp2
    go_ret
    exact ⟨_, rfl, ByAt.nil _, ⟨a, c, at_, why, fin, HC.out, hbc, hcm, hL, hat, Hst.out⟩, grown_refl _ _⟩
  | some r =>
    obtain ⟨rfl, rfl⟩ := hst
    have HL := Lib.hid hL; clear hL
    have hwx : IntKind.i64.wrap ((bs.length : Int) - (at_ : Int)) = (bs.length : Int) - (at_ : Int) := by rw [IntKind.wrap_i64]; omega
    by_cases hk : n ≤ (bs.drop at_).length
    · rw [gRaw_ok hk]
      rw [List.length_drop] at hk
      have hwy : IntKind.i64.wrap ((at_ : Int) + (n : Int)) = (at_ : Int) + (n : Int) := by rw [IntKind.wrap_i64]; omega
      have hwz : IntKind.i64.wrap ((at_ : Int) + (n : Int) - (n : Int)) = (at_ : Int) := by rw [IntKind.wrap_i64]; omega
      have hg1 : ¬ ((bs.length : Int) - (at_ : Int) < (n : Int)) := by omega
      have hdB : decide ((bs.length : Int) - (at_ : Int) < (n : Int)) = false := by simpa using hg1
      have hC2 : RdC b a bs.length c (at_ + n) 0 fin (w.drew.setCell ⟨b, 1, none⟩ (.int .i64 ((at_ : Int) + (n : Int)))) := HC.out.drew.set1 (by omega)
      obtain ⟨d0, d1, d2, d3, hf2⟩ := hC2.cells
      rw [show ((at_ + n : Nat) : Int) = (at_ : Int) + (n : Int) by omega] at d1
      have hi0 : (0 : Int) ≤ (at_ : Int) := by omega
      have hi1 : (at_ : Int) ≤ (at_ : Int) + (n : Int) := by omega
      have hi2 : (at_ : Int) + (n : Int) ≤ (c : Int) := by omega
      have HC2 := Lib.hid hC2; clear hC2 hf2
      go_enter Tryz.func51, Tryz.ntmps51
      go_wp2
      go_quiet (fail)
      go_wp2
      go_quiet (fail)
      go_wp2
      all_goals
        go_ret
        have hg := fun p q => grown_q w p q b 1 (.int .i64 ((at_ : Int) + (n : Int)))
        have hL2 := fun p q => HL.out.kept (hg p q)
        have hC3 := fun p q : Nat => HC2.out
        first
          | exact ⟨_, rfl, byAt_of (hL2 _ _) hk, ⟨_, _, _, _, _, hC3 0 0, hbc, hcm, hL2 _ _, by omega, rfl, rfl⟩, hg _ _⟩
          | exact ⟨_, rfl, byAt_zero (hL2 _ _) (by omega), ⟨_, _, _, _, _, hC3 0 0, hbc, hcm, hL2 _ _, by omega, rfl, rfl⟩, hg _ _⟩
    · rw [gRaw_no hk]
      rw [List.length_drop] at hk
      have hdB : decide ((bs.length : Int) - (at_ : Int) < (n : Int)) = true := by simp; omega
      go_enter Tryz.func51, Tryz.ntmps51
      go_wp2
      go_quiet (fail)
      go_wp2_with (fail)
      refine (refuse_any b a bs.length c at_ fin 10 _ (w.drewN _) HC.out).mono ?_
      rintro e w' ⟨rfl, hC', hg⟩
      go_wp2
      go_ret
      have hg2 : w.grownBy w' (some b) := ⟨hg.os, hg.tape, hg.output, hg.size, hg.block⟩
      exact ⟨_, rfl, ByAt.nil _, ⟨a, c, at_, 10, _, hC', hbc, hcm, HL.out.kept hg2, hat, .inl rfl⟩, hg2⟩

theorem gRaw_len1 (k : Nat) (st : RSt) : (gRaw k st).1.length ≤ k := by
  unfold gRaw
  cases st with
  | none => exact Nat.zero_le _
  | some r =>
    simp only
    split
    · simp only [List.length_take]; omega
    · exact Nat.zero_le _
theorem gB_raw (k : Nat) (st : RSt) : gB k st = (numB (gRaw k st).1, (gRaw k st).2) := by
  unfold gB gRaw
  cases st with
  | none => rfl
  | some r =>
    simp only
    split
    · rfl
    · rfl
theorem numB_snoc (l : List UInt8) (x : UInt8) : numB (l ++ [x]) = numB l * 256 + x.toNat := by
  unfold numB
  rw [List.foldl_append]
  rfl
theorem numB_lt (l : List UInt8) : numB l < 256 ^ l.length := by
  have key : ∀ (l : List UInt8) (a : Nat), l.foldl (fun n c => n * 256 + c.toNat) a < (a + 1) * 256 ^ l.length := by
    intro l
    induction l with
    | nil => intro a; simp
    | cons c l ih =>
      intro a
      have h1 := ih (a * 256 + c.toNat)
      have h2 : c.toNat < 256 := c.toNat_lt
      have h3 : a * 256 + c.toNat + 1 ≤ (a + 1) * 256 := by omega
      rw [List.foldl_cons, List.length_cons]
      calc _ < (a * 256 + c.toNat + 1) * 256 ^ l.length := h1
        _ ≤ ((a + 1) * 256) * 256 ^ l.length := Nat.mul_le_mul_right _ h3
        _ = (a + 1) * 256 ^ (l.length + 1) := by rw [Nat.pow_succ, Nat.mul_assoc, Nat.mul_comm 256]
  have := key l 0
  simpa [numB] using this
theorem or8 (A x : Nat) (hA : A < 16777216) (hx : x < 256) : bits BinOp.or IntKind.u64 ((A : Int) * 256) (x : Int) = ((A * 256 + x : Nat) : Int) := by
  have e : ((A : Int) * 256) = ((A * 256 : Nat) : Int) := by omega
  rw [e, u64_or_nat (A * 256) x (by omega) (by omega)]
  have h := Nat.shiftLeft_add_eq_or_of_lt (i := 8) (show x < 2 ^ 8 by omega) A
  rw [Nat.shiftLeft_eq] at h
  congr 1
  exact h.symm
def GJ (b k : Nat) (L bs : List UInt8) (st2 : RSt) (w : World) (a' : Act) (w' : World) : Prop :=
  ∃ (i : Nat) (V u2 u3 u8 u9 u10 u11 u12 u13 u14 u15 u16 u17 u18 u19 u20 u21 u22 u23 u24 u25 : Value), a' = { tmps := #[.pointer (some ⟨b, 0, none⟩), .int .i64 k, u2, u3, .int .u64 0, .int .u64 (numB (L.take i) : Nat), V, .int .i64 i, u8, u9, u10, u11, u12, u13, u14, u15, u16, u17, u18, u19, u20, u21, u22, u23, u24, u25], defers := [] } ∧ i ≤ L.length ∧
    ByAt w' V L ∧ RdAt b bs st2 w' ∧ w.grownBy w' (some b)

set_option maxHeartbeats 2000000 in
set_option maxRecDepth 100000 in
theorem get_any (b : Nat) (bs : List UInt8) (st : RSt) (k : Nat) (w : World) (h : RdAt b bs st w) (hk : k ≤ 4) (hlen : bs.length ≤ 1099511627776) :
    Calls Tryz.prog 32 #[.pointer (some ⟨b, 0, none⟩), .int .i64 k] w fun e w' => e = .returned (.int .u64 ((gB k st).1 : Nat)) ∧ RdAt b bs (gB k st).2 w' ∧ w.grownBy w' (some b) := by
  rw [gB_raw]
  have hL4 := gRaw_len1 k st
  have HW := Lib.hid h; clear h
  go_enter Tryz.func32, Tryz.ntmps32
  go_wp2_with (fail)
  refine wp_scope_jumps1 0 (GJ b k (gRaw k st).1 bs (gRaw k st).2 w) (fun a' _ => (gRaw k st).1.length - (intOf (a'.tmps.getD 7 undef)).toNat) rfl ?_ ?_
  · rintro a' w' ⟨i, V, u2, u3, u8, u9, u10, u11, u12, u13, u14, u15, u16, u17, u18, u19, u20, u21, u22, u23, u24, u25, rfl, hi, hV, hR, hg⟩
    obtain ⟨L, hL⟩ : ∃ L, (gRaw k st).1 = L := ⟨_, rfl⟩
    obtain ⟨st2, hst2⟩ : ∃ s2, (gRaw k st).2 = s2 := ⟨_, rfl⟩
    rw [hL] at hL4 hi hV ⊢
    rw [hst2] at hR ⊢
    obtain ⟨a, c, rfl, hV⟩ := hV
    have HV := Lib.hid hV
    have HR := Lib.hid hR
    have HG := Lib.hid hg
    have HS2 := Lib.hid hst2
    have HLq := Lib.hid hL
    clear hV hR hg hst2 hL
    by_cases hil : i < L.length
    · have hp : ∃ x, L[i]? = some x := ⟨_, List.getElem?_eq_getElem hil⟩
      obtain ⟨x, hx⟩ := hp
      rcases HV.out with ⟨_, h0⟩ | ⟨g, o, rfl, hs⟩
      · subst h0; simp at hil
      have hc := hs i x hx
      have hnb := numB_lt (L.take i)
      have hni : numB (L.take (i + 1)) = numB (L.take i) * 256 + x.toNat := by
        rw [List.take_add_one, hx]
        exact numB_snoc _ _
      have hn24 : numB (L.take i) < 16777216 := by
        have h1 : (L.take i).length ≤ 3 := by rw [List.length_take]; omega
        have h2 : 256 ^ (L.take i).length ≤ 256 ^ 3 := Nat.pow_le_pow_right (by omega) h1
        omega
      have Hni := Lib.hid hni
      have Hx := Lib.hid hx
      obtain ⟨A, hA⟩ : ∃ A, numB (L.take i) = A := ⟨_, rfl⟩
      rw [hA] at hn24 ⊢
      have HA := Lib.hid hA
      clear hs hni hx hnb hA
      have hxl : x.toNat < 256 := x.toNat_lt
      have hor := or8 A x.toNat hn24 hxl
      go_wp2
      go_step3
      have e : ((A : Int) * 256 + (x.toNat : Int)) = ((numB (L.take (i + 1)) : Nat) : Int) := by
        rw [Hni.out, HA.out]
        omega
      rw [e]
      refine ⟨rfl, ⟨i + 1, .slice (some ⟨g, o, none⟩) L.length c, _, _, _, _, _, _, _, _, _, _, _, _, _, _, _, _, _, _, _, _, rfl, by omega, ⟨_, _, rfl, HV.out⟩, HR.out, HG.out⟩, ?_⟩
      simp [intOf]
      omega
    · have hie : i = L.length := by omega
      have hdB : decide ((i : Int) < (L.length : Int)) = false := by simp; omega
      have Hie := Lib.hid hie; clear hie
      obtain ⟨A, hA⟩ : ∃ A, numB (L.take i) = A := ⟨_, rfl⟩
      rw [hA]
      have HA := Lib.hid hA; clear hA
      go_wp2
      simp only [Exit.jump]
      go_ret
      refine ⟨?_, by rw [HS2.out]; exact HR.out, HG.out⟩
      rw [HLq.out, ← HA.out, Hie.out, List.take_length]
      rfl
  · intro hp
    go_wp2_with (fail)
    refine (take_any b bs st k w HW.out (by omega) hlen).mono ?_
    rintro e w1 ⟨v, rfl, hV, hR, hg⟩
    go_wp2_with (fail)
    go_step3
    simp only [Exit.then]
    rename_i K hK
    refine hK _ _ (hp _ _ ?_)
    exact ⟨0, v, _, _, _, _, _, _, _, _, _, _, _, _, _, _, _, _, _, _, _, _, rfl, Nat.zero_le _, hV, hR, hg⟩

theorem gB_lt (k : Nat) (st : RSt) (hk : k ≤ 4) : (gB k st).1 < 4294967296 := by
  rw [gB_raw]
  have h1 := numB_lt (gRaw k st).1
  have h2 := gRaw_len1 k st
  have h3 : 256 ^ (gRaw k st).1.length ≤ 256 ^ 4 := Nat.pow_le_pow_right (by omega) (by omega)
  simp only
  omega
theorem rbyte_any (b : Nat) (bs : List UInt8) (st : RSt) (w : World) (h : RdAt b bs st w) (hlen : bs.length ≤ 1099511627776) :
    Calls Tryz.prog 20 #[.pointer (some ⟨b, 0, none⟩)] w fun e w' => e = .returned (.int .i64 ((gB 1 st).1 : Nat)) ∧ RdAt b bs (gB 1 st).2 w' ∧ w.grownBy w' (some b) := by
  have hz := gB_lt 1 st (by omega)
  have hwr : IntKind.i64.wrap ((gB 1 st).1 : Int) = ((gB 1 st).1 : Int) := by rw [IntKind.wrap_i64]; omega
  have HW := Lib.hid h; clear h
  go_enter Tryz.func20, Tryz.ntmps20
  go_wp2_with (fail)
  refine (get_any b bs st 1 w HW.out (by omega) hlen).mono ?_
  rintro e w' ⟨rfl, h1, h2⟩
  go_wp2_with (fail)
  go_ret
  exact ⟨rfl, h1, h2⟩
theorem rfour_any (b : Nat) (bs : List UInt8) (st : RSt) (w : World) (h : RdAt b bs st w) (hlen : bs.length ≤ 1099511627776) :
    Calls Tryz.prog 52 #[.pointer (some ⟨b, 0, none⟩)] w fun e w' => e = .returned (.int .i64 ((gB 4 st).1 : Nat)) ∧ RdAt b bs (gB 4 st).2 w' ∧ w.grownBy w' (some b) := by
  have hz := gB_lt 4 st (by omega)
  have hwr : IntKind.i64.wrap ((gB 4 st).1 : Int) = ((gB 4 st).1 : Int) := by rw [IntKind.wrap_i64]; omega
  have HW := Lib.hid h; clear h
  go_enter Tryz.func52, Tryz.ntmps52
  go_wp2_with (fail)
  refine (get_any b bs st 4 w HW.out (by omega) hlen).mono ?_
  rintro e w' ⟨rfl, h1, h2⟩
  go_wp2_with (fail)
  go_ret
  exact ⟨rfl, h1, h2⟩

theorem grown_trans {a b c : World} {r : Option Nat} (h : a.grownBy b r) (k : b.grownBy c r) : a.grownBy c r :=
  ⟨k.os.trans h.os, k.tape.trans h.tape, k.output.trans h.output, Nat.le_trans h.size k.size, fun i hi hr => (k.block i (Nat.lt_of_lt_of_le hi h.size) hr).trans (h.block i hi hr)⟩
set_option maxHeartbeats 2000000 in
set_option maxRecDepth 100000 in
theorem count_any (b : Nat) (bs : List UInt8) (st : RSt) (most : Nat) (w : World) (h : RdAt b bs st w) (hm : most ≤ 1099511627776) (hlen : bs.length ≤ 1099511627776) :
    Calls Tryz.prog 53 #[.pointer (some ⟨b, 0, none⟩), .int .i64 most] w fun e w' => e = .returned (.int .i64 ((gC most st).1 : Nat)) ∧ RdAt b bs (gC most st).2 w' ∧ w.grownBy w' (some b) := by
  have hz := gB_lt 4 st (by omega)
  have hn0 : (gB 4 st).2 = none → (gB 4 st).1 = 0 := by
    intro h
    unfold gB at h ⊢
    cases st with
    | none => rfl
    | some r =>
      simp only at h ⊢
      split at h
      · cases h
      · rename_i hk; rw [if_neg hk]
  have Hn0 := Lib.hid hn0; clear hn0
  have HW := Lib.hid h
  obtain ⟨a, c, at_, why, fin, hC, hbc, hcm, hL, hat, hst⟩ := h
  obtain ⟨c0, c1, c2, c3, hf⟩ := hC.cells
  clear hC hL hst hf
  go_enter Tryz.func53, Tryz.ntmps53
  go_wp2_with (fail)
  refine (rfour_any b bs st w HW.out hlen).mono ?_
  rintro e w1 ⟨rfl, h1, hg⟩
  have HG := Lib.hid hg; clear hg
  clear c0 c1 c2 c3
  have H1 := Lib.hid h1
  obtain ⟨a1, c1', at1, why1, fin1, hC1, hbc1, hcm1, hL1, hat1, hst1⟩ := h1
  have HC1 := Lib.hid hC1
  obtain ⟨d0, d1, d2, d3, hf1⟩ := hC1.cells
  clear hf1 hC1
  have HL1 := Lib.hid hL1; clear hL1
  obtain ⟨n, hn⟩ : ∃ n, (gB 4 st).1 = n := ⟨_, rfl⟩
  obtain ⟨s2, hs2⟩ : ∃ s2, (gB 4 st).2 = s2 := ⟨_, rfl⟩
  rw [hs2] at hst1
  have e1 : gC most st = if most < n then (0, none) else (n, s2) := by
    unfold gC
    rw [hn]
    split
    · rfl
    · rw [← hn, ← hs2]
  have E1 := Lib.hid e1
  rw [hn] at hz ⊢
  have Hn := Lib.hid hn
  have Hs2 := Lib.hid hs2
  clear hn hs2 e1
  have hmx : max (most : Int) 0 = (most : Int) := by omega
  by_cases hbig : most < n
  · have hdB : decide ((most : Int) < (n : Int)) = true := by simp; omega
    cases s2 with
    | none =>
      have := Hn0.out Hs2.out
      rw [Hn.out] at this
      omega
    | some r =>
      obtain ⟨rfl, hr⟩ := hst1
      have Hr := Lib.hid hr; clear hr
      go_wp2_with (fail)
      refine (refuse_any b a1 bs.length c1' at1 fin1 3 _ w1 HC1.out).mono ?_
      rintro e w2 ⟨rfl, hC2, hg2⟩
      have HC2 := Lib.hid hC2
      obtain ⟨_, _, g2, _, _⟩ := hC2.cells
      clear hC2
      go_wp2
      go_ret
      rw [E1.out, if_pos hbig]
      exact ⟨rfl, ⟨a1, c1', at1, 3, _, HC2.out, hbc1, hcm1, HL1.out.kept hg2, hat1, .inr rfl⟩, grown_trans HG.out hg2⟩
  · have hdB : decide ((most : Int) < (n : Int)) = false := by simp; omega
    have hR : RdAt b bs s2 w1 := by have := H1.out; rw [Hs2.out] at this; exact this
    cases s2 with
    | none =>
      obtain rfl : n = 0 := by rw [← Hn.out]; exact Hn0.out Hs2.out
      have hw : why1 ≠ 0 := by rcases hst1 with h | h <;> omega
      have hwB : (why1 != 0) = true := by simpa using hw
      have Hst1 := Lib.hid hst1; clear hst1 hw
      go_wp2
      go_ret
      rw [E1.out, if_neg hbig]
      exact ⟨rfl, hR, HG.out⟩
    | some r =>
      obtain ⟨rfl, hr⟩ := hst1
      have Hr := Lib.hid hr; clear hr
      go_wp2
      go_ret
      rw [E1.out, if_neg hbig]
      exact ⟨rfl, hR, HG.out⟩

theorem conv_by {w : World} {v : Value} {L : List UInt8} (h : ByAt w v L) : (convert 22 9 v).run Tryz.prog w = .ok (.string ⟨L.toArray⟩) w := by
  obtain ⟨a, c, rfl, ⟨rfl, rfl⟩ | ⟨g, o, rfl, hs⟩⟩ := h
  · exact Lib.run_convert_nil_bytes w _ _ _ c Tryz.underlying22 Tryz.underlying5 Tryz.underlying9
  · refine run_convert_bytes_back w _ _ _ ⟨g, o, none⟩ c L Tryz.underlying22 Tryz.underlying5 Tryz.underlying9 fun j hj => ?_
    rw [addr_add]
    exact hs j _ (List.getElem?_eq_getElem hj)
theorem gC_le (most : Nat) (st : RSt) : (gC most st).1 ≤ 4294967296 := by
  have := gB_lt 4 st (by omega)
  unfold gC
  split
  · exact Nat.zero_le _
  · omega
set_option maxHeartbeats 2000000 in
set_option maxRecDepth 100000 in
theorem rtext_any (b : Nat) (bs : List UInt8) (st : RSt) (most : Nat) (w : World) (h : RdAt b bs st w) (hm : most ≤ 1099511627776) (hlen : bs.length ≤ 1099511627776) :
    Calls Tryz.prog 35 #[.pointer (some ⟨b, 0, none⟩), .int .i64 most] w fun e w' => e = .returned (.string (gT most st).1) ∧ RdAt b bs (gT most st).2 w' ∧ w.grownBy w' (some b) := by
  have hle := gC_le most st
  have HW := Lib.hid h; clear h
  go_enter Tryz.func35, Tryz.ntmps35
  go_wp2_with (fail)
  refine (count_any b bs st most w HW.out hm hlen).mono ?_
  rintro e w1 ⟨rfl, h1, hg1⟩
  have HG1 := Lib.hid hg1; clear hg1
  have H1 := Lib.hid h1; clear h1
  go_wp2_with (fail)
  refine (take_any b bs (gC most st).2 (gC most st).1 w1 H1.out (by omega) hlen).mono ?_
  rintro e w2 ⟨v, rfl, hV, h2, hg2⟩
  have hcv := conv_by hV
  have H2 := Lib.hid h2; clear h2
  have HG2 := Lib.hid hg2; clear hg2
  clear hV
  go_wp2
  go_ret
  exact ⟨rfl, H2.out, grown_trans HG1.out HG2.out⟩

def leftOf : RSt → Nat
  | some r => r.length
  | none => 0
set_option maxHeartbeats 2000000 in
set_option maxRecDepth 100000 in
theorem left_any (b : Nat) (bs : List UInt8) (st : RSt) (w : World) (h : RdAt b bs st w) (hlen : bs.length ≤ 1099511627776) :
    Calls Tryz.prog 19 #[.pointer (some ⟨b, 0, none⟩)] w fun e w' => e = .returned (.int .i64 (leftOf st : Nat)) ∧ RdAt b bs st w' ∧ w.grownBy w' (some b) := by
  have HW := Lib.hid h
  obtain ⟨a, c, at_, why, fin, hC, hbc, hcm, hL, hat, hst⟩ := h
  obtain ⟨c0, c1, c2, c3, hf⟩ := hC.cells
  clear hf hC hL
  cases st with
  | none =>
    have hw : why ≠ 0 := by rcases hst with h | h <;> omega
    have hwB : (why != 0) = true := by simpa using hw
    clear hst hw
    go_enter Tryz.func19, Tryz.ntmps19
    go_wp2
    go_ret
    exact ⟨rfl, HW.out, grown_refl _ _⟩
  | some r =>
    obtain ⟨rfl, rfl⟩ := hst
    have hwx : IntKind.i64.wrap ((bs.length : Int) - (at_ : Int)) = (bs.length : Int) - (at_ : Int) := by rw [IntKind.wrap_i64]; omega
    have he : ((leftOf (some (bs.drop at_)) : Nat) : Int) = (bs.length : Int) - (at_ : Int) := by
      show (((bs.drop at_).length : Nat) : Int) = _
      rw [List.length_drop]; omega
    rw [he]
    go_enter Tryz.func19, Tryz.ntmps19
    go_wp2
    go_quiet (fail)
    go_wp2
    go_ret
    exact ⟨rfl, HW.out, ⟨rfl, rfl, rfl, Nat.le_refl _, fun _ _ _ => rfl⟩⟩

def endOk (st : RSt) (y : Int) : Prop := match st with
  | some [] => y = 0
  | some (_ :: _) => y = 11
  | none => y = 10 ∨ y = 3
set_option maxHeartbeats 2000000 in
set_option maxRecDepth 100000 in
theorem end_any (b : Nat) (bs : List UInt8) (st : RSt) (w : World) (h : RdAt b bs st w) (hlen : bs.length ≤ 1099511627776) :
    Calls Tryz.prog 36 #[.pointer (some ⟨b, 0, none⟩)] w fun e w' => (∃ y z, e = .returned (.tuple #[.int .i64 y, .int .i64 z]) ∧ endOk st y) ∧ RdAt b bs st w' ∧ w.grownBy w' (some b) := by
  have HW := Lib.hid h
  obtain ⟨a, c, at_, why, fin, hC, hbc, hcm, hL, hat, hst⟩ := h
  obtain ⟨c0, c1, c2, c3, hf⟩ := hC.cells
  clear hf hC hL
  cases st with
  | none =>
    have hw : why ≠ 0 := by rcases hst with h | h <;> omega
    have hwB : (why != 0) = true := by simpa using hw
    have Hst := Lib.hid hst
    clear hst hw
    go_enter Tryz.func36, Tryz.ntmps36
    go_wp2
    go_quiet (fail)
    go_wp2
    go_ret2
    exact ⟨⟨_, _, rfl, Hst.out⟩, HW.out, ⟨rfl, rfl, rfl, Nat.le_refl _, fun _ _ _ => rfl⟩⟩
  | some r =>
    obtain ⟨rfl, hr⟩ := hst
    by_cases hlt : at_ < bs.length
    · have hdB : decide ((at_ : Int) < (bs.length : Int)) = true := by simp; omega
      have he : endOk (some r) 11 := by
        cases r with
        | nil => have := congrArg List.length hr; rw [List.length_drop] at this; simp at this; omega
        | cons _ _ => rfl
      clear hr
      go_enter Tryz.func36, Tryz.ntmps36
      go_wp2
      go_quiet (fail)
      go_wp2
      go_quiet (fail)
      go_wp2
      go_ret2
      exact ⟨⟨_, _, rfl, he⟩, HW.out, ⟨rfl, rfl, rfl, Nat.le_refl _, fun _ _ _ => rfl⟩⟩
    · have hdB : decide ((at_ : Int) < (bs.length : Int)) = false := by simp; omega
      have he : endOk (some r) 0 := by
        cases r with
        | nil => rfl
        | cons _ _ => have := congrArg List.length hr; rw [List.length_drop] at this; simp at this; omega
      clear hr
      go_enter Tryz.func36, Tryz.ntmps36
      go_wp2
      go_quiet (fail)
      go_wp2
      go_ret2
      exact ⟨⟨_, _, rfl, he⟩, HW.out, ⟨rfl, rfl, rfl, Nat.le_refl _, fun _ _ _ => rfl⟩⟩
end Go.Proofs.YtekggipkfmleoaaGreatDoor

namespace Go.Proofs.YtekggipkfmleoaaGreatDoor
open Go.RowKit

theorem s32_wrap (n : Nat) (h : n < 4294967296) : IntKind.i32.wrap (n : Int) = s32 n := by
  rw [IntKind.wrap_i32]
  unfold s32
  split <;> omega
theorem s32_in (n : Nat) (h : n < 4294967296) : IntKind.i64.wrap (s32 n) = s32 n := by
  rw [IntKind.wrap_i64]
  unfold s32
  split <;> omega
theorem signed_any (b : Nat) (bs : List UInt8) (st : RSt) (w : World) (h : RdAt b bs st w) (hlen : bs.length ≤ 1099511627776) :
    Calls Tryz.prog 34 #[.pointer (some ⟨b, 0, none⟩)] w fun e w' => e = .returned (.int .i64 (gS st).1) ∧ RdAt b bs (gS st).2 w' ∧ w.grownBy w' (some b) := by
  have hz := gB_lt 4 st (by omega)
  have h1 := s32_wrap (gB 4 st).1 hz
  have h2 := s32_in (gB 4 st).1 hz
  have HW := Lib.hid h; clear h
  go_enter Tryz.func34, Tryz.ntmps34
  go_wp2_with (fail)
  refine (rfour_any b bs st w HW.out hlen).mono ?_
  rintro e w' ⟨rfl, hr, hg⟩
  have HR := Lib.hid hr
  have HG := Lib.hid hg
  clear hr hg
  go_wp2_with (fail)
  go_ret
  exact ⟨rfl, HR.out, HG.out⟩

/-! ### what a call leaves: all blocks but two -/
structure Two (p q : Nat) (w w' : World) : Prop where
  os : w'.os = w.os
  tape : w'.tape = w.tape
  output : w'.output = w.output
  size : w.heap.size ≤ w'.heap.size
  block : ∀ k, k < w.heap.size → k ≠ p → k ≠ q → w'.heap[k]? = w.heap[k]?
theorem Two.refl (p q : Nat) (w : World) : Two p q w w := ⟨rfl, rfl, rfl, Nat.le_refl _, fun _ _ _ _ => rfl⟩
theorem Two.trans {p q : Nat} {a b c : World} (h : Two p q a b) (k : Two p q b c) : Two p q a c :=
  ⟨k.os.trans h.os, k.tape.trans h.tape, k.output.trans h.output, Nat.le_trans h.size k.size, fun i hi h1 h2 => (k.block i (Nat.lt_of_lt_of_le hi h.size) h1 h2).trans (h.block i hi h1 h2)⟩
theorem Two.grown1 {p q : Nat} {w w' : World} (h : w.grownBy w' (some p)) : Two p q w w' :=
  ⟨h.os, h.tape, h.output, h.size, fun k hk h1 _ => h.block k hk (by simpa using h1)⟩
theorem Two.grown2 {p q : Nat} {w w' : World} (h : w.grownBy w' (some q)) : Two p q w w' :=
  ⟨h.os, h.tape, h.output, h.size, fun k hk _ h2 => h.block k hk (by simpa using h2)⟩
theorem Two.below {p q : Nat} {w w' : World} (h : Below w.heap.size w w') : Two p q w w' := ⟨h.os, h.tape, h.output, h.size, fun k hk _ _ => h.block k hk⟩
/-- a step inside, from a later world on: what it touches is new -/
theorem Two.late {p q : Nat} {w w1 w2 : World} {r : Option Nat} (h : Two p q w w1) (k : w1.grownBy w2 r) (hr : ∀ g, r = some g → w.heap.size ≤ g) : Two p q w w2 :=
  ⟨k.os.trans h.os, k.tape.trans h.tape, k.output.trans h.output, Nat.le_trans h.size k.size, fun i hi h1 h2 => (k.block i (Nat.lt_of_lt_of_le hi h.size) (fun e => by have := hr i e.symm; omega)).trans (h.block i hi h1 h2)⟩

/-! ### a block that is known whole -/
theorem blk_set {w : World} {b k : Nat} {cs : Array Value} {t : TypeId} {u : Value} (h : w.heap[b]? = some (.cells cs t (0, 0))) : (w.setCell ⟨b, k, none⟩ u).heap[b]? = some (.cells (cs.setIfInBounds k u) t (0, 0)) := by
  simp [World.setCell, Array.getElem?_modify, h]
theorem blk_other {w : World} {b g k : Nat} {u : Value} {o : Obj} (h : w.heap[g]? = some o) (hne : g ≠ b) : (w.setCell ⟨b, k, none⟩ u).heap[g]? = some o := (Below.heap_setCell w _ _ _ hne).trans h
theorem blk_grown {w w' : World} {b g : Nat} {o : Obj} (hg : w.grownBy w' (some g)) (hne : b ≠ g) (h : w.heap[b]? = some o) : w'.heap[b]? = some o :=
  (hg.block b (Array.getElem?_eq_some_iff.1 h).1 (by simpa using hne)).trans h
theorem blk_below {w w' : World} {b : Nat} {o : Obj} (hg : Below w.heap.size w w') (h : w.heap[b]? = some o) : w'.heap[b]? = some o :=
  (hg.block b (Array.getElem?_eq_some_iff.1 h).1).trans h

/-- the reader is not touched where readers and bytes are not -/
theorem RdAt.kept {b : Nat} {bs : List UInt8} {st : RSt} {W W' : World} (h : RdAt b bs st W) (hk : ∀ (k : Nat) (cs : Array Value) (t : TypeId), W.heap[k]? = some (Obj.cells cs t (0, 0)) → t = 73 ∨ t = 5 → W'.heap[k]? = W.heap[k]?) : RdAt b bs st W' := by
  obtain ⟨a, c, at_, why, fin, hC, h1, h2, hL, h3⟩ := h
  have hC' : W.heap[b]? = some (Obj.cells #[.slice a bs.length c, .int .i64 (at_ : Int), .int .i64 why, .int .i64 fin] 73 (0, 0)) := hC
  refine ⟨a, c, at_, why, fin, (hk b _ _ hC' (.inl rfl)).trans hC', h1, h2, ?_, h3⟩
  rcases hL with h | ⟨g, o, rfl, ⟨hgb, cs, hcs⟩, hs⟩
  · exact .inl h
  · have hg := hk g _ _ hcs (.inr rfl)
    refine .inr ⟨g, o, rfl, ⟨hgb, cs, hg.trans hcs⟩, fun j x hj => ?_⟩
    have hc := hs j x hj
    unfold World.cell? at hc ⊢
    simp only [hg]
    exact hc
theorem RdAt.set {b g k : Nat} {bs : List UInt8} {st : RSt} {W : World} {cs : Array Value} {t : TypeId} {u : Value} (h : RdAt b bs st W) (hg : W.heap[g]? = some (.cells cs t (0, 0))) (h1 : t ≠ 73) (h2 : t ≠ 5) : RdAt b bs st (W.setCell ⟨g, k, none⟩ u) :=
  h.kept fun i cs' t' hi ht => Below.heap_setCell W _ _ _ fun e => by
    have e' : i = g := e
    subst e'
    rw [hg] at hi
    cases hi
    rcases ht with e | e
    · exact h1 e
    · exact h2 e
theorem RdAt.below {b : Nat} {bs : List UInt8} {st : RSt} {W W' : World} (h : RdAt b bs st W) (hb : Below W.heap.size W W') : RdAt b bs st W' :=
  h.kept fun i cs' t' hi ht => hb.block i (Array.getElem?_eq_some_iff.1 hi).1
theorem RdAt.owned {b : Nat} {bs : List UInt8} {st : RSt} {W W' : World} {B : Nat} {t : TypeId} {sz n : Nat} {v : Value} {xs : List Value} (h : RdAt b bs st W) (ho : W.ownsRow B t sz v n xs) (hg : W.grownBy W' v.ownBlock) (h1 : t ≠ 73) (h2 : t ≠ 5) : RdAt b bs st W' :=
  h.kept fun i cs' t' hi ht => hg.block i (Array.getElem?_eq_some_iff.1 hi).1 fun e => by
    obtain ⟨_, ⟨rfl, _⟩ | ⟨g, cap, cur, rfl, _, hh, _⟩⟩ := ho
    · cases e
    · cases e
      rw [hh] at hi
      cases hi
      rcases ht with e | e
      · exact h1 e
      · exact h2 e
/-! ### an item whose numbers are read one by one -/
theorem itCells_num (kind : Int) (pre : List Int) (n : Int) (v : Value) (h : pre.length < 6) : (itCells (itOf kind pre []) v).setIfInBounds (1 + pre.length) (.int .i64 n) = itCells (itOf kind (pre ++ [n]) []) v := by
  match pre, h with
  | [], _ => rfl
  | [_], _ => rfl
  | [_, _], _ => rfl
  | [_, _, _], _ => rfl
  | [_, _, _, _], _ => rfl
  | [_, _, _, _, _], _ => rfl
theorem itCells_ops (kind : Int) (l : List Int) (o o' : List OpT) (v v' : Value) : (itCells (itOf kind l o) v).setIfInBounds 7 v' = itCells (itOf kind l o') v' := rfl
end Go.Proofs.YtekggipkfmleoaaGreatDoor

namespace Go.Proofs.YtekggipkfmleoaaGreatDoor
open Go.RowKit

theorem opInfoB : (Tryz.prog.info? 38).map (fun i => (i.zero, i.size, i.bytes)) = some (some (.agg #[.int .i64 0, .string ⟨#[]⟩, .string ⟨#[]⟩, .int .i64 0]), 4, 48) := by kernel_rfl
def opVals (l : List OpT) : List Value := l.flatMap fun o => [.int .i64 o.kind, .string o.cas, .string o.name, .int .i64 o.n]
theorem opVals_snoc (l : List OpT) (o : OpT) : opVals (l ++ [o]) = opVals l ++ [.int .i64 o.kind, .string o.cas, .string o.name, .int .i64 o.n] := by
  unfold opVals
  rw [List.flatMap_append]
  simp
theorem opVals_len (l : List OpT) : (opVals l).length = l.length * 4 := by
  induction l with
  | nil => rfl
  | cons o l ih => rw [show opVals (o :: l) = [.int .i64 o.kind, .string o.cas, .string o.name, .int .i64 o.n] ++ opVals l from rfl, List.length_append, ih, List.length_cons]; simp; omega
theorem opVals_at : ∀ (l : List OpT) (j k : Nat) (o : OpT), l[j]? = some o → k < 4 → (opVals l)[j * 4 + k]? = [Value.int .i64 o.kind, .string o.cas, .string o.name, .int .i64 o.n][k]?
  | [], j, k, o, h, _ => by simp at h
  | a :: l, 0, k, o, h, hk => by
    simp at h
    subst h
    show ([Value.int .i64 a.kind, .string a.cas, .string a.name, .int .i64 a.n] ++ opVals l)[0 * 4 + k]? = _
    rw [List.getElem?_append_left (by simp; omega), show 0 * 4 + k = k by omega]
  | a :: l, j + 1, k, o, h, hk => by
    show ([Value.int .i64 a.kind, .string a.cas, .string a.name, .int .i64 a.n] ++ opVals l)[(j + 1) * 4 + k]? = _
    rw [List.getElem?_append_right (by simp; omega)]
    simp only [List.length_cons, List.length_nil]
    rw [show (j + 1) * 4 + k - (0 + 1 + 1 + 1 + 1) = j * 4 + k by omega]
    exact opVals_at l j k o (by simpa using h) hk
/-- operations that are the call's own, from block B on -/
abbrev OwnO (B : Nat) (v : Value) (l : List OpT) (w : World) : Prop := w.ownsRow B 38 4 v l.length (opVals l)
theorem OwnO.ops {B : Nat} {v : Value} {l : List OpT} {w : World} (h : OwnO B v l w) : OpsAt w v l := by
  obtain ⟨hl, ⟨rfl, h0⟩ | ⟨g, cap, cur, rfl, hg, hh, h1, h2, h3, h4⟩⟩ := h
  · exact ⟨none, 0, by rw [h0], by omega, by unfold maxLen; omega, .inl h0⟩
  · refine ⟨_, cap, rfl, h1, h2, .inr ⟨g, 0, rfl, (Array.getElem?_eq_some_iff.1 hh).1, fun j x hj => ?_⟩⟩
    have ho : w.ownsRow B 38 4 (.slice (some ⟨g, 0, none⟩) l.length cap) l.length (opVals l) := ⟨hl, .inr ⟨g, cap, cur, rfl, hg, hh, h1, h2, h3, h4⟩⟩
    have key : ∀ k u, k < 4 → [Value.int .i64 x.kind, .string x.cas, .string x.name, .int .i64 x.n][k]? = some u → w.cell? ⟨g, 0 + j * 4 + k, none⟩ = some u := fun k u hk hu => by
      have := ho.cells (g := g) rfl (j * 4 + k) u (by rw [opVals_at l j k x hj hk]; exact hu)
      rw [addr_add] at this
      rw [show 0 + j * 4 + k = 0 + (j * 4 + k) by omega]
      exact this
    exact ⟨key 0 _ (by omega) rfl, key 1 _ (by omega) rfl, key 2 _ (by omega) rfl, key 3 _ (by omega) rfl⟩
/-- the operations' block is of their type (or there is none) -/
def OpsT (v : Value) (w : World) : Prop := ∀ g, v.ownBlock = some g → ∃ cs, w.heap[g]? = some (.cells cs 38 (0, 0))

theorem endOk_true {st : RSt} {y : Int} (h : endOk st y) : (y = 0 ∨ y = 11) ↔ st.isSome = true := by
  unfold endOk at h
  match st, h with
  | some [], h => simp [h]
  | some (_ :: _), h => simp [h]
  | none, h => simp; omega

/-- what rest leaves -/
def restPost (kind : Int) (r bs : List UInt8) (rb bi B : Nat) (e : Ending) (w' : World) : Prop :=
  match gItem kind r with
  | none => e = .returned (.bool false)
  | some (x, t) => e = .returned (.bool true) ∧ RdAt rb bs (some t) w' ∧ ∃ v, w'.heap[bi]? = some (.cells (itCells x v) 27 (0, 0)) ∧ OwnO B v x.ops w'

def itEnd (kind : Int) (a : List Int) (ops : List OpT) (s : RSt) : Option (ItT × List UInt8) := match s with
  | none => none
  | some t => some (itOf kind a ops, t)
theorem gItem_eq (kind : Int) (r : List UInt8) {pre : List Int} {s s0 : RSt} {K : Nat} (h1 : gNums 6 (some r) = (pre, s)) (h2 : (gB 1 s).1 = K) (h3 : (gB 1 s).2 = s0) :
    gItem kind r = if 4 < K then none else itEnd kind pre (gOps K s0).1 (gOps K s0).2 := by
  subst h2 h3
  unfold gItem
  simp only
  rw [h1]
  rfl
/-- what is owned is not touched by a reader's own step -/
theorem own_reader {B rb : Nat} {bs : List UInt8} {st : RSt} {v : Value} {l : List OpT} {w w' : World} (h : RdAt rb bs st w) (ho : OwnO B v l w) (hg : w.grownBy w' (some rb)) : OwnO B v l w' := by
  obtain ⟨_, _, _, _, _, hC, _⟩ := h
  obtain ⟨hl, ⟨rfl, h0⟩ | ⟨g, cap, cur, rfl, hbg, hh, r⟩⟩ := ho
  · exact ⟨hl, .inl ⟨rfl, h0⟩⟩
  · have hne : g ≠ rb := fun e => by
      subst e
      unfold RdC at hC
      rw [hC] at hh
      injection hh with hh
      injection hh with _ hh
      exact absurd hh (by decide)
    exact ⟨hl, .inr ⟨g, cap, cur, rfl, hbg, blk_grown hg hne hh, r⟩⟩
theorem own_below {B : Nat} {v : Value} {l : List OpT} {w w' : World} (ho : OwnO B v l w) (hb : Below w.heap.size w w') : OwnO B v l w' := by
  obtain ⟨hl, ⟨rfl, h0⟩ | ⟨g, cap, cur, rfl, hbg, hh, r⟩⟩ := ho
  · exact ⟨hl, .inl ⟨rfl, h0⟩⟩
  · exact ⟨hl, .inr ⟨g, cap, cur, rfl, hbg, blk_below hb hh, r⟩⟩
theorem own_old {B : Nat} {v : Value} {l : List OpT} {w : World} (ho : OwnO B v l w) : v.ownBlock ≠ some w.heap.size := by
  obtain ⟨hl, ⟨rfl, h0⟩ | ⟨g, cap, cur, rfl, hbg, hh, r⟩⟩ := ho
  · intro e; cases e
  · intro e
    cases e
    exact absurd (Array.getElem?_eq_some_iff.1 hh).1 (Nat.lt_irrefl _)
theorem own_set {B g k : Nat} {v : Value} {l : List OpT} {u : Value} {w : World} (ho : OwnO B v l w) (hne : v.ownBlock ≠ some g) : OwnO B v l (w.setCell ⟨g, k, none⟩ u) := by
  obtain ⟨hl, ⟨rfl, h0⟩ | ⟨g', cap, cur, rfl, hbg, hh, r⟩⟩ := ho
  · exact ⟨hl, .inl ⟨rfl, h0⟩⟩
  · exact ⟨hl, .inr ⟨g', cap, cur, rfl, hbg, blk_other hh (fun e => hne (by rw [e]; rfl)), r⟩⟩
theorem own_neT {B g : Nat} {v : Value} {l : List OpT} {w : World} {cs : Array Value} {t : TypeId} (ho : OwnO B v l w) (hg : w.heap[g]? = some (.cells cs t (0, 0))) (ht : t ≠ 38) : v.ownBlock ≠ some g := by
  obtain ⟨hl, ⟨rfl, h0⟩ | ⟨g', cap, cur, rfl, hbg, hh, r⟩⟩ := ho
  · intro e; cases e
  · intro e
    cases e
    rw [hg] at hh
    injection hh with hh
    injection hh with _ hh
    exact ht hh
theorem own_from {B : Nat} {v : Value} {l : List OpT} {w : World} (ho : OwnO B v l w) : ∀ g, v.ownBlock = some g → B ≤ g := by
  obtain ⟨hl, ⟨rfl, h0⟩ | ⟨g', cap, cur, rfl, hbg, hh, r⟩⟩ := ho
  · intro g e; cases e
  · intro g e
    cases e
    exact hbg
theorem gOps_zero (s : RSt) : gOps 0 s = ([], s) := rfl
theorem gOp_state (s : RSt) : (gOp s).2 = (gS (gT 255 (gT 255 (gB 1 s).2).2).2).2 := rfl

set_option maxHeartbeats 8000000 in
set_option maxRecDepth 100000 in
theorem rest_any (rb bi : Nat) (bs r : List UInt8) (kind : Int) (w : World) (h : RdAt rb bs (some r) w) (hb : w.heap[bi]? = some (.cells (itCells (itOf kind [] []) (.slice none 0 0)) 27 (0, 0))) (hne : rb ≠ bi) (hlen : bs.length ≤ 1099511627776) :
    Calls Tryz.prog 21 #[.pointer (some ⟨rb, 0, none⟩), .pointer (some ⟨bi, 0, none⟩)] w fun e w' => restPost kind r bs rb bi w.heap.size e w' ∧ Two rb bi w w' := by
  obtain ⟨i0, hi, hz0, hz1, hz2⟩ := info_parts opInfoB
  have hbl : bi < w.heap.size := (Array.getElem?_eq_some_iff.1 hb).1
  have HR := Lib.hid h
  have HB := Lib.hid hb
  clear h hb
  go_enter Tryz.func21, Tryz.ntmps21
  go_wp2_with (fail)
  refine (numbers_any bi w).mono ?_
  rintro e w1 ⟨rfl, hp, hb1⟩
  have hz1w := hb1.size
  have HR1 := Lib.hid (HR.out.below hb1)
  have HB1 := Lib.hid (blk_below hb1 HB.out)
  have HT1 := Lib.hid (Two.below (p := rb) (q := bi) hb1)
  have hpl : w.heap.size < w1.heap.size := (Array.getElem?_eq_some_iff.1 hp).1
  have hrl : rb < w.heap.size := by
    obtain ⟨_, _, _, _, _, hC, _⟩ := HR.out
    exact (Array.getElem?_eq_some_iff.1 hC).1
  have HP := Lib.hid hp
  clear hp hb1
  go_wp2_with (fail)
  go_loopw [14] (fun i wr => ∃ (j : Nat) (pre : List Int) (s : RSt), i = .int .i64 j ∧ j ≤ 6 ∧ Hid (pre.length = j) ∧ Hid (gNums 6 (some r) = (pre ++ (gNums (6 - j) s).1, (gNums (6 - j) s).2)) ∧ Hid (RdAt rb bs s wr) ∧ Hid (wr.heap[bi]? = some (.cells (itCells (itOf kind pre []) (.slice none 0 0)) 27 (0, 0))) ∧ Hid (Two rb bi w wr) ∧ Hid (wr.heap[w.heap.size]? = some (.cells (ptrs bi) 78 (0, 0)))) (fun i _ => 6 - (intOf i).toNat)
  case atStart => exact ⟨0, [], some r, rfl, by omega, Lib.hid rfl, Lib.hid rfl, HR1, HB1, HT1, HP⟩
  case round =>
    obtain ⟨j, pre, s, rfl, hj, HPl, HG, HRs, HBs, HTs, HPs⟩ := hrel
    have cp : ∀ j, j < 6 → wr.cell? ⟨w.heap.size, j, none⟩ = some (.pointer (some ⟨bi, 1 + j, none⟩)) := fun j hj => cell_blk HPs.out (ptr_at _ j hj)
    have HCp := Lib.hid cp; clear cp
    by_cases hj6 : j < 6
    · have cp := HCp.out j hj6
      go_wp2_with (fail)
      refine (signed_any rb bs s wr HRs.out hlen).mono ?_
      rintro e w2 ⟨rfl, hR2, hg2⟩
      have hB2 := blk_grown hg2 (by omega) HBs.out
      have HP2 := Lib.hid (blk_grown hg2 (by omega) HPs.out)
      have HT2 := Lib.hid (HTs.out.trans (Two.grown1 hg2))
      have HR2 := Lib.hid hR2
      have HB2 := Lib.hid hB2
      have fb : ∀ k, w2.frozen? ⟨bi, k, none⟩ = false := fun k => Lib.frozen_of_heap hB2 k
      have f1 := fb (1 + j)
      obtain ⟨u, hu⟩ : ∃ u, w2.cell? ⟨bi, 1 + j, none⟩ = some u := by
        have hn : ∃ n, (nums (itOf kind pre []))[j]? = some n := ⟨_, List.getElem?_eq_getElem (show j < 6 from hj6)⟩
        obtain ⟨n, hn⟩ := hn
        exact ⟨_, cell_blk hB2 (num_at _ _ j n hn)⟩
      obtain ⟨n, hn⟩ : ∃ n, (gS s).1 = n := ⟨_, rfl⟩
      obtain ⟨s', hs'⟩ : ∃ s', (gS s).2 = s' := ⟨_, rfl⟩
      have hG' : gNums 6 (some r) = ((pre ++ [n]) ++ (gNums (6 - (j + 1)) s').1, (gNums (6 - (j + 1)) s').2) := by
        rw [HG.out, show 6 - j = (6 - (j + 1)) + 1 by omega, gNums_succ, hn, hs']
        simp
      have HG' := Lib.hid hG'
      have hB3 : (w2.setCell ⟨bi, 1 + j, none⟩ (.int .i64 n)).heap[bi]? = some (.cells (itCells (itOf kind (pre ++ [n]) []) (.slice none 0 0)) 27 (0, 0)) := by
        rw [← itCells_num kind pre n (.slice none 0 0) (by rw [HPl.out]; exact hj6), HPl.out]
        exact blk_set hB2
      have HB3 := Lib.hid hB3
      have HR3 := Lib.hid (hR2.set (k := 1 + j) (u := .int .i64 n) hB2 (by decide) (by decide))
      rw [hs'] at HR3
      have HP3 := Lib.hid (blk_other (b := bi) (k := 1 + j) (u := .int .i64 n) HP2.out (by omega))
      have HT3 := Lib.hid (HT2.out.trans (Two.grown2 (grown_set w2 bi (1 + j) (.int .i64 n))))
      rw [hn]
      clear hR2 hg2 hB2 fb hn hs' hG' hB3
      go_wp2_with (fail)
      go_roundw
      case rel => exact ⟨j + 1, pre ++ [n], s', by simp, by omega, Lib.hid (by rw [List.length_append, HPl.out]; rfl), HG', HR3, HB3, HT3, HP3⟩
      case measure => simp [intOf]; omega
    · obtain rfl : j = 6 := by omega
      clear HCp
      go_wp2_with (fail)
      refine (rbyte_any rb bs s wr HRs.out hlen).mono ?_
      rintro e w2 ⟨rfl, hR2, hg2⟩
      have hGz : gNums 6 (some r) = (pre, s) := by
        rw [HG.out]
        show (pre ++ [], s) = _
        rw [List.append_nil]
      have HGz := Lib.hid hGz
      obtain ⟨K, hK⟩ : ∃ K, (gB 1 s).1 = K := ⟨_, rfl⟩
      obtain ⟨s0, hs0⟩ : ∃ s', (gB 1 s).2 = s' := ⟨_, rfl⟩
      have hitem := gItem_eq kind r hGz hK hs0
      have HItem := Lib.hid hitem
      rw [hs0] at hR2
      have HR2 := Lib.hid hR2
      have HB2 := Lib.hid (blk_grown hg2 (by omega) HBs.out)
      have HT2 := Lib.hid (HTs.out.trans (Two.grown1 hg2))
      rw [hK]
      clear hGz hitem hR2 hg2 hK hs0
      by_cases hbig : 4 < K
      · have hdB : decide ((4 : Int) < (K : Int)) = true := by simp; omega
        go_wp2_with (fail)
        go_ret
        refine ⟨?_, HT2.out⟩
        unfold restPost
        rw [HItem.out, if_pos hbig]
        exact rfl
      have hdB : decide ((4 : Int) < (K : Int)) = false := by simp; omega
      go_wp2_with (fail)
      go_loopw [7] (fun i wr => ∃ (m : Nat) (done : List OpT) (s2 : RSt) (v : Value), i = .int .i64 m ∧ m ≤ 4 ∧ Hid (done.length + m = K) ∧ Hid (gOps K s0 = (done ++ (gOps m s2).1, (gOps m s2).2)) ∧ Hid (RdAt rb bs s2 wr) ∧ Hid (wr.heap[bi]? = some (.cells (itCells (itOf kind pre done) v) 27 (0, 0))) ∧ Hid (OwnO w.heap.size v done wr) ∧ Hid (Two rb bi w wr)) (fun i _ => (intOf i).toNat)
      case atStart => exact ⟨K, [], s0, .slice none 0 0, rfl, by omega, Lib.hid (by simp), Lib.hid rfl, HR2, HB2, Lib.hid ⟨rfl, .inl ⟨rfl, rfl⟩⟩, HT2⟩
      case round =>
        obtain ⟨m, done, s2, v, rfl, hm, HDl, HGo, HRo, HBo, HOo, HTo⟩ := hrel
        cases m with
        | zero =>
          go_wp2_with (fail)
          refine (end_any rb bs s2 wr HRo.out hlen).mono ?_
          rintro e w3 ⟨⟨y, z, rfl, hy⟩, hR3, hg3⟩
          have hit : gItem kind r = itEnd kind pre done s2 := by
            rw [HItem.out, if_neg hbig, HGo.out, gOps_zero]
            simp only [List.append_nil]
          have HIt := Lib.hid hit
          have HB3 := Lib.hid (blk_grown hg3 (by omega) HBo.out)
          have HT3 := Lib.hid (HTo.out.trans (Two.grown1 hg3))
          have hO3 : OwnO w.heap.size v done w3 := own_reader HRo.out HOo.out hg3
          have HO3 := Lib.hid hO3
          have HR3 := Lib.hid hR3
          have hyt := endOk_true hy
          clear hit hg3 hO3 hR3 hy
          cases s2 with
          | none =>
            have h0 : ¬ y = 0 := fun e => by simp [e] at hyt
            have h1 : ¬ y = 11 := fun e => by simp [e] at hyt
            have h0B : (y == 0) = false := by simpa using h0
            have h1B : (y == 11) = false := by simpa using h1
            clear hyt
            go_wp2_with (fail)
            go_ret
            refine ⟨?_, HT3.out⟩
            unfold restPost
            rw [HIt.out]
            exact rfl
          | some t =>
            have hyt := hyt.2 rfl
            by_cases h0 : y = 0
            · subst h0
              clear hyt
              go_wp2_with (fail)
              go_ret
              refine ⟨?_, HT3.out⟩
              unfold restPost
              rw [HIt.out]
              exact ⟨rfl, HR3.out, v, HB3.out, HO3.out⟩
            · have h1 : y = 11 := by omega
              subst h1
              clear hyt
              go_wp2_with (fail)
              go_ret
              refine ⟨?_, HT3.out⟩
              unfold restPost
              rw [HIt.out]
              exact ⟨rfl, HR3.out, v, HB3.out, HO3.out⟩
        | succ m =>
          go_wp2_with (fail)
          refine (rbyte_any rb bs s2 wr HRo.out hlen).mono ?_
          rintro e w3 ⟨rfl, hR3, hg3⟩
          have HR3 := Lib.hid hR3
          have HB3 := Lib.hid (blk_grown hg3 (by omega) HBo.out)
          have HT3 := Lib.hid (HTo.out.trans (Two.grown1 hg3))
          have HO3 := Lib.hid (own_reader HRo.out HOo.out hg3)
          clear hR3 hg3 HRo HBo HTo HOo
          go_wp2_with (fail)
          refine (rtext_any rb bs (gB 1 s2).2 255 w3 HR3.out (by omega) hlen).mono ?_
          rintro e w4 ⟨rfl, hR4, hg4⟩
          have HR4 := Lib.hid hR4
          have HB4 := Lib.hid (blk_grown hg4 (by omega) HB3.out)
          have HT4 := Lib.hid (HT3.out.trans (Two.grown1 hg4))
          have HO4 := Lib.hid (own_reader HR3.out HO3.out hg4)
          clear hR4 hg4 HR3 HB3 HT3 HO3
          go_wp2_with (fail)
          refine (rtext_any rb bs (gT 255 (gB 1 s2).2).2 255 w4 HR4.out (by omega) hlen).mono ?_
          rintro e w5 ⟨rfl, hR5, hg5⟩
          have HR5 := Lib.hid hR5
          have HB5 := Lib.hid (blk_grown hg5 (by omega) HB4.out)
          have HT5 := Lib.hid (HT4.out.trans (Two.grown1 hg5))
          have HO5 := Lib.hid (own_reader HR4.out HO4.out hg5)
          clear hR5 hg5 HR4 HB4 HT4 HO4
          obtain ⟨q1, hq1⟩ : ∃ q, (gB 1 s2).1 = q := ⟨_, rfl⟩
          obtain ⟨q2, hq2⟩ : ∃ q, (gT 255 (gB 1 s2).2).1 = q := ⟨_, rfl⟩
          obtain ⟨q3, hq3⟩ : ∃ q, (gT 255 (gT 255 (gB 1 s2).2).2).1 = q := ⟨_, rfl⟩
          rw [hq1, hq2, hq3]
          have HQ := Lib.hid (And.intro hq1 (And.intro hq2 hq3))
          clear hq1 hq2 hq3
          go_wp2_with (fail)
          have hbo : (w5.alloc (.cells #[.int .i64 (q1 : Int), .string q2, .string q3, .int .i64 0] 38)).heap[w5.heap.size]? = some (.cells #[.int .i64 (q1 : Int), .string q2, .string q3, .int .i64 0] 38 (0, 0)) := heap_alloc_new _ _
          have hba : Below w5.heap.size w5 (w5.alloc (.cells #[.int .i64 (q1 : Int), .string q2, .string q3, .int .i64 0] 38)) := (Below.refl _ _).alloc (Nat.le_refl _) _
          have hsz : (w5.alloc (.cells #[.int .i64 (q1 : Int), .string q2, .string q3, .int .i64 0] 38)).heap.size = w5.heap.size + 1 := by simp
          have hwz := HT5.out.size
          generalize w5.alloc (.cells #[.int .i64 (q1 : Int), .string q2, .string q3, .int .i64 0] 38) = X at *
          have HR6 := Lib.hid (HR5.out.below hba)
          have HB6 := Lib.hid (blk_below hba HB5.out)
          have HT6 := Lib.hid (HT5.out.trans (Two.below hba))
          have HO6 := Lib.hid (own_below HO5.out hba)
          have hbi5 : bi < w5.heap.size := by omega
          have hrb5 : rb < w5.heap.size := by omega
          have hob5 : v.ownBlock ≠ some w5.heap.size := own_old HO5.out
          have HBo := Lib.hid hbo
          clear hbo hba HR5 HB5 HT5 HO5
          generalize w5.heap.size = bo at *
          refine (signed_any rb bs _ X HR6.out hlen).mono ?_
          rintro e w7 ⟨rfl, hR7, hg7⟩
          have hsz7 := hg7.size
          have HR7 := Lib.hid hR7
          have HB7 := Lib.hid (blk_grown hg7 (by omega) HB6.out)
          have HT7 := Lib.hid (HT6.out.trans (Two.grown1 hg7))
          have HO7 := Lib.hid (own_reader HR6.out HO6.out hg7)
          have hBo7 := blk_grown hg7 (by omega) HBo.out
          have HBo7 := Lib.hid hBo7
          have f3 : w7.frozen? ⟨bo, 3, none⟩ = false := Lib.frozen_of_heap hBo7 3
          have c3 : w7.cell? ⟨bo, 3, none⟩ = some (.int .i64 0) := cell_blk hBo7 rfl
          obtain ⟨q4, hq4⟩ : ∃ q, (gS (gT 255 (gT 255 (gB 1 s2).2).2).2).1 = q := ⟨_, rfl⟩
          obtain ⟨s3, hs3⟩ : ∃ q, (gS (gT 255 (gT 255 (gB 1 s2).2).2).2).2 = q := ⟨_, rfl⟩
          rw [hq4]
          have hgo : gOps K s0 = ((done ++ [⟨q1, q2, q3, q4⟩]) ++ (gOps m s3).1, (gOps m s3).2) := by
            rw [HGo.out, gOps_succ, gOp_state, hs3]
            have e : (gOp s2).1 = ⟨q1, q2, q3, q4⟩ := by
              rw [← hq4, ← HQ.out.1, ← HQ.out.2.1, ← HQ.out.2.2]
              rfl
            rw [e]
            simp
          rw [hs3] at HR7
          have HGn := Lib.hid hgo
          have hY3 := blk_set (k := 3) (u := .int .i64 q4) hBo7
          have hY3 : (w7.setCell ⟨bo, 3, none⟩ (.int .i64 q4)).heap[bo]? = some (.cells #[.int .i64 (q1 : Int), .string q2, .string q3, .int .i64 q4] 38 (0, 0)) := hY3
          have hYb := blk_other (b := bo) (k := 3) (u := .int .i64 q4) HB7.out (by omega)
          have HYT := Lib.hid (HT7.out.late (grown_set w7 bo 3 (.int .i64 q4)) (fun g e => by cases e; omega))
          have HYR := Lib.hid (HR7.out.set (k := 3) (u := .int .i64 q4) hBo7 (by decide) (by decide))
          have hYO := own_set (k := 3) (u := .int .i64 q4) HO7.out hob5
          have hYz : (w7.setCell ⟨bo, 3, none⟩ (.int .i64 q4)).heap.size = w7.heap.size := by simp [World.setCell]
          have HBo7b := Lib.hid hBo7
          have HQd := Lib.hid (show done.length + (m + 1) = K from HDl.out)
          clear hq4 hs3 hgo hR7 hg7 hBo7 HR6 HB6 HT6 HO6 HBo HGo HT7 HO7 HB7 HR7 HBo7 HBo7b
          go_wp2_with (fail)
          clear c3 f3
          generalize w7.setCell ⟨bo, 3, none⟩ (.int .i64 q4) = Y at *
          have hdl : done.length + (m + 1) ≤ 4 := by have := HQd.out; omega
          have c7 : Y.cell? ⟨bi, 7, none⟩ = some v := cell_blk hYb rfl
          have f7 : Y.frozen? ⟨bi, 7, none⟩ = false := Lib.frozen_of_heap hYb 7
          have o0 : Y.cell? ⟨bo, 0, none⟩ = some (.int .i64 (q1 : Int)) := cell_blk hY3 rfl
          have o1 : Y.cell? ⟨bo, 1, none⟩ = some (.string q2) := cell_blk hY3 rfl
          have o2 : Y.cell? ⟨bo, 2, none⟩ = some (.string q3) := cell_blk hY3 rfl
          have o3 : Y.cell? ⟨bo, 3, none⟩ = some (.int .i64 q4) := cell_blk hY3 rfl
          have hA : Below Y.heap.size Y (Y.alloc (.cells #[.int .i64 (q1 : Int), .string q2, .string q3, .int .i64 q4] 38)).drew := ((Below.refl _ _).alloc (Nat.le_refl _) _).drew
          have hbY : bi < Y.heap.size := by omega
          have c7a : (Y.alloc (.cells #[.int .i64 (q1 : Int), .string q2, .string q3, .int .i64 q4] 38)).cell? ⟨bi, 7, none⟩ = some v := (hA.cell (p := ⟨bi, 7, none⟩) hbY).trans c7
          have hbk2 := blk_below hA hYb
          have HRa := Lib.hid (HYR.out.below hA)
          have HTa := Lib.hid (HYT.out.trans (Two.below hA))
          have hownA : OwnO w.heap.size v done (Y.alloc (.cells #[.int .i64 (q1 : Int), .string q2, .string q3, .int .i64 q4] 38)) := own_below hYO ((Below.refl _ _).alloc (Nat.le_refl _) _)
          have HownA := Lib.hid (own_below hYO hA)
          have hneb : v.ownBlock ≠ some bi := own_neT HownA.out hbk2 (by decide)
          have HNe := Lib.hid hneb
          have Hbk2 := Lib.hid hbk2
          have HYO := Lib.hid hYO
          have hYw : w.heap.size ≤ Y.heap.size := by omega
          clear hA hbk2 hneb hYO hY3 hYb hYz
          go_region_law (refine step_append_lies _ (by rfl) _ _ _ (by rfl) w.heap.size 38 i0 _ 4 48 (by kernel_rfl) hi hz0 hz1 hz2 rfl (by omega) v done.length (opVals done) (by rfl) hownA ⟨Y.heap.size, 0, none⟩ 1 1 [.int .i64 (q1 : Int), .string q2, .string q3, .int .i64 q4] (by rfl) (by rfl) (World.news_of_block (cs := #[.int .i64 (q1 : Int), .string q2, .string q3, .int .i64 q4]) (t := 38) (fr := (0, 0)) (heap_alloc_new Y _)) (by simp [Value.oneCell']) (by omega) (by unfold maxLen; omega) (by omega) (by show w.heap.size ≤ (Y.alloc _).heap.size; simp; omega) (Y.heap.size + 1) (by simp) ?_; (intro g cap w1 hown2 hgrow hat2 hlt2); (have hbk3 := (hgrow.block bi (by show bi < (Y.alloc _).heap.size; simp; omega) (fun e => HNe.out e.symm)).trans Hbk2.out); (have f1 : w1.frozen? ⟨bi, 7, none⟩ = false := Lib.frozen_of_heap hbk3 7); (have c1 : w1.cell? ⟨bi, 7, none⟩ = some v := cell_blk hbk3 rfl); (have Hbk3 := Lib.hid hbk3); clear hbk3)
          all_goals
            go_wp2
            go_roundw
            case rel =>
              refine ⟨m, done ++ [⟨q1, q2, q3, q4⟩], s3, .slice (some ⟨g, 0, none⟩) (done.length + 1) cap, rfl, by omega, Lib.hid (by rw [List.length_append]; show done.length + 1 + m = K; have := HQd.out; omega), HGn, Lib.hid ((HRa.out.owned HownA.out hgrow (by decide) (by decide)).set Hbk3.out (by decide) (by decide)), Lib.hid ?_, Lib.hid ?_, Lib.hid ((HTa.out.late hgrow (own_from HownA.out)).trans (Two.grown2 (grown_set _ _ _ _)))⟩
              · exact blk_set (k := 7) Hbk3.out
              · have ho : OwnO w.heap.size (.slice (some ⟨g, 0, none⟩) (done.length + 1) cap) (done ++ [⟨q1, q2, q3, q4⟩]) w1 := by
                  unfold OwnO
                  rw [opVals_snoc, List.length_append]
                  exact hown2
                exact own_set ho (own_neT ho Hbk3.out (by decide))
            case measure => simp [intOf]
end Go.Proofs.YtekggipkfmleoaaGreatDoor

namespace Go.Proofs.YtekggipkfmleoaaGreatDoor
open Go.RowKit

theorem itInfoB : (Tryz.prog.info? 27).map (fun i => (i.zero, i.size, i.bytes)) = some (some (.agg #[.int .i64 0, .int .i64 0, .int .i64 0, .int .i64 0, .int .i64 0, .int .i64 0, .int .i64 0, .slice none 0 0]), 8, 80) := by kernel_rfl

theorem decL_zero (f : Nat) (r : List UInt8) : decL f 0 r = [] := by
  cases f with
  | zero => rfl
  | succ f =>
    cases r with
    | nil => rfl
    | cons c t => rw [decL_cons, if_pos rfl]
theorem gB1_cons (c : UInt8) (t : List UInt8) : gB 1 (some (c :: t)) = (c.toNat, some t) := by
  unfold gB
  simp only
  rw [if_pos (by simp)]
  simp [numB]

/-- items that are the call's own, from block B on -/
def OutO (B : Nat) (v : Value) (l : List ItT) (w : World) : Prop :=
  ∃ xs, w.ownsRow B 27 8 v l.length xs ∧ ∀ j x, l[j]? = some x → ∃ vo, (∀ k, k < 8 → xs[j * 8 + k]? = (itCells x vo)[k]?) ∧ OwnO 0 vo x.ops w
theorem OutO.nil (B : Nat) (w : World) : OutO B (.slice none 0 0) [] w := ⟨[], ⟨rfl, .inl ⟨rfl, rfl⟩⟩, fun j x h => by simp at h⟩
theorem own_typed {B : Nat} {v : Value} {l : List OpT} {w w' : World} (ho : OwnO B v l w) (hk : ∀ (k : Nat) (cs : Array Value), w.heap[k]? = some (Obj.cells cs 38 (0, 0)) → w'.heap[k]? = w.heap[k]?) : OwnO B v l w' := by
  obtain ⟨hl, ⟨rfl, h0⟩ | ⟨g, cap, cur, rfl, hbg, hh, r⟩⟩ := ho
  · exact ⟨hl, .inl ⟨rfl, h0⟩⟩
  · exact ⟨hl, .inr ⟨g, cap, cur, rfl, hbg, (hk _ _ hh).trans hh, r⟩⟩
theorem row_kept {B : Nat} {T : TypeId} {sz n : Nat} {v : Value} {xs : List Value} {w w' : World} (ho : w.ownsRow B T sz v n xs) (hk : ∀ g, v.ownBlock = some g → g < w.heap.size → w'.heap[g]? = w.heap[g]?) : w'.ownsRow B T sz v n xs := by
  obtain ⟨hl, ⟨rfl, h0⟩ | ⟨g, cap, cur, rfl, hbg, hh, r⟩⟩ := ho
  · exact ⟨hl, .inl ⟨rfl, h0⟩⟩
  · exact ⟨hl, .inr ⟨g, cap, cur, rfl, hbg, (hk g rfl (Array.getElem?_eq_some_iff.1 hh).1).trans hh, r⟩⟩
theorem OutO.kept {B : Nat} {v : Value} {l : List ItT} {w w' : World} (h : OutO B v l w) (hk : ∀ (k : Nat) (cs : Array Value), w.heap[k]? = some (Obj.cells cs 38 (0, 0)) → w'.heap[k]? = w.heap[k]?) (hv : ∀ g, v.ownBlock = some g → g < w.heap.size → w'.heap[g]? = w.heap[g]?) : OutO B v l w' := by
  obtain ⟨xs, h1, h2⟩ := h
  refine ⟨xs, row_kept h1 hv, fun j x hj => ?_⟩
  obtain ⟨vo, h3, h4⟩ := h2 j x hj
  exact ⟨vo, h3, own_typed h4 hk⟩
theorem OutO.below {B : Nat} {v : Value} {l : List ItT} {w w' : World} (h : OutO B v l w) (hb : Below w.heap.size w w') : OutO B v l w' :=
  h.kept (fun k cs hk => hb.block k (Array.getElem?_eq_some_iff.1 hk).1) (fun g _ hg => hb.block g hg)
/-- the row's block is of the items' type -/
theorem OutO.typ {B : Nat} {v : Value} {l : List ItT} {w : World} (h : OutO B v l w) {g : Nat} (hg : v.ownBlock = some g) : ∃ cs, w.heap[g]? = some (Obj.cells cs 27 (0, 0)) ∧ B ≤ g ∧ g < w.heap.size := by
  obtain ⟨xs, ⟨_, ⟨rfl, h0⟩ | ⟨g', cap, cur, rfl, hbg, hh, r⟩⟩, _⟩ := h
  · cases hg
  · cases hg
    exact ⟨_, hh, hbg, (Array.getElem?_eq_some_iff.1 hh).1⟩
theorem typ_ne {w : World} {a b : Nat} {ca cb : Array Value} {ta tb : TypeId} (ha : w.heap[a]? = some (Obj.cells ca ta (0, 0))) (hb : w.heap[b]? = some (Obj.cells cb tb (0, 0))) (h : ta ≠ tb) : a ≠ b := fun e => by
  subst e
  rw [ha] at hb
  injection hb with hb
  injection hb with _ hb
  exact h hb
theorem OutO.two {B rb bi : Nat} {v : Value} {l : List ItT} {w w' : World} {ca cb : Array Value} (h : OutO B v l w) (ht : Two rb bi w w') (hr : w.heap[rb]? = some (Obj.cells ca 73 (0, 0))) (hi : w.heap[bi]? = some (Obj.cells cb 27 (0, 0))) (hv : v.ownBlock ≠ some bi) : OutO B v l w' :=
  h.kept (fun k cs hk => ht.block k (Array.getElem?_eq_some_iff.1 hk).1 (typ_ne hk hr (by decide)) (typ_ne hk hi (by decide))) (fun g hg hlt => by
    obtain ⟨cs, hh, _, _⟩ := h.typ hg
    exact ht.block g hlt (typ_ne hh hr (by decide)) (fun e => hv (by rw [hg, e])))
theorem OutO.reader {B rb : Nat} {v : Value} {l : List ItT} {w w' : World} {ca : Array Value} (h : OutO B v l w) (ht : w.grownBy w' (some rb)) (hr : w.heap[rb]? = some (Obj.cells ca 73 (0, 0))) : OutO B v l w' :=
  h.kept (fun k cs hk => blk_grown ht (typ_ne hk hr (by decide)) hk |>.trans hk.symm) (fun g hg hlt => by
    obtain ⟨cs, hh, _, _⟩ := h.typ hg
    exact (blk_grown ht (typ_ne hh hr (by decide)) hh).trans hh.symm)
theorem itCells_len (x : ItT) (v : Value) : (itCells x v).toList.length = 8 := rfl
theorem OutO.snoc {B : Nat} {v v' : Value} {l : List ItT} {x : ItT} {vo : Value} {w w' : World} {xs : List Value} (h2 : ∀ j x, l[j]? = some x → ∃ vo, (∀ k, k < 8 → xs[j * 8 + k]? = (itCells x vo)[k]?) ∧ OwnO 0 vo x.ops w) (hrow : w.ownsRow B 27 8 v l.length xs)
    (hown : w'.ownsRow B 27 8 v' (l.length + 1) (xs ++ (itCells x vo).toList)) (hg : w.grownBy w' v.ownBlock) (ho : OwnO 0 vo x.ops w) : OutO B v' (l ++ [x]) w' := by
  have hxl : xs.length = l.length * 8 := hrow.1
  have hkeep : ∀ (k : Nat) (cs : Array Value), w.heap[k]? = some (Obj.cells cs 38 (0, 0)) → w'.heap[k]? = w.heap[k]? := fun k cs hk => hg.block k (Array.getElem?_eq_some_iff.1 hk).1 fun e => by
    obtain ⟨_, ⟨rfl, h0⟩ | ⟨g', cap, cur, rfl, hbg, hh, r⟩⟩ := hrow
    · cases e
    · cases e
      exact typ_ne hk hh (by decide) rfl
  refine ⟨xs ++ (itCells x vo).toList, by rw [List.length_append]; exact hown, fun j y hj => ?_⟩
  by_cases hlt : j < l.length
  · rw [List.getElem?_append_left hlt] at hj
    obtain ⟨v1, h3, h4⟩ := h2 j y hj
    exact ⟨v1, fun k hk => by rw [List.getElem?_append_left (by omega)]; exact h3 k hk, own_typed h4 hkeep⟩
  · rw [List.getElem?_append_right (by omega)] at hj
    have hje : j - l.length = 0 := by
      have := (List.getElem?_eq_some_iff.1 hj).1
      simp at this
      omega
    rw [hje] at hj
    simp at hj
    subst hj
    refine ⟨vo, fun k hk => ?_, own_typed ho hkeep⟩
    rw [List.getElem?_append_right (by omega), show j * 8 + k - xs.length = k by omega, Array.getElem?_toList]
theorem OutO.its {B : Nat} {v : Value} {l : List ItT} {w : World} (h : OutO B v l w) : ItsAt w v l := by
  obtain ⟨xs, hrow, h2⟩ := h
  have hrow' := hrow
  obtain ⟨hl, ⟨rfl, h0⟩ | ⟨g, cap, cur, rfl, hg, hh, h1, h3, h4, h5⟩⟩ := hrow
  · exact ⟨none, 0, by rw [h0], by omega, .inl h0⟩
  · refine ⟨_, cap, rfl, h1, .inr ⟨g, 0, rfl, (Array.getElem?_eq_some_iff.1 hh).1, fun j x hj => ?_⟩⟩
    obtain ⟨vo, hc, ho⟩ := h2 j x hj
    have key : ∀ k u, k < 8 → (itCells x vo)[k]? = some u → w.cell? ⟨g, 0 + j * 8 + k, none⟩ = some u := fun k u hk hu => by
      have := hrow'.cells (g := g) rfl (j * 8 + k) u (by rw [hc k hk]; exact hu)
      rw [addr_add] at this
      rw [show 0 + j * 8 + k = 0 + (j * 8 + k) by omega]
      exact this
    exact ⟨key 0 _ (by omega) rfl, key 1 _ (by omega) rfl, key 2 _ (by omega) rfl, key 3 _ (by omega) rfl, key 4 _ (by omega) rfl, key 5 _ (by omega) rfl, key 6 _ (by omega) rfl, vo, key 7 _ (by omega) rfl, ho.ops⟩

/-- what is left to read, out of the reader's own place -/
def rdMu (rb n : Nat) (w : World) : Nat := n - (intOf ((w.cell? ⟨rb, 1, none⟩).getD undef)).toNat
theorem rdMu_eq {rb : Nat} {bs r : List UInt8} {w : World} (h : RdAt rb bs (some r) w) : rdMu rb bs.length w = r.length := by
  obtain ⟨a, c, at_, why, fin, hC, _, _, _, hat, rfl, rfl⟩ := h
  unfold rdMu
  rw [hC.cells.2.1, List.length_drop]
  simp [intOf]
theorem rd_typ {rb : Nat} {bs : List UInt8} {st : RSt} {w : World} (h : RdAt rb bs st w) : ∃ cs, w.heap[rb]? = some (Obj.cells cs 73 (0, 0)) := by
  obtain ⟨a, c, at_, why, fin, hC, _⟩ := h
  exact ⟨_, hC⟩

/-- what comes of an item that was read, or not -/
def dstep (f m : Nat) (g : Option (ItT × List UInt8)) : List ItT := match g with
  | none => []
  | some (x, t') => x :: decL f m t'
def rdMuA (n : Nat) (a : Act) (w : World) : Nat := match a.tmps.getD 3 undef with
  | .pointer (some p) => rdMu p.block n w
  | _ => 0
def DJ (bs : List UInt8) (v0 : Value) (w : World) (a' : Act) (w' : World) : Prop :=
  ∃ (rb : Nat) (out : List ItT) (r : List UInt8) (vo u1 u5 u6 u7 u8 u9 u10 u11 u12 u13 u14 u15 u16 u17 u18 u19 u20 u21 u22 u23 u24 u25 u26 u27 u28 u29 u30 u31 u32 u33 u34 u35 : Value),
    a' = { tmps := #[v0, u1, .slice none 0 0, .pointer (some ⟨rb, 0, none⟩), vo, u5, u6, u7, u8, u9, u10, u11, u12, u13, u14, u15, u16, u17, u18, u19, u20, u21, u22, u23, u24, u25, u26, u27, u28, u29, u30, u31, u32, u33, u34, u35], defers := [] } ∧
    out.length ≤ 2048 ∧ decP bs = out ++ decL (r.length + 1) (2048 - out.length) r ∧ w.heap.size ≤ rb ∧ RdAt rb bs (some r) w' ∧ OutO w.heap.size vo out w' ∧ Below w.heap.size w w'

set_option maxHeartbeats 8000000 in
set_option maxRecDepth 100000 in
theorem decode_any (v : Value) (bs : List UInt8) (w : World) (h : ByAt w v bs) (hlen : bs.length ≤ 1099511627776) :
    Calls Tryz.prog 9 #[v] w fun e w' => ∃ v', e = .returned v' ∧ OutO w.heap.size v' (decP bs) w' ∧ Below w.heap.size w w' := by
  obtain ⟨i0, hi, hz0, hz1, hz2⟩ := info_parts itInfoB
  have HV := Lib.hid h
  obtain ⟨va, vc, rfl, _⟩ := h
  go_enter Tryz.func9, Tryz.ntmps9
  go_wp2_with (fail)
  refine wp_scope_jumps1 0 (DJ bs (.slice va bs.length vc) w) (rdMuA bs.length) rfl ?_ ?_
  · rintro a' w' ⟨rb, out, r, vo, u1, u5, u6, u7, u8, u9, u10, u11, u12, u13, u14, u15, u16, u17, u18, u19, u20, u21, u22, u23, u24, u25, u26, u27, u28, u29, u30, u31, u32, u33, u34, u35, rfl, hol, hdec, hrb, hR, hO, hb⟩
    have hmu : rdMuA bs.length { tmps := #[.slice va bs.length vc, u1, .slice none 0 0, .pointer (some ⟨rb, 0, none⟩), vo, u5, u6, u7, u8, u9, u10, u11, u12, u13, u14, u15, u16, u17, u18, u19, u20, u21, u22, u23, u24, u25, u26, u27, u28, u29, u30, u31, u32, u33, u34, u35], defers := [] } w' = r.length := rdMu_eq hR
    rw [hmu]
    have HDec := Lib.hid hdec
    have HR := Lib.hid hR
    have HO := Lib.hid hO
    have HB := Lib.hid hb
    clear hdec hR hO hb hmu
    go_wp2_with (fail)
    refine (left_any rb bs (some r) w' HR.out hlen).mono ?_
    rintro e w2 ⟨rfl, hR2, hg2⟩
    have HR2 := Lib.hid hR2
    obtain ⟨crb, hcrb⟩ := rd_typ HR.out
    have HO2 := Lib.hid (HO.out.reader hg2 hcrb)
    have HB2 := Lib.hid (HB.out.grown hg2 HB.out.size (fun k hk => by cases hk; exact hrb))
    obtain ⟨crb2, hcrb2⟩ := rd_typ hR2
    have HCr := Lib.hid hcrb2
    clear hR2 hg2 hcrb hcrb2
    cases r with
    | nil =>
      have he : decP bs = out := by rw [HDec.out, decL_nil, List.append_nil]
      have HE := Lib.hid he; clear he
      have hleft : ((leftOf (some ([] : List UInt8)) : Nat) : Int) = 0 := rfl
      rw [hleft]
      clear hleft
      go_wp2_with (fail)
      simp only [Exit.jump]
      go_ret
      rw [HE.out]
      exact ⟨_, rfl, HO2.out, HB2.out⟩
    | cons c t =>
      have hleft : ((leftOf (some (c :: t)) : Nat) : Int) = (t.length : Int) + 1 := by simp [leftOf]
      rw [hleft]
      clear hleft
      obtain ⟨vlen, vcap, vad, rfl⟩ : ∃ n q a, vo = .slice a n q := by
        obtain ⟨xs, ⟨_, ⟨hv, _⟩ | ⟨g, cap, cur, hv, _⟩⟩, _⟩ := HO2.out
        · exact ⟨_, _, _, hv⟩
        · exact ⟨_, _, _, hv⟩
      obtain rfl : vlen = out.length := by
        obtain ⟨xs, ⟨_, ⟨hv, h0⟩ | ⟨g, cap, cur, hv, _⟩⟩, _⟩ := HO2.out
        · cases hv; omega
        · cases hv; rfl
      by_cases hfull : out.length = 2048
      · have he : decP bs = out := by rw [HDec.out, hfull, Nat.sub_self, decL_zero, List.append_nil]
        have HE := Lib.hid he; clear he
        have hdB : decide ((out.length : Int) < 2048) = false := by simp; omega
        clear hfull
        go_wp2_with (fail)
        simp only [Exit.jump]
        go_ret
        rw [HE.out]
        exact ⟨_, rfl, HO2.out, HB2.out⟩
      have hlt : out.length < 2048 := by omega
      have hdB : decide ((out.length : Int) < 2048) = true := by simp; omega
      clear hfull
      go_wp2_with (fail)
      refine (rbyte_any rb bs (some (c :: t)) w2 HR2.out hlen).mono ?_
      rintro e w3 ⟨rfl, hR3, hg3⟩
      rw [gB1_cons] at hR3 ⊢
      simp only at hR3
      have HR3 := Lib.hid hR3
      have HO3 := Lib.hid (HO2.out.reader hg3 HCr.out)
      have HB3 := Lib.hid (HB2.out.grown hg3 HB2.out.size (fun k hk => by cases hk; exact hrb))
      clear hR3 hg3 HR2 HO2 HB2 HCr HR HO HB
      have hc256 : c.toNat < 256 := c.toNat_lt
      obtain ⟨z, hz⟩ : ∃ z, c.toNat = z := ⟨_, rfl⟩
      have hdec2 : decP bs = out ++ (if z < 1 ∨ 9 < z then decL (t.length + 1) (2048 - out.length) t else
          dstep (t.length + 1) (2048 - out.length - 1) (gItem z t)) := by
        rw [HDec.out, List.length_cons, decL_cons, if_neg (by omega), hz]
        rfl
      have HDec2 := Lib.hid hdec2
      simp only
      rw [hz] at hc256 ⊢
      clear hdec2 hz HDec
      have hbo : (w3.alloc (.cells #[.int .i64 (z : Int), .int .i64 0, .int .i64 0, .int .i64 0, .int .i64 0, .int .i64 0, .int .i64 0, .slice none 0 0] 27)).heap[w3.heap.size]? = some (.cells (itCells (itOf (z : Int) [] []) (.slice none 0 0)) 27 (0, 0)) := heap_alloc_new _ _
      have hba : Below w3.heap.size w3 (w3.alloc (.cells #[.int .i64 (z : Int), .int .i64 0, .int .i64 0, .int .i64 0, .int .i64 0, .int .i64 0, .int .i64 0, .slice none 0 0] 27)) := (Below.refl _ _).alloc (Nat.le_refl _) _
      have HR4 := Lib.hid (HR3.out.below hba)
      have HO4 := Lib.hid (HO3.out.below hba)
      have HB4 := Lib.hid (HB3.out.trans (hba.mono HB3.out.size))
      have hvb : (Value.slice vad out.length vcap).ownBlock ≠ some w3.heap.size := fun e => by
        obtain ⟨_, _, _, h⟩ := HO3.out.typ e
        omega
      have HVb := Lib.hid hvb
      have HBo := Lib.hid hbo
      have c0 : (w3.alloc (.cells #[.int .i64 (z : Int), .int .i64 0, .int .i64 0, .int .i64 0, .int .i64 0, .int .i64 0, .int .i64 0, .slice none 0 0] 27)).cell? ⟨w3.heap.size, 0, none⟩ = some (.int .i64 (z : Int)) := cell_blk hbo rfl
      have hbiw : w.heap.size ≤ w3.heap.size := HB3.out.size
      clear hbo hba hvb HR3 HO3 HB3
      by_cases q1 : z < 1
      · have he : decP bs = out ++ decL (t.length + 1) (2048 - out.length) t := by rw [HDec2.out, if_pos (.inl q1)]
        have HE := Lib.hid he; clear he
        have qB : decide ((z : Int) < 1) = true := by simp; omega
        go_wp2_with (fail)
        go_step3
        have hmu2 := rdMu_eq HR4.out
        refine ⟨rfl, ⟨rb, out, t, _, _, _, _, _, _, _, _, _, _, _, _, _, _, _, _, _, _, _, _, _, _, _, _, _, _, _, _, _, _, _, _, _, rfl, by omega, HE.out, hrb, HR4.out, HO4.out, HB4.out⟩, ?_⟩
        refine Nat.lt_of_le_of_lt (Nat.le_of_eq hmu2) ?_
        simp
      have qB : decide ((z : Int) < 1) = false := by simp; omega
      by_cases q2 : 9 < z
      · have he : decP bs = out ++ decL (t.length + 1) (2048 - out.length) t := by rw [HDec2.out, if_pos (.inr q2)]
        have HE := Lib.hid he; clear he
        have qB2 : decide ((9 : Int) < (z : Int)) = true := by simp; omega
        go_wp2_with (fail)
        go_step3
        have hmu2 := rdMu_eq HR4.out
        refine ⟨rfl, ⟨rb, out, t, _, _, _, _, _, _, _, _, _, _, _, _, _, _, _, _, _, _, _, _, _, _, _, _, _, _, _, _, _, _, _, _, _, rfl, by omega, HE.out, hrb, HR4.out, HO4.out, HB4.out⟩, ?_⟩
        refine Nat.lt_of_le_of_lt (Nat.le_of_eq hmu2) ?_
        simp
      have qB2 : decide ((9 : Int) < (z : Int)) = false := by simp; omega
      go_wp2_with (fail)
      clear c0
      generalize w3.alloc (.cells #[.int .i64 (z : Int), .int .i64 0, .int .i64 0, .int .i64 0, .int .i64 0, .int .i64 0, .int .i64 0, .slice none 0 0] 27) = X at *
      have hwX : w.heap.size ≤ X.heap.size := HB4.out.size
      generalize w3.heap.size = bi at *
      obtain ⟨crb, hcrb⟩ := rd_typ HR4.out
      refine (rest_any rb bi bs t (z : Int) X HR4.out HBo.out (typ_ne hcrb HBo.out (by decide)) hlen).mono ?_
      rintro e w5 ⟨hp5, ht5⟩
      have HO5 := Lib.hid (HO4.out.two ht5 hcrb HBo.out HVb.out)
      have HB5 := Lib.hid (HB4.out.trans (show Below w.heap.size X w5 from ⟨ht5.os, ht5.tape, ht5.output, ht5.size, fun k hk => ht5.block k (by omega) (by omega) (by omega)⟩))
      have hz5 := ht5.size
      clear ht5 HR4 HO4 HB4 hcrb
      unfold restPost at hp5
      cases hg : gItem z t with
      | none =>
        rw [hg] at hp5
        have he : decP bs = out := by
          rw [HDec2.out, if_neg (by omega), hg]
          show out ++ [] = out
          rw [List.append_nil]
        have HE := Lib.hid he
        clear he hg
        cases hp5
        go_wp2_with (fail)
        simp only [Exit.jump]
        go_ret
        rw [HE.out]
        exact ⟨_, rfl, HO5.out, HB5.out⟩
      | some p =>
        obtain ⟨x, t'⟩ := p
        rw [hg] at hp5
        obtain ⟨rfl, hR5, vi, hbi5, ho5⟩ := hp5
        have ht' := gItem_len hg
        have he : decP bs = (out ++ [x]) ++ decL (t'.length + 1) (2048 - (out ++ [x]).length) t' := by
          rw [HDec2.out, if_neg (by omega), hg, List.append_assoc, List.length_append]
          show out ++ (x :: decL (t.length + 1) (2048 - out.length - 1) t') = out ++ ([x] ++ decL (t'.length + 1) (2048 - (out.length + 1)) t')
          rw [decL_fuel (t.length + 1) (t'.length + 1) _ t' (by omega) (by omega), Nat.sub_sub]
          rfl
        have HE := Lib.hid he
        have HR5 := Lib.hid hR5
        have HOo := Lib.hid (World.ownsRow.mono ho5 (Nat.zero_le _))
        have HBi := Lib.hid hbi5
        have e0 : w5.cell? ⟨bi, 0, none⟩ = some (.int .i64 x.kind) := cell_blk hbi5 rfl
        have e1 : w5.cell? ⟨bi, 1, none⟩ = some (.int .i64 x.client) := cell_blk hbi5 rfl
        have e2 : w5.cell? ⟨bi, 2, none⟩ = some (.int .i64 x.node) := cell_blk hbi5 rfl
        have e3 : w5.cell? ⟨bi, 3, none⟩ = some (.int .i64 x.n) := cell_blk hbi5 rfl
        have e4 : w5.cell? ⟨bi, 4, none⟩ = some (.int .i64 x.lo) := cell_blk hbi5 rfl
        have e5 : w5.cell? ⟨bi, 5, none⟩ = some (.int .i64 x.hi) := cell_blk hbi5 rfl
        have e6 : w5.cell? ⟨bi, 6, none⟩ = some (.int .i64 x.group) := cell_blk hbi5 rfl
        have e7 : w5.cell? ⟨bi, 7, none⟩ = some vi := cell_blk hbi5 rfl
        obtain ⟨xs, hrow, hits⟩ := HO5.out
        have hba : Below w5.heap.size w5 (w5.alloc (.cells (itCells x vi) 27)) := (Below.refl _ _).alloc (Nat.le_refl _) _
        have hrowa := row_kept hrow (w' := w5.alloc (.cells (itCells x vi) 27)) (fun g _ hg => hba.block g hg)
        have HRow := Lib.hid hrow
        have HRowA := Lib.hid hrowa
        have HIts := Lib.hid hits
        have HBa := Lib.hid hba
        have hvi : vi.oneCell' = true := by
          obtain ⟨_, ⟨rfl, _⟩ | ⟨_, _, _, rfl, _⟩⟩ := ho5
          · rfl
          · rfl
        have hnews := World.news_of_block (cs := itCells x vi) (t := 27) (fr := (0, 0)) (heap_alloc_new w5 _)
        have HNews := Lib.hid hnews
        have hw5 : w.heap.size ≤ (w5.alloc (.cells (itCells x vi) 27)).heap.size := by simp; omega
        clear he hg hR5 ho5 hbi5 hrow hits hba hrowa hnews
        unfold itCells at HRowA HNews hw5 HBa
        go_wp2_with (at_builtin; refine wpList_append_own _ rfl _ _ 23 rfl w.heap.size 27 i0 _ 8 80 Tryz.underlying23 hi hz0 hz1 hz2 rfl (by omega) (.slice vad out.length vcap) out.length xs rfl HRowA.out ⟨w5.heap.size, 0, none⟩ 1 1 (itCells x vi).toList rfl rfl HNews.out ?c1 ?c2 ?c3 ?c4 ?_)
        case c1 =>
          intro u hu
          simp [itCells] at hu
          rcases hu with rfl | rfl | rfl | rfl | rfl | rfl | rfl | rfl <;> first | rfl | exact hvi
        case c2 => unfold maxLen; omega
        case c3 => omega
        case c4 => exact hw5
        intro v' w6 hown6 hg6 _
        have hz6 := hg6.size
        have HR6 := Lib.hid (((HR5.out.below HBa.out).owned HRowA.out hg6 (by decide) (by decide)))
        have HO6 : Hid (OutO w.heap.size v' (out ++ [x]) w6) := Lib.hid (OutO.snoc (vo := vi) (x := x) (fun j y hj => by
          obtain ⟨v1, h1, h2⟩ := HIts.out j y hj
          exact ⟨v1, h1, own_below h2 HBa.out⟩) HRowA.out hown6 hg6 (own_below HOo.out HBa.out))
        have HB6 := Lib.hid ((HB5.out.trans (HBa.out.mono (by omega))).grown hg6 (by exact hw5) (fun k hk => (HO5.out.typ hk).choose_spec.2.1))
        clear hown6 hg6
        go_wp2_with (fail)
        go_step3
        have hmu2 := rdMu_eq HR6.out
        refine ⟨rfl, ⟨rb, out ++ [x], t', _, _, _, _, _, _, _, _, _, _, _, _, _, _, _, _, _, _, _, _, _, _, _, _, _, _, _, _, _, _, _, _, _, rfl, by simp; omega, HE.out, hrb, HR6.out, HO6.out, HB6.out⟩, ?_⟩
        refine Nat.lt_of_le_of_lt (Nat.le_of_eq hmu2) ?_
        simp
        omega
  · intro hp
    go_wp2_with (fail)
    refine (newReader_any _ bs w HV.out hlen).mono ?_
    rintro e w1 ⟨rb, rfl, hrb, hR1, hb1⟩
    have HR1 := Lib.hid hR1
    have HB1 := Lib.hid hb1
    clear hR1 hb1
    go_wp2_with (fail)
    go_step3
    simp only [Exit.then]
    rename_i K hK
    refine hK _ _ (hp _ _ ?_)
    exact ⟨rb, [], bs, _, _, _, _, _, _, _, _, _, _, _, _, _, _, _, _, _, _, _, _, _, _, _, _, _, _, _, _, _, _, _, _, _, rfl, by simp, rfl, hrb, HR1.out, OutO.nil _ _, HB1.out⟩
end Go.Proofs.YtekggipkfmleoaaGreatDoor

