/- conclaveref1.Reader; the law's items; Roomy, Same, Intact; the law ShellReads. -/
import Derived.Test.YtekggipkfmleoaaGreatDoorDa
import Derived.Test.YtekggipkfmleoaaGreatDoorQa
import Derived.Deep.RegionHeld3
import Derived.Lib.SlBuf
import Derived.OwnWalk
import Derived.Test.YtekggipkfmleoaaGreatDoorSk
import Derived.Deep.CutBlock
import Derived.Deep.DeepCutAuto
import Derived.Laws.BitsAllLaws
set_option linter.unusedVariables false
set_option linter.unusedSimpArgs false
namespace Go.Proofs.YtekggipkfmleoaaGreatDoor
open Go.RowKit

def rfOk (bs : List UInt8) (st : RSt) (at_ : Nat) (rf : Bool) : Prop := at_ ≤ bs.length ∧ match st with
  | some r => rf = false ∧ r = bs.drop at_
  | none => rf = true
def RfC (b : Nat) (a : Option Addr) (n c at_ : Nat) (rf : Bool) (why wh : Int) (W : World) : Prop := W.heap[b]? = some (.cells #[.slice a n c, .int .i64 (at_ : Int), .bool rf, .int .i64 why, .int .i64 wh] 50 (0, 0))
/-- a reader over these bytes; what is left to read -/
def RfAt (b : Nat) (bs : List UInt8) (st : RSt) (W : World) : Prop := ∃ a c at_ rf why wh, RfC b a bs.length c at_ rf why wh W ∧ bs.length ≤ c ∧ c ≤ maxLen ∧ BLies b a bs W ∧ rfOk bs st at_ rf
theorem RfC.cells {b : Nat} {a : Option Addr} {n c at_ : Nat} {rf : Bool} {why wh : Int} {W : World} (h : RfC b a n c at_ rf why wh W) :
    W.cell? ⟨b, 0, none⟩ = some (.slice a n c) ∧ W.cell? ⟨b, 1, none⟩ = some (.int .i64 (at_ : Int)) ∧ W.cell? ⟨b, 2, none⟩ = some (.bool rf) ∧ W.cell? ⟨b, 3, none⟩ = some (.int .i64 why) ∧ W.cell? ⟨b, 4, none⟩ = some (.int .i64 wh) ∧ ∀ k, W.frozen? ⟨b, k, none⟩ = false := by
  unfold RfC at h
  refine ⟨?_, ?_, ?_, ?_, ?_, fun k => Lib.frozen_of_heap h k⟩
  all_goals
    rw [Lib.cell_of_heap h]
    rfl
theorem RfC.set1 {b : Nat} {a : Option Addr} {n c at_ at' : Nat} {rf : Bool} {why wh z : Int} {W : World} (h : RfC b a n c at_ rf why wh W) (hz : z = (at' : Int)) : RfC b a n c at' rf why wh (W.setCell ⟨b, 1, none⟩ (.int .i64 z)) := by
  subst hz
  unfold RfC at *
  simp [World.setCell, Array.getElem?_modify, h]
theorem RfC.ref {b : Nat} {a : Option Addr} {n c at_ : Nat} {rf : Bool} {why wh why' wh' : Int} {W : World} (h : RfC b a n c at_ rf why wh W) : RfC b a n c at_ true why' wh' (((W.setCell ⟨b, 2, none⟩ (.bool true)).setCell ⟨b, 3, none⟩ (.int .i64 why')).setCell ⟨b, 4, none⟩ (.int .i64 wh')) := by
  unfold RfC at *
  simp [World.setCell, Array.getElem?_modify, h]

theorem refuseR_any (b : Nat) (a : Option Addr) (n c at_ : Nat) (why wh why' wh' : Int) (w : World) (h : RfC b a n c at_ false why wh w) :
    Calls Tryz.prog 54 #[.pointer (some ⟨b, 0, none⟩), .int .i64 why', .int .i64 wh'] w fun e w' => e = .returned (.tuple #[]) ∧ RfC b a n c at_ true why' wh' w' ∧ w.grownBy w' (some b) := by
  have HC := Lib.hid h
  obtain ⟨c0, c1, c2, c3, c4, hf⟩ := h.cells
  have f2 := hf 2
  have f3 := hf 3
  have f4 := hf 4
  clear h hf
  go_enter Tryz.func54, Tryz.ntmps54
  go_wp2
  go_end0
  exact ⟨rfl, HC.out.ref, grown_trans (grown_trans (grown_set _ b 2 _) (grown_set _ b 3 _)) (grown_set _ b 4 _)⟩

theorem grown_below {w w1 : World} {r : Option Nat} (h : Below w.heap.size w w1) : w.grownBy w1 r := ⟨h.os, h.tape, h.output, h.size, fun k hk _ => h.block k hk⟩
theorem grown_late {w w1 w2 : World} {r r' : Option Nat} (h : w.grownBy w1 r) (k : w1.grownBy w2 r') (hr : ∀ g, r' = some g → w.heap.size ≤ g) : w.grownBy w2 r :=
  ⟨k.os.trans h.os, k.tape.trans h.tape, k.output.trans h.output, Nat.le_trans h.size k.size, fun i hi h1 => (k.block i (Nat.lt_of_lt_of_le hi h.size) (fun e => by have := hr i e.symm; omega)).trans (h.block i hi h1)⟩
theorem sliced_by {b : Nat} {a : Option Addr} {bs : List UInt8} {W : World} {at_ n c : Nat} (h : BLies b a bs W) (hk : n ≤ bs.length - at_) (hbc : bs.length ≤ c) (hat : at_ ≤ bs.length) :
    ByAt W (.slice (if c = at_ then a else Option.map (fun x => x.add at_) a) (((at_ : Int) + (n : Int)).toNat - at_) (c - at_)) ((bs.drop at_).take n) := by
  rw [show ((at_ : Int) + (n : Int)).toNat - at_ = n by omega]
  split
  · exact byAt_zero h (by omega)
  · exact byAt_of h hk
theorem row_ne {W : World} {B b n sz : Nat} {v : Value} {xs : List Value} {T t : TypeId} {cs : Array Value} (ho : W.ownsRow B T sz v n xs) (hb : W.heap[b]? = some (Obj.cells cs t (0, 0))) (ht : T ≠ t) : ∀ g, v.ownBlock = some g → g ≠ b := by
  obtain ⟨_, ⟨rfl, _⟩ | ⟨g', cap, cur, rfl, _, hh, _⟩⟩ := ho
  · intro g e; cases e
  · intro g e
    cases e
    exact typ_ne hh hb ht
set_option maxHeartbeats 2000000 in
set_option maxRecDepth 100000 in
theorem raw_any (b : Nat) (bs : List UInt8) (st : RSt) (n : Nat) (w : World) (h : RfAt b bs st w) (hn : n ≤ 1099511627776) (hlen : bs.length ≤ 1099511627776) :
    Calls Tryz.prog 40 #[.pointer (some ⟨b, 0, none⟩), .int .i64 n] w fun e w' => ∃ v, e = .returned v ∧ ByAt w' v (gRaw n st).1 ∧ RfAt b bs (gRaw n st).2 w' ∧ w.grownBy w' (some b) := by
  obtain ⟨j0, hj, hy0, hy1, hy2⟩ := info_parts wrInfoB
  obtain ⟨a, c, at_, rf, why, wh, hC, hbc, hcm, hL, hat, hst⟩ := h
  have HC := Lib.hid hC
  obtain ⟨c0, c1, c2, c3, c4, hf⟩ := hC.cells
  have f1 := hf 1
  have hblt : b < w.heap.size := (Array.getElem?_eq_some_iff.1 hC).1
  clear hf hC
  cases st with
  | none =>
    obtain rfl : rf = true := hst
    go_enter Tryz.func40, Tryz.ntmps40
    go_wp2
    go_ret
    exact ⟨_, rfl, ByAt.nil _, ⟨a, c, at_, true, why, wh, HC.out, hbc, hcm, hL, hat, rfl⟩, grown_refl _ _⟩
  | some r =>
    obtain ⟨rfl, rfl⟩ := hst
    have HL := Lib.hid hL; clear hL
    have hwx : IntKind.i64.wrap ((bs.length : Int) - (at_ : Int)) = (bs.length : Int) - (at_ : Int) := by rw [IntKind.wrap_i64]; omega
    by_cases hk : n ≤ (bs.drop at_).length
    · rw [gRaw_ok hk]
      rw [List.length_drop] at hk
      have hwy : IntKind.i64.wrap ((at_ : Int) + (n : Int)) = (at_ : Int) + (n : Int) := by rw [IntKind.wrap_i64]; omega
      have hg1 : ¬ ((bs.length : Int) - (at_ : Int) < (n : Int)) := by omega
      have hdB : decide ((bs.length : Int) - (at_ : Int) < (n : Int)) = false := by simpa using hg1
      have hi0 : (0 : Int) ≤ (at_ : Int) := by omega
      have hi1 : (at_ : Int) ≤ (at_ : Int) + (n : Int) := by omega
      have hi2 : (at_ : Int) + (n : Int) ≤ (c : Int) := by omega
      go_enter Tryz.func40, Tryz.ntmps40
      go_wp2
      go_quiet (fail)
      go_wp2
      generalize hW0 : w.drewN _ = W0
      have hC0 : RfC b a bs.length c at_ false why wh W0 := by rw [← hW0]; exact HC.out
      have hL0 : BLies b a bs W0 := by rw [← hW0]; exact HL.out
      have hg0 : w.grownBy W0 (some b) := by rw [← hW0]; exact ⟨rfl, rfl, rfl, Nat.le_refl _, fun _ _ _ => rfl⟩
      have HC0 := Lib.hid hC0
      have HG0 := Lib.hid hg0
      have HL0 := Lib.hid hL0
      obtain ⟨d0, d1, _, _, _, hf0⟩ := hC0.cells
      have hbl0 : b < W0.heap.size := (Array.getElem?_eq_some_iff.1 hC0).1
      have hA : Below W0.heap.size W0 (W0.alloc (.cells #[] 5)) := (Below.refl _ _).alloc (Nat.le_refl _) _
      have c0a : (W0.alloc (.cells #[] 5)).cell? ⟨b, 0, none⟩ = some (.slice a bs.length c) := (hA.cell (p := ⟨b, 0, none⟩) hbl0).trans d0
      have c1a : (W0.alloc (.cells #[] 5)).cell? ⟨b, 1, none⟩ = some (.int .i64 (at_ : Int)) := (hA.cell (p := ⟨b, 1, none⟩) hbl0).trans d1
      have hCa : RfC b a bs.length c at_ false why wh (W0.alloc (.cells #[] 5)) := (hA.block b hbl0).trans hC0
      have hLa : BLies b a bs (W0.alloc (.cells #[] 5)) := hL0.kept ⟨hA.os, hA.tape, hA.output, hA.size, fun k hk _ => hA.block k hk⟩
      have ho1 : (W0.alloc (.cells #[] 5)).ownsRow W0.heap.size 5 1 (.slice (some ⟨W0.heap.size, 0, none⟩) 0 0) 0 [] := own_empty _ _ _ _ (Nat.le_refl _) (heap_alloc_new W0 _)
      have hsa : W0.heap.size ≤ (W0.alloc (.cells #[] 5)).heap.size := hA.size
      have HCa := Lib.hid hCa
      have HLa := Lib.hid hLa
      have HO1 := Lib.hid ho1
      have HA := Lib.hid hA
      clear c0 c1 c2 c3 c4 hC0 hL0 hg0 hf0 hW0 hA hCa hLa ho1
      have hdl : ((bs.drop at_).take n).length = n := by rw [List.length_take, List.length_drop]; omega
      have HDl := Lib.hid hdl; clear hdl
      go_region_law (refine step_append_by _ (by rfl) _ _ 22 (by rfl) 5 j0 (by kernel_rfl) hj hy0 hy1 hy2 W0.heap.size (.slice (some ⟨W0.heap.size, 0, none⟩) 0 0) 0 [] (by rfl) HO1.out _ ((bs.drop at_).take n) (by rfl) (sliced_by HLa.out hk hbc hat) (by rw [HDl.out]; omega) hsa ?_; (intro v' w1 hown2 hgrow hat2); (have hC1 := blk_grown hgrow (show b ≠ W0.heap.size by omega) HCa.out); (have c1b : w1.cell? ⟨b, 1, none⟩ = some (.int .i64 (at_ : Int)) := (RfC.cells hC1).2.1); (have f1b : w1.frozen? ⟨b, 1, none⟩ = false := (RfC.cells hC1).2.2.2.2.2 1); (have HC1 := Lib.hid hC1); clear hC1)
      all_goals
        have hown3 : w1.ownsRow W0.heap.size 5 1 v' ((bs.drop at_).take n).length (Lib.byteCells ((bs.drop at_).take n)) := by simpa using hown2
        have hne := row_ne hown3 HC1.out (by decide)
        have HO4 := Lib.hid (row_kept hown3 (w' := w1.setCell ⟨b, 1, none⟩ (.int .i64 ((at_ : Int) + (n : Int)))) (fun g hg _ => Below.heap_setCell w1 _ _ _ (hne g hg)))
        have hgw : W0.grownBy (w1.setCell ⟨b, 1, none⟩ (.int .i64 ((at_ : Int) + (n : Int)))) (some b) := grown_trans (grown_late (r' := some W0.heap.size) (grown_below HA.out) ⟨hgrow.os, hgrow.tape, hgrow.output, hgrow.size, hgrow.block⟩ (fun g e => by cases e; exact Nat.le_refl _)) (grown_set w1 b 1 _)
        have HGw := Lib.hid hgw
        clear hown2 hown3 hne hgw hgrow hat2
        go_wp2
        all_goals
          go_ret
          exact ⟨_, rfl, ByAt.of_own HO4.out, ⟨a, c, at_ + n, false, why, wh, RfC.set1 (n := bs.length) (at_ := at_) HC1.out (by omega), hbc, hcm, HL0.out.kept HGw.out, by omega, rfl, rfl⟩, grown_trans HG0.out HGw.out⟩
    · rw [gRaw_no hk]
      rw [List.length_drop] at hk
      have hdB : decide ((bs.length : Int) - (at_ : Int) < (n : Int)) = true := by simp; omega
      go_enter Tryz.func40, Tryz.ntmps40
      go_wp2
      go_quiet (fail)
      go_wp2_with (fail)
      refine (refuseR_any b a bs.length c at_ why wh 10 _ (w.drewN _) HC.out).mono ?_
      rintro e w' ⟨rfl, hC', hg⟩
      go_wp2
      go_ret
      have hg2 : w.grownBy w' (some b) := ⟨hg.os, hg.tape, hg.output, hg.size, hg.block⟩
      exact ⟨_, rfl, ByAt.nil _, ⟨a, c, at_, true, 10, _, hC', hbc, hcm, HL.out.kept hg2, hat, rfl⟩, hg2⟩

end Go.Proofs.YtekggipkfmleoaaGreatDoor

namespace Go.Proofs.YtekggipkfmleoaaGreatDoor
open Go.RowKit

set_option maxHeartbeats 2000000 in
set_option maxRecDepth 100000 in
theorem numberR_any (b : Nat) (bs : List UInt8) (st : RSt) (k : Nat) (w : World) (h : RfAt b bs st w) (hk : k ≤ 4) (hlen : bs.length ≤ 1099511627776) :
    Calls Tryz.prog 37 #[.pointer (some ⟨b, 0, none⟩), .int .i64 k] w fun e w' => e = .returned (.int .u64 ((gB k st).1 : Nat)) ∧ RfAt b bs (gB k st).2 w' ∧ w.grownBy w' (some b) := by
  rw [gB_raw]
  have hL4 := gRaw_len1 k st
  have HW := Lib.hid h; clear h
  go_enter Tryz.func37, Tryz.ntmps37
  go_wp2_with (fail)
  refine (raw_any b bs st k w HW.out (by omega) hlen).mono ?_
  rintro e w1 ⟨v, rfl, hV, hR, hg⟩
  obtain ⟨L, hL⟩ : ∃ L, (gRaw k st).1 = L := ⟨_, rfl⟩
  obtain ⟨st2, hst2⟩ : ∃ s2, (gRaw k st).2 = s2 := ⟨_, rfl⟩
  rw [hL] at hL4 hV
  rw [hst2] at hR
  obtain ⟨a, c, rfl, hV⟩ := hV
  have HV := Lib.hid hV
  have HR := Lib.hid hR
  have HG := Lib.hid hg
  have HLq := Lib.hid (And.intro hL hst2)
  clear hV hR hg hL hst2
  go_wp2_with (fail)
  go_loopw [6, 7] (fun xv iv wr => ∃ i : Nat, xv = .int .u64 (numB (L.take i) : Nat) ∧ iv = .int .i64 i ∧ i ≤ L.length ∧ wr = w1) (fun _ iv _ => L.length - (intOf iv).toNat)
  case atStart => exact ⟨0, rfl, rfl, Nat.zero_le _, rfl⟩
  case round =>
    obtain ⟨i, rfl, rfl, hi, rfl⟩ := hrel
    by_cases hil : i < L.length
    · have hp : ∃ x, L[i]? = some x := ⟨_, List.getElem?_eq_getElem hil⟩
      obtain ⟨x, hx⟩ := hp
      rcases HV.out with ⟨_, h0⟩ | ⟨g, o, rfl, hs⟩
      · subst h0; simp at hil
      have hc := hs i x hx
      have hnb := numB_lt (L.take i)
      have hni : numB (L.take (i + 1)) = numB (L.take i) * 256 + x.toNat := by
        rw [List.take_add_one, hx]
        exact numB_snoc _ _
      have hn24 : numB (L.take i) < 16777216 := by
        have h1 : (L.take i).length ≤ 3 := by rw [List.length_take]; omega
        have h2 : 256 ^ (L.take i).length ≤ 256 ^ 3 := Nat.pow_le_pow_right (by omega) h1
        omega
      have Hni := Lib.hid hni
      have Hx := Lib.hid hx
      obtain ⟨A, hA⟩ : ∃ A, numB (L.take i) = A := ⟨_, rfl⟩
      rw [hA] at hn24 ⊢
      have HA := Lib.hid hA
      clear hs hni hx hnb hA
      have hxl : x.toNat < 256 := x.toNat_lt
      have hor := or8 A x.toNat hn24 hxl
      go_wp2
      go_roundw
      case rel =>
        have e : ((A : Int) * 256 + (x.toNat : Int)) = ((numB (L.take (i + 1)) : Nat) : Int) := by
          rw [Hni.out, HA.out]
          omega
        refine ⟨i + 1, ?_, by simp, by omega, trivial⟩
        rw [← e]
      case measure => simp [intOf]; omega
    · have hie : i = L.length := by omega
      have hdB : decide ((i : Int) < (L.length : Int)) = false := by simp; omega
      have Hie := Lib.hid hie; clear hie
      obtain ⟨A, hA⟩ : ∃ A, numB (L.take i) = A := ⟨_, rfl⟩
      rw [hA]
      have HA := Lib.hid hA; clear hA
      go_wp2
      go_ret
      refine ⟨?_, by rw [HLq.out.2]; exact HR.out, HG.out⟩
      rw [HLq.out.1, ← HA.out, Hie.out, List.take_length]
      rfl
theorem byteR_any (b : Nat) (bs : List UInt8) (st : RSt) (w : World) (h : RfAt b bs st w) (hlen : bs.length ≤ 1099511627776) :
    Calls Tryz.prog 23 #[.pointer (some ⟨b, 0, none⟩)] w fun e w' => e = .returned (.int .i64 ((gB 1 st).1 : Nat)) ∧ RfAt b bs (gB 1 st).2 w' ∧ w.grownBy w' (some b) := by
  have hz := gB_lt 1 st (by omega)
  have hwr : IntKind.i64.wrap ((gB 1 st).1 : Int) = ((gB 1 st).1 : Int) := by rw [IntKind.wrap_i64]; omega
  have HW := Lib.hid h; clear h
  go_enter Tryz.func23, Tryz.ntmps23
  go_wp2_with (fail)
  refine (numberR_any b bs st 1 w HW.out (by omega) hlen).mono ?_
  rintro e w' ⟨rfl, h1, h2⟩
  go_wp2_with (fail)
  go_ret
  exact ⟨rfl, h1, h2⟩
theorem fourR_any (b : Nat) (bs : List UInt8) (st : RSt) (w : World) (h : RfAt b bs st w) (hlen : bs.length ≤ 1099511627776) :
    Calls Tryz.prog 38 #[.pointer (some ⟨b, 0, none⟩)] w fun e w' => e = .returned (.int .i64 ((gB 4 st).1 : Nat)) ∧ RfAt b bs (gB 4 st).2 w' ∧ w.grownBy w' (some b) := by
  have hz := gB_lt 4 st (by omega)
  have hwr : IntKind.i64.wrap ((gB 4 st).1 : Int) = ((gB 4 st).1 : Int) := by rw [IntKind.wrap_i64]; omega
  have HW := Lib.hid h; clear h
  go_enter Tryz.func38, Tryz.ntmps38
  go_wp2_with (fail)
  refine (numberR_any b bs st 4 w HW.out (by omega) hlen).mono ?_
  rintro e w' ⟨rfl, h1, h2⟩
  go_wp2_with (fail)
  go_ret
  exact ⟨rfl, h1, h2⟩
theorem signedR_any (b : Nat) (bs : List UInt8) (st : RSt) (w : World) (h : RfAt b bs st w) (hlen : bs.length ≤ 1099511627776) :
    Calls Tryz.prog 24 #[.pointer (some ⟨b, 0, none⟩)] w fun e w' => e = .returned (.int .i64 (gS st).1) ∧ RfAt b bs (gS st).2 w' ∧ w.grownBy w' (some b) := by
  have hz := gB_lt 4 st (by omega)
  have h0 : IntKind.u32.wrap ((gB 4 st).1 : Int) = ((gB 4 st).1 : Int) := by rw [IntKind.wrap_u32]; omega
  have h1 := s32_wrap (gB 4 st).1 hz
  have h2 := s32_in (gB 4 st).1 hz
  have HW := Lib.hid h; clear h
  go_enter Tryz.func24, Tryz.ntmps24
  go_wp2_with (fail)
  refine (fourR_any b bs st w HW.out hlen).mono ?_
  rintro e w' ⟨rfl, hr, hg⟩
  have HR := Lib.hid hr
  have HG := Lib.hid hg
  clear hr hg
  go_wp2_with (fail)
  go_ret
  exact ⟨rfl, HR.out, HG.out⟩

set_option maxHeartbeats 2000000 in
set_option maxRecDepth 100000 in
theorem countR_any (b : Nat) (bs : List UInt8) (st : RSt) (most : Nat) (w : World) (h : RfAt b bs st w) (hm : most ≤ 1099511627776) (hlen : bs.length ≤ 1099511627776) :
    Calls Tryz.prog 39 #[.pointer (some ⟨b, 0, none⟩), .int .i64 most] w fun e w' => e = .returned (.int .i64 ((gC most st).1 : Nat)) ∧ RfAt b bs (gC most st).2 w' ∧ w.grownBy w' (some b) := by
  have hz := gB_lt 4 st (by omega)
  have hn0 : (gB 4 st).2 = none → (gB 4 st).1 = 0 := by
    intro h
    unfold gB at h ⊢
    cases st with
    | none => rfl
    | some r =>
      simp only at h ⊢
      split at h
      · cases h
      · rename_i hk; rw [if_neg hk]
  have Hn0 := Lib.hid hn0; clear hn0
  have HW := Lib.hid h
  obtain ⟨a, c, at_, rf, why, wh, hC, hbc, hcm, hL, hat⟩ := h
  obtain ⟨c0, c1, c2, c3, c4, hf⟩ := hC.cells
  clear hC hL hat hf
  have hmB : decide ((most : Int) < 0) = false := by simp
  go_enter Tryz.func39, Tryz.ntmps39
  go_wp2_with (fail)
  refine (fourR_any b bs st w HW.out hlen).mono ?_
  rintro e w1 ⟨rfl, h1, hg⟩
  have HG := Lib.hid hg; clear hg
  clear c0 c1 c2 c3 c4
  have H1 := Lib.hid h1
  obtain ⟨a1, c1', at1, rf1, why1, wh1, hC1, hbc1, hcm1, hL1, hat1⟩ := h1
  have HC1 := Lib.hid hC1
  obtain ⟨d0, d1, d2, d3, d4, hf1⟩ := hC1.cells
  clear hf1 hC1
  have HL1 := Lib.hid hL1; clear hL1
  obtain ⟨n, hn⟩ : ∃ n, (gB 4 st).1 = n := ⟨_, rfl⟩
  obtain ⟨s2, hs2⟩ : ∃ s2, (gB 4 st).2 = s2 := ⟨_, rfl⟩
  rw [hs2] at hat1
  have e1 : gC most st = if most < n then (0, none) else (n, s2) := by
    unfold gC
    rw [hn]
    split
    · rfl
    · rw [← hn, ← hs2]
  have E1 := Lib.hid e1
  rw [hn] at hz ⊢
  have Hn := Lib.hid hn
  have Hs2 := Lib.hid hs2
  clear hn hs2 e1
  by_cases hbig : most < n
  · have hdB : decide ((most : Int) < (n : Int)) = true := by simp; omega
    cases s2 with
    | none =>
      have := Hn0.out Hs2.out
      rw [Hn.out] at this
      omega
    | some r =>
      obtain ⟨hat2, rfl, hr⟩ := hat1
      have Hr := Lib.hid hr; clear hr
      go_wp2_with (fail)
      refine (refuseR_any b a1 bs.length c1' at1 why1 wh1 3 _ w1 HC1.out).mono ?_
      rintro e w2 ⟨rfl, hC2, hg2⟩
      have HC2 := Lib.hid hC2
      clear hC2
      go_wp2
      go_ret
      rw [E1.out, if_pos hbig]
      exact ⟨rfl, ⟨a1, c1', at1, true, 3, _, HC2.out, hbc1, hcm1, HL1.out.kept hg2, hat2, rfl⟩, grown_trans HG.out hg2⟩
  · have hdB : decide ((most : Int) < (n : Int)) = false := by simp; omega
    have hR : RfAt b bs s2 w1 := by have := H1.out; rw [Hs2.out] at this; exact this
    have HR := Lib.hid hR; clear hR
    cases s2 with
    | none =>
      obtain rfl : n = 0 := by rw [← Hn.out]; exact Hn0.out Hs2.out
      obtain ⟨hat2, hrf⟩ := hat1
      obtain rfl : rf1 = true := hrf
      go_wp2
      go_ret
      rw [E1.out, if_neg hbig]
      exact ⟨rfl, HR.out, HG.out⟩
    | some r =>
      obtain ⟨hat2, rfl, hr⟩ := hat1
      have Hr := Lib.hid hr; clear hr
      go_wp2
      go_ret
      rw [E1.out, if_neg hbig]
      exact ⟨rfl, HR.out, HG.out⟩
set_option maxHeartbeats 2000000 in
set_option maxRecDepth 100000 in
theorem textR_any (b : Nat) (bs : List UInt8) (st : RSt) (most : Nat) (w : World) (h : RfAt b bs st w) (hm : most ≤ 1099511627776) (hlen : bs.length ≤ 1099511627776) :
    Calls Tryz.prog 25 #[.pointer (some ⟨b, 0, none⟩), .int .i64 most] w fun e w' => e = .returned (.string (gT most st).1) ∧ RfAt b bs (gT most st).2 w' ∧ w.grownBy w' (some b) := by
  have hle := gC_le most st
  have HW := Lib.hid h; clear h
  go_enter Tryz.func25, Tryz.ntmps25
  go_wp2_with (fail)
  refine (countR_any b bs st most w HW.out hm hlen).mono ?_
  rintro e w1 ⟨rfl, h1, hg1⟩
  have HG1 := Lib.hid hg1; clear hg1
  have H1 := Lib.hid h1; clear h1
  go_wp2_with (fail)
  refine (raw_any b bs (gC most st).2 (gC most st).1 w1 H1.out (by omega) hlen).mono ?_
  rintro e w2 ⟨v, rfl, hV, h2, hg2⟩
  have hcv := conv_by hV
  have H2 := Lib.hid h2; clear h2
  have HG2 := Lib.hid hg2; clear hg2
  clear hV
  go_wp2
  go_ret
  exact ⟨rfl, H2.out, grown_trans HG1.out HG2.out⟩
set_option maxHeartbeats 2000000 in
set_option maxRecDepth 100000 in
theorem leftR_any (b : Nat) (bs : List UInt8) (st : RSt) (w : World) (h : RfAt b bs st w) (hlen : bs.length ≤ 1099511627776) :
    Calls Tryz.prog 22 #[.pointer (some ⟨b, 0, none⟩)] w fun e w' => e = .returned (.int .i64 (leftOf st : Nat)) ∧ RfAt b bs st w' ∧ w.grownBy w' (some b) := by
  have HW := Lib.hid h
  obtain ⟨a, c, at_, rf, why, wh, hC, hbc, hcm, hL, hat, hst⟩ := h
  obtain ⟨c0, c1, c2, c3, c4, hf⟩ := hC.cells
  clear hf hC hL
  cases st with
  | none =>
    obtain rfl : rf = true := hst
    go_enter Tryz.func22, Tryz.ntmps22
    go_wp2
    go_ret
    exact ⟨rfl, HW.out, grown_refl _ _⟩
  | some r =>
    obtain ⟨rfl, rfl⟩ := hst
    have hwx : IntKind.i64.wrap ((bs.length : Int) - (at_ : Int)) = (bs.length : Int) - (at_ : Int) := by rw [IntKind.wrap_i64]; omega
    have he : ((leftOf (some (bs.drop at_)) : Nat) : Int) = (bs.length : Int) - (at_ : Int) := by
      show (((bs.drop at_).length : Nat) : Int) = _
      rw [List.length_drop]; omega
    rw [he]
    go_enter Tryz.func22, Tryz.ntmps22
    go_wp2
    go_quiet (fail)
    go_wp2
    go_ret
    exact ⟨rfl, HW.out, ⟨rfl, rfl, rfl, Nat.le_refl _, fun _ _ _ => rfl⟩⟩
end Go.Proofs.YtekggipkfmleoaaGreatDoor

namespace Go.Proofs.YtekggipkfmleoaaGreatDoor
open Go.RowKit

theorem RfAt.kept {b : Nat} {bs : List UInt8} {st : RSt} {W W' : World} (h : RfAt b bs st W) (hk : ∀ (k : Nat) (cs : Array Value) (t : TypeId), W.heap[k]? = some (Obj.cells cs t (0, 0)) → t = 50 ∨ t = 5 → W'.heap[k]? = W.heap[k]?) : RfAt b bs st W' := by
  obtain ⟨a, c, at_, rf, why, wh, hC, h1, h2, hL, h3⟩ := h
  have hC' : W.heap[b]? = some (Obj.cells #[.slice a bs.length c, .int .i64 (at_ : Int), .bool rf, .int .i64 why, .int .i64 wh] 50 (0, 0)) := hC
  refine ⟨a, c, at_, rf, why, wh, (hk b _ _ hC' (.inl rfl)).trans hC', h1, h2, ?_, h3⟩
  rcases hL with h | ⟨g, o, rfl, ⟨hgb, cs, hcs⟩, hs⟩
  · exact .inl h
  · have hg := hk g _ _ hcs (.inr rfl)
    refine .inr ⟨g, o, rfl, ⟨hgb, cs, hg.trans hcs⟩, fun j x hj => ?_⟩
    have hc := hs j x hj
    unfold World.cell? at hc ⊢
    simp only [hg]
    exact hc
theorem RfAt.set {b g k : Nat} {bs : List UInt8} {st : RSt} {W : World} {cs : Array Value} {t : TypeId} {u : Value} (h : RfAt b bs st W) (hg : W.heap[g]? = some (.cells cs t (0, 0))) (h1 : t ≠ 50) (h2 : t ≠ 5) : RfAt b bs st (W.setCell ⟨g, k, none⟩ u) :=
  h.kept fun i cs' t' hi ht => Below.heap_setCell W _ _ _ fun e => by
    have e' : i = g := e
    subst e'
    rw [hg] at hi
    cases hi
    rcases ht with e | e
    · exact h1 e
    · exact h2 e
theorem RfAt.below {b : Nat} {bs : List UInt8} {st : RSt} {W W' : World} (h : RfAt b bs st W) (hb : Below W.heap.size W W') : RfAt b bs st W' :=
  h.kept fun i cs' t' hi ht => hb.block i (Array.getElem?_eq_some_iff.1 hi).1
theorem RfAt.owned {b : Nat} {bs : List UInt8} {st : RSt} {W W' : World} {B : Nat} {t : TypeId} {sz n : Nat} {v : Value} {xs : List Value} (h : RfAt b bs st W) (ho : W.ownsRow B t sz v n xs) (hg : W.grownBy W' v.ownBlock) (h1 : t ≠ 50) (h2 : t ≠ 5) : RfAt b bs st W' :=
  h.kept fun i cs' t' hi ht => hg.block i (Array.getElem?_eq_some_iff.1 hi).1 fun e => by
    obtain ⟨_, ⟨rfl, _⟩ | ⟨g, cap, cur, rfl, _, hh, _⟩⟩ := ho
    · cases e
    · cases e
      rw [hh] at hi
      cases hi
      rcases ht with e | e
      · exact h1 e
      · exact h2 e
theorem rf_typ {rb : Nat} {bs : List UInt8} {st : RSt} {w : World} (h : RfAt rb bs st w) : ∃ cs, w.heap[rb]? = some (Obj.cells cs 50 (0, 0)) := by
  obtain ⟨a, c, at_, rf, why, wh, hC, _⟩ := h
  exact ⟨_, hC⟩
theorem own_readerR {B rb : Nat} {bs : List UInt8} {st : RSt} {v : Value} {l : List OpT} {w w' : World} (h : RfAt rb bs st w) (ho : OwnO B v l w) (hg : w.grownBy w' (some rb)) : OwnO B v l w' := by
  obtain ⟨cs, hC⟩ := rf_typ h
  exact own_typed ho fun k cs' hk => (blk_grown hg (typ_ne hk hC (by decide)) hk).trans hk.symm
theorem OutO.twoR {B rb bi : Nat} {v : Value} {l : List ItT} {w w' : World} {ca cb : Array Value} (h : OutO B v l w) (ht : Two rb bi w w') (hr : w.heap[rb]? = some (Obj.cells ca 50 (0, 0))) (hi : w.heap[bi]? = some (Obj.cells cb 27 (0, 0))) (hv : v.ownBlock ≠ some bi) : OutO B v l w' :=
  h.kept (fun k cs hk => ht.block k (Array.getElem?_eq_some_iff.1 hk).1 (typ_ne hk hr (by decide)) (typ_ne hk hi (by decide))) (fun g hg hlt => by
    obtain ⟨cs, hh, _, _⟩ := h.typ hg
    exact ht.block g hlt (typ_ne hh hr (by decide)) (fun e => hv (by rw [hg, e])))
theorem OutO.readerR {B rb : Nat} {v : Value} {l : List ItT} {w w' : World} {ca : Array Value} (h : OutO B v l w) (ht : w.grownBy w' (some rb)) (hr : w.heap[rb]? = some (Obj.cells ca 50 (0, 0))) : OutO B v l w' :=
  h.kept (fun k cs hk => blk_grown ht (typ_ne hk hr (by decide)) hk |>.trans hk.symm) (fun g hg hlt => by
    obtain ⟨cs, hh, _, _⟩ := h.typ hg
    exact (blk_grown ht (typ_ne hh hr (by decide)) hh).trans hh.symm)
theorem rf_refused {rb : Nat} {bs : List UInt8} {st : RSt} {w : World} (h : RfAt rb bs st w) : w.cell? ⟨rb, 2, none⟩ = some (.bool st.isNone) := by
  obtain ⟨a, c, at_, rf, why, wh, hC, _, _, _, hat, hst⟩ := h
  rw [hC.cells.2.2.1]
  cases st with
  | none => rw [show rf = true from hst]; rfl
  | some r => rw [show rf = false from hst.1]; rfl
/-- what is left to read, out of the reader's own place -/
def rfMu (rb n : Nat) (w : World) : Nat := n - (intOf ((w.cell? ⟨rb, 1, none⟩).getD undef)).toNat
theorem rfMu_eq {rb : Nat} {bs r : List UInt8} {w : World} (h : RfAt rb bs (some r) w) : rfMu rb bs.length w = r.length := by
  obtain ⟨a, c, at_, rf, why, wh, hC, _, _, _, hat, rfl, rfl⟩ := h
  unfold rfMu
  rw [hC.cells.2.1, List.length_drop]
  simp [intOf]
theorem rf_new {B : Nat} {v : Value} {bs : List UInt8} {w : World} (h : w.ownsRow B 5 1 v bs.length (Lib.byteCells bs)) :
    RfAt w.heap.size bs (some bs) (w.alloc (.cells #[v, .int .i64 0, .bool false, .int .i64 0, .int .i64 0] 50)) := by
  have hba : Below w.heap.size w (w.alloc (.cells #[v, .int .i64 0, .bool false, .int .i64 0, .int .i64 0] 50)) := (Below.refl _ _).alloc (Nat.le_refl _) _
  obtain ⟨a', c', hv, hs⟩ := ByAt.of_own h
  obtain ⟨hl, ⟨rfl, h0⟩ | ⟨g, cap, cur, rfl, hg, hh, h1, h2, h3, h4⟩⟩ := h
  · have : bs = [] := List.eq_nil_of_length_eq_zero h0
    subst this
    exact ⟨none, 0, 0, false, 0, 0, heap_alloc_new w _, Nat.le_refl _, by unfold maxLen; omega, .inl ⟨rfl, rfl⟩, Nat.zero_le _, rfl, rfl⟩
  · have hlt : g < w.heap.size := (Array.getElem?_eq_some_iff.1 hh).1
    cases hv
    refine ⟨_, _, 0, false, 0, 0, heap_alloc_new w _, h1, h2, .inr ⟨g, 0, rfl, ⟨by omega, _, (hba.block g hlt).trans hh⟩, fun j x hj => ?_⟩, Nat.zero_le _, rfl, rfl⟩
    rcases hs with ⟨e, _⟩ | ⟨g', o', e, hs⟩
    · cases e
    · cases e
      exact (hba.cell (p := ⟨g, 0 + j, none⟩) hlt).trans (hs j x hj)
end Go.Proofs.YtekggipkfmleoaaGreatDoor

namespace Go.Proofs.YtekggipkfmleoaaGreatDoor
open Go.RowKit

set_option maxHeartbeats 8000000 in
set_option maxRecDepth 100000 in
theorem items_any (v : Value) (bs : List UInt8) (B : Nat) (w : World) (h : w.ownsRow B 5 1 v bs.length (Lib.byteCells bs)) (hlen : bs.length ≤ 1099511627776) :
    Calls Tryz.prog 10 #[v] w fun e w' => ∃ v', e = .returned v' ∧ OutO w.heap.size v' (decP bs) w' ∧ Below w.heap.size w w' := by
  obtain ⟨i0, hi, hz0, hz1, hz2⟩ := info_parts itInfoB
  obtain ⟨j0, hj, hy0, hy1, hy2⟩ := info_parts opInfoB
  have hR0 := rf_new h
  obtain ⟨va, vc, rfl, _⟩ := ByAt.of_own h
  have hb0 : Below w.heap.size w (w.alloc (.cells #[.slice va bs.length vc, .int .i64 0, .bool false, .int .i64 0, .int .i64 0] 50)) := (Below.refl _ _).alloc (Nat.le_refl _) _
  have HR0 := Lib.hid hR0
  have HB0 := Lib.hid hb0
  clear hR0 hb0 h
  go_enter Tryz.func10, Tryz.ntmps10
  go_wp2_with (fail)
  generalize w.alloc (.cells #[.slice va bs.length vc, .int .i64 0, .bool false, .int .i64 0, .int .i64 0] 50) = w1 at *
  go_loopw [3] (fun ov wr => ∃ (out : List ItT) (r : List UInt8) (oa : Option Addr) (oc : Nat), ov = .slice oa out.length oc ∧ out.length ≤ 2048 ∧ Hid (decP bs = out ++ decL (r.length + 1) (2048 - out.length) r) ∧ Hid (RfAt w.heap.size bs (some r) wr) ∧ Hid (OutO w.heap.size (.slice oa out.length oc) out wr) ∧ Hid (Below w.heap.size w wr)) (fun _ wr => rfMu w.heap.size bs.length wr)
  case atStart => exact ⟨[], bs, none, 0, rfl, by simp, Lib.hid rfl, HR0, Lib.hid (OutO.nil _ _), HB0⟩
  case round =>
    obtain ⟨out, r, vad, vcap, rfl, hol, HDec, HR, HO, HB⟩ := hrel
    have hmu := rfMu_eq HR.out
    have HMu := Lib.hid hmu
    clear hmu
    have hbw := HB.out.size
    have hrbl : w.heap.size < wr.heap.size := by
      obtain ⟨cs, hcs⟩ := rf_typ HR.out
      exact (Array.getElem?_eq_some_iff.1 hcs).1
    go_wp2_with (fail)
    refine (leftR_any w.heap.size bs (some r) wr HR.out hlen).mono ?_
    rintro e w2 ⟨rfl, hR2, hg2⟩
    have hz2' := hg2.size
    have HR2 := Lib.hid hR2
    obtain ⟨crb, hcrb⟩ := rf_typ HR.out
    have HO2 := Lib.hid (HO.out.readerR hg2 hcrb)
    have HB2 := Lib.hid (HB.out.grown hg2 HB.out.size (fun k hk => by cases hk; exact Nat.le_refl _))
    obtain ⟨crb2, hcrb2⟩ := rf_typ hR2
    have HCr := Lib.hid hcrb2
    clear hR2 hg2 hcrb hcrb2
    cases r with
    | nil =>
      have he : decP bs = out := by rw [HDec.out, decL_nil, List.append_nil]
      have HE := Lib.hid he; clear he
      have hleft : ((leftOf (some ([] : List UInt8)) : Nat) : Int) = 0 := rfl
      rw [hleft]
      clear hleft
      go_wp2_with (fail)
      go_ret
      rw [HE.out]
      exact ⟨_, rfl, HO2.out, HB2.out⟩
    | cons c t =>
      have hleft : ((leftOf (some (c :: t)) : Nat) : Int) = (t.length : Int) + 1 := by simp [leftOf]
      rw [hleft]
      clear hleft
      by_cases hfull : out.length = 2048
      · have he : decP bs = out := by rw [HDec.out, hfull, Nat.sub_self, decL_zero, List.append_nil]
        have HE := Lib.hid he; clear he
        have hdB : decide ((out.length : Int) < 2048) = false := by simp; omega
        clear hfull
        go_wp2_with (fail)
        go_ret
        rw [HE.out]
        exact ⟨_, rfl, HO2.out, HB2.out⟩
      have hlt : out.length < 2048 := by omega
      have hdB : decide ((out.length : Int) < 2048) = true := by simp; omega
      clear hfull
      go_wp2_with (fail)
      refine (byteR_any w.heap.size bs (some (c :: t)) w2 HR2.out hlen).mono ?_
      rintro e w3 ⟨rfl, hR3, hg3⟩
      have hz3 := hg3.size
      rw [gB1_cons] at hR3 ⊢
      simp only at hR3
      have HR3 := Lib.hid hR3
      have HO3 := Lib.hid (HO2.out.readerR hg3 HCr.out)
      have HB3 := Lib.hid (HB2.out.grown hg3 HB2.out.size (fun k hk => by cases hk; exact Nat.le_refl _))
      clear hR3 hg3 HR2 HO2 HB2 HCr HR HO HB
      have hc256 : c.toNat < 256 := c.toNat_lt
      obtain ⟨z, hz⟩ : ∃ z, c.toNat = z := ⟨_, rfl⟩
      have hdec2 : decP bs = out ++ (if z < 1 ∨ 9 < z then decL (t.length + 1) (2048 - out.length) t else
          dstep (t.length + 1) (2048 - out.length - 1) (gItem z t)) := by
        rw [HDec.out, List.length_cons, decL_cons, if_neg (by omega), hz]
        rfl
      have HDec2 := Lib.hid hdec2
      simp only
      rw [hz] at hc256 ⊢
      clear hdec2 hz HDec
      have hbo : (w3.alloc (.cells #[.int .i64 (z : Int), .int .i64 0, .int .i64 0, .int .i64 0, .int .i64 0, .int .i64 0, .int .i64 0, .slice none 0 0] 27)).heap[w3.heap.size]? = some (.cells (itCells (itOf (z : Int) [] []) (.slice none 0 0)) 27 (0, 0)) := heap_alloc_new _ _
      have hba : Below w3.heap.size w3 (w3.alloc (.cells #[.int .i64 (z : Int), .int .i64 0, .int .i64 0, .int .i64 0, .int .i64 0, .int .i64 0, .int .i64 0, .slice none 0 0] 27)) := (Below.refl _ _).alloc (Nat.le_refl _) _
      have hsX : (w3.alloc (.cells #[.int .i64 (z : Int), .int .i64 0, .int .i64 0, .int .i64 0, .int .i64 0, .int .i64 0, .int .i64 0, .slice none 0 0] 27)).heap.size = w3.heap.size + 1 := by simp
      have HR4 := Lib.hid (HR3.out.below hba)
      have HO4 := Lib.hid (HO3.out.below hba)
      have HB4 := Lib.hid (HB3.out.trans (hba.mono HB3.out.size))
      have hvb : (Value.slice vad out.length vcap).ownBlock ≠ some w3.heap.size := fun e => by
        obtain ⟨_, _, _, h⟩ := HO3.out.typ e
        omega
      have HVb := Lib.hid hvb
      have HBo := Lib.hid hbo
      have c0 : (w3.alloc (.cells #[.int .i64 (z : Int), .int .i64 0, .int .i64 0, .int .i64 0, .int .i64 0, .int .i64 0, .int .i64 0, .slice none 0 0] 27)).cell? ⟨w3.heap.size, 0, none⟩ = some (.int .i64 (z : Int)) := cell_blk hbo rfl
      have hbiw : w.heap.size ≤ w3.heap.size := HB3.out.size
      have hbine : w.heap.size < w3.heap.size := by omega
      have HBa := Lib.hid hba
      clear hbo hba hvb HR3 HO3 HB3
      by_cases q1 : z < 1
      · have he : decP bs = out ++ decL (t.length + 1) (2048 - out.length) t := by rw [HDec2.out, if_pos (.inl q1)]
        have HE := Lib.hid he; clear he
        have qB : decide ((z : Int) < 1) = true := by simp; omega
        go_wp2_with (fail)
        go_roundw
        case rel => exact ⟨out, t, vad, vcap, rfl, by omega, HE, HR4, HO4, HB4⟩
        case measure =>
          rw [rfMu_eq HR4.out, HMu.out]
          simp
      have qB : decide ((z : Int) < 1) = false := by simp; omega
      by_cases q2 : 9 < z
      · have he : decP bs = out ++ decL (t.length + 1) (2048 - out.length) t := by rw [HDec2.out, if_pos (.inr q2)]
        have HE := Lib.hid he; clear he
        have qB2 : decide ((9 : Int) < (z : Int)) = true := by simp; omega
        go_wp2_with (fail)
        go_roundw
        case rel => exact ⟨out, t, vad, vcap, rfl, by omega, HE, HR4, HO4, HB4⟩
        case measure =>
          rw [rfMu_eq HR4.out, HMu.out]
          simp
      have qB2 : decide ((9 : Int) < (z : Int)) = false := by simp; omega
      go_wp2_with (fail)
      clear c0 HBa
      generalize w3.alloc (.cells #[.int .i64 (z : Int), .int .i64 0, .int .i64 0, .int .i64 0, .int .i64 0, .int .i64 0, .int .i64 0, .slice none 0 0] 27) = W0 at *
      generalize w3.heap.size = bi at *
      have hsX1 : bi < W0.heap.size := by omega
      clear hsX
      obtain ⟨crb0, hcrb0⟩ := rf_typ HR4.out
      have HCrb := Lib.hid hcrb0
      clear hcrb0
      obtain ⟨s0, hs0⟩ : ∃ s0 : RSt, some t = s0 := ⟨_, rfl⟩
      have HS0 := Lib.hid hs0
      have hRx := HR4.out
      rw [hs0] at hRx
      have HRx0 := Lib.hid hRx
      have HBx0 := HBo
      have HTx0 := Lib.hid (Two.refl w.heap.size bi W0)
      clear hs0 hRx
      refine (signedR_any w.heap.size bs s0 W0 HRx0.out hlen).mono ?_
      rintro e V0 ⟨rfl, hR, hg⟩
      have hzz := HTx0.out.size
      have hB := blk_grown hg (show bi ≠ w.heap.size by omega) HBx0.out
      have f1 : V0.frozen? ⟨bi, 1, none⟩ = false := Lib.frozen_of_heap hB 1
      have c1 : V0.cell? ⟨bi, 1, none⟩ = some (.int .i64 0) := cell_blk hB rfl
      obtain ⟨n0, hn⟩ : ∃ n, (gS s0).1 = n := ⟨_, rfl⟩
      obtain ⟨s1, hs⟩ : ∃ s', (gS s0).2 = s' := ⟨_, rfl⟩
      have HSx0 := Lib.hid (And.intro hn hs)
      rw [hs] at hR
      rw [hn]
      have hB' := blk_set (k := 1) (u := .int .i64 n0) hB
      have hB'' : (V0.setCell ⟨bi, 1, none⟩ (.int .i64 n0)).heap[bi]? = some (.cells (itCells (itOf (z : Int) [n0] []) (.slice none 0 0)) 27 (0, 0)) := hB'
      have HBx1 := Lib.hid hB''
      have HRx1 := Lib.hid (hR.set (k := 1) (u := .int .i64 n0) hB (by decide) (by decide))
      have HTx1 := Lib.hid ((HTx0.out.trans (Two.grown1 hg)).trans (Two.grown2 (grown_set V0 bi 1 (.int .i64 n0))))
      clear hR hg hB hB' hB'' hn hs HRx0 HBx0 HTx0 hzz
      go_wp2_with (fail)
      clear f1 c1
      generalize V0.setCell ⟨bi, 1, none⟩ (.int .i64 n0) = W1 at *
      refine (signedR_any w.heap.size bs s1 W1 HRx1.out hlen).mono ?_
      rintro e V1 ⟨rfl, hR, hg⟩
      have hzz := HTx1.out.size
      have hB := blk_grown hg (show bi ≠ w.heap.size by omega) HBx1.out
      have f1 : V1.frozen? ⟨bi, 2, none⟩ = false := Lib.frozen_of_heap hB 2
      have c1 : V1.cell? ⟨bi, 2, none⟩ = some (.int .i64 0) := cell_blk hB rfl
      obtain ⟨n1, hn⟩ : ∃ n, (gS s1).1 = n := ⟨_, rfl⟩
      obtain ⟨s2, hs⟩ : ∃ s', (gS s1).2 = s' := ⟨_, rfl⟩
      have HSx1 := Lib.hid (And.intro hn hs)
      rw [hs] at hR
      rw [hn]
      have hB' := blk_set (k := 2) (u := .int .i64 n1) hB
      have hB'' : (V1.setCell ⟨bi, 2, none⟩ (.int .i64 n1)).heap[bi]? = some (.cells (itCells (itOf (z : Int) [n0, n1] []) (.slice none 0 0)) 27 (0, 0)) := hB'
      have HBx2 := Lib.hid hB''
      have HRx2 := Lib.hid (hR.set (k := 2) (u := .int .i64 n1) hB (by decide) (by decide))
      have HTx2 := Lib.hid ((HTx1.out.trans (Two.grown1 hg)).trans (Two.grown2 (grown_set V1 bi 2 (.int .i64 n1))))
      clear hR hg hB hB' hB'' hn hs HRx1 HBx1 HTx1 hzz
      go_wp2_with (fail)
      clear f1 c1
      generalize V1.setCell ⟨bi, 2, none⟩ (.int .i64 n1) = W2 at *
      refine (signedR_any w.heap.size bs s2 W2 HRx2.out hlen).mono ?_
      rintro e V2 ⟨rfl, hR, hg⟩
      have hzz := HTx2.out.size
      have hB := blk_grown hg (show bi ≠ w.heap.size by omega) HBx2.out
      have f1 : V2.frozen? ⟨bi, 3, none⟩ = false := Lib.frozen_of_heap hB 3
      have c1 : V2.cell? ⟨bi, 3, none⟩ = some (.int .i64 0) := cell_blk hB rfl
      obtain ⟨n2, hn⟩ : ∃ n, (gS s2).1 = n := ⟨_, rfl⟩
      obtain ⟨s3, hs⟩ : ∃ s', (gS s2).2 = s' := ⟨_, rfl⟩
      have HSx2 := Lib.hid (And.intro hn hs)
      rw [hs] at hR
      rw [hn]
      have hB' := blk_set (k := 3) (u := .int .i64 n2) hB
      have hB'' : (V2.setCell ⟨bi, 3, none⟩ (.int .i64 n2)).heap[bi]? = some (.cells (itCells (itOf (z : Int) [n0, n1, n2] []) (.slice none 0 0)) 27 (0, 0)) := hB'
      have HBx3 := Lib.hid hB''
      have HRx3 := Lib.hid (hR.set (k := 3) (u := .int .i64 n2) hB (by decide) (by decide))
      have HTx3 := Lib.hid ((HTx2.out.trans (Two.grown1 hg)).trans (Two.grown2 (grown_set V2 bi 3 (.int .i64 n2))))
      clear hR hg hB hB' hB'' hn hs HRx2 HBx2 HTx2 hzz
      go_wp2_with (fail)
      clear f1 c1
      generalize V2.setCell ⟨bi, 3, none⟩ (.int .i64 n2) = W3 at *
      refine (signedR_any w.heap.size bs s3 W3 HRx3.out hlen).mono ?_
      rintro e V3 ⟨rfl, hR, hg⟩
      have hzz := HTx3.out.size
      have hB := blk_grown hg (show bi ≠ w.heap.size by omega) HBx3.out
      have f1 : V3.frozen? ⟨bi, 4, none⟩ = false := Lib.frozen_of_heap hB 4
      have c1 : V3.cell? ⟨bi, 4, none⟩ = some (.int .i64 0) := cell_blk hB rfl
      obtain ⟨n3, hn⟩ : ∃ n, (gS s3).1 = n := ⟨_, rfl⟩
      obtain ⟨s4, hs⟩ : ∃ s', (gS s3).2 = s' := ⟨_, rfl⟩
      have HSx3 := Lib.hid (And.intro hn hs)
      rw [hs] at hR
      rw [hn]
      have hB' := blk_set (k := 4) (u := .int .i64 n3) hB
      have hB'' : (V3.setCell ⟨bi, 4, none⟩ (.int .i64 n3)).heap[bi]? = some (.cells (itCells (itOf (z : Int) [n0, n1, n2, n3] []) (.slice none 0 0)) 27 (0, 0)) := hB'
      have HBx4 := Lib.hid hB''
      have HRx4 := Lib.hid (hR.set (k := 4) (u := .int .i64 n3) hB (by decide) (by decide))
      have HTx4 := Lib.hid ((HTx3.out.trans (Two.grown1 hg)).trans (Two.grown2 (grown_set V3 bi 4 (.int .i64 n3))))
      clear hR hg hB hB' hB'' hn hs HRx3 HBx3 HTx3 hzz
      go_wp2_with (fail)
      clear f1 c1
      generalize V3.setCell ⟨bi, 4, none⟩ (.int .i64 n3) = W4 at *
      refine (signedR_any w.heap.size bs s4 W4 HRx4.out hlen).mono ?_
      rintro e V4 ⟨rfl, hR, hg⟩
      have hzz := HTx4.out.size
      have hB := blk_grown hg (show bi ≠ w.heap.size by omega) HBx4.out
      have f1 : V4.frozen? ⟨bi, 5, none⟩ = false := Lib.frozen_of_heap hB 5
      have c1 : V4.cell? ⟨bi, 5, none⟩ = some (.int .i64 0) := cell_blk hB rfl
      obtain ⟨n4, hn⟩ : ∃ n, (gS s4).1 = n := ⟨_, rfl⟩
      obtain ⟨s5, hs⟩ : ∃ s', (gS s4).2 = s' := ⟨_, rfl⟩
      have HSx4 := Lib.hid (And.intro hn hs)
      rw [hs] at hR
      rw [hn]
      have hB' := blk_set (k := 5) (u := .int .i64 n4) hB
      have hB'' : (V4.setCell ⟨bi, 5, none⟩ (.int .i64 n4)).heap[bi]? = some (.cells (itCells (itOf (z : Int) [n0, n1, n2, n3, n4] []) (.slice none 0 0)) 27 (0, 0)) := hB'
      have HBx5 := Lib.hid hB''
      have HRx5 := Lib.hid (hR.set (k := 5) (u := .int .i64 n4) hB (by decide) (by decide))
      have HTx5 := Lib.hid ((HTx4.out.trans (Two.grown1 hg)).trans (Two.grown2 (grown_set V4 bi 5 (.int .i64 n4))))
      clear hR hg hB hB' hB'' hn hs HRx4 HBx4 HTx4 hzz
      go_wp2_with (fail)
      clear f1 c1
      generalize V4.setCell ⟨bi, 5, none⟩ (.int .i64 n4) = W5 at *
      refine (signedR_any w.heap.size bs s5 W5 HRx5.out hlen).mono ?_
      rintro e V5 ⟨rfl, hR, hg⟩
      have hzz := HTx5.out.size
      have hB := blk_grown hg (show bi ≠ w.heap.size by omega) HBx5.out
      have f1 : V5.frozen? ⟨bi, 6, none⟩ = false := Lib.frozen_of_heap hB 6
      have c1 : V5.cell? ⟨bi, 6, none⟩ = some (.int .i64 0) := cell_blk hB rfl
      obtain ⟨n5, hn⟩ : ∃ n, (gS s5).1 = n := ⟨_, rfl⟩
      obtain ⟨s6, hs⟩ : ∃ s', (gS s5).2 = s' := ⟨_, rfl⟩
      have HSx5 := Lib.hid (And.intro hn hs)
      rw [hs] at hR
      rw [hn]
      have hB' := blk_set (k := 6) (u := .int .i64 n5) hB
      have hB'' : (V5.setCell ⟨bi, 6, none⟩ (.int .i64 n5)).heap[bi]? = some (.cells (itCells (itOf (z : Int) [n0, n1, n2, n3, n4, n5] []) (.slice none 0 0)) 27 (0, 0)) := hB'
      have HBx6 := Lib.hid hB''
      have HRx6 := Lib.hid (hR.set (k := 6) (u := .int .i64 n5) hB (by decide) (by decide))
      have HTx6 := Lib.hid ((HTx5.out.trans (Two.grown1 hg)).trans (Two.grown2 (grown_set V5 bi 6 (.int .i64 n5))))
      clear hR hg hB hB' hB'' hn hs HRx5 HBx5 HTx5 hzz
      go_wp2_with (fail)
      clear f1 c1
      generalize V5.setCell ⟨bi, 6, none⟩ (.int .i64 n5) = W6 at *
      have hGz : gNums 6 (some t) = ([n0, n1, n2, n3, n4, n5], s6) := by
        rw [HS0.out]
        show gNums (0 + 1 + 1 + 1 + 1 + 1 + 1) s0 = _
        simp only [gNums_succ, HSx0.out.1, HSx0.out.2, HSx1.out.1, HSx1.out.2, HSx2.out.1, HSx2.out.2, HSx3.out.1, HSx3.out.2, HSx4.out.1, HSx4.out.2, HSx5.out.1, HSx5.out.2]
        rfl
      have HGz := Lib.hid hGz
      clear hGz
      refine (byteR_any w.heap.size bs s6 W6 HRx6.out hlen).mono ?_
      rintro e W7 ⟨rfl, hR, hg⟩
      obtain ⟨K, hK⟩ : ∃ K, (gB 1 s6).1 = K := ⟨_, rfl⟩
      obtain ⟨s7, hs7⟩ : ∃ s', (gB 1 s6).2 = s' := ⟨_, rfl⟩
      have HItem := Lib.hid (gItem_eq (z : Int) t HGz.out hK hs7)
      rw [hs7] at hR
      rw [hK]
      have HR7 := Lib.hid hR
      have hzz := HTx6.out.size
      have HB7 := Lib.hid (blk_grown hg (show bi ≠ w.heap.size by omega) HBx6.out)
      have HT7 := Lib.hid (HTx6.out.trans (Two.grown1 hg))
      have hW7 := HT7.out.size
      clear hR hg hK hs7 HRx6 HBx6 HTx6 hzz
      by_cases hbig : 4 < K
      · have he : decP bs = out := by
          rw [HDec2.out, if_neg (by omega), HItem.out, if_pos hbig]
          show out ++ [] = out
          rw [List.append_nil]
        have HE := Lib.hid he; clear he
        have HOb := Lib.hid (HO4.out.twoR HT7.out HCrb.out HBo.out HVb.out)
        have HBb := Lib.hid (HB4.out.trans (show Below w.heap.size W0 W7 from ⟨HT7.out.os, HT7.out.tape, HT7.out.output, HT7.out.size, fun k hk => HT7.out.block k (by omega) (by omega) (by omega)⟩))
        have hKB : decide ((4 : Int) < (K : Int)) = true := by simp; omega
        go_wp2_with (fail)
        go_ret
        rw [HE.out]
        exact ⟨_, rfl, HOb.out, HBb.out⟩
      have hKB : decide ((4 : Int) < (K : Int)) = false := by simp; omega
      go_wp2_with (fail)
      go_loopw [6] (fun nv wr => ∃ (m : Nat) (done : List OpT) (s2 : RSt) (v : Value), nv = .int .i64 m ∧ m ≤ 4 ∧ Hid (done.length + m = K) ∧ Hid (gOps K s7 = (done ++ (gOps m s2).1, (gOps m s2).2)) ∧ Hid (RfAt w.heap.size bs s2 wr) ∧ Hid (wr.heap[bi]? = some (.cells (itCells (itOf (z : Int) [n0, n1, n2, n3, n4, n5] done) v) 27 (0, 0))) ∧ Hid (OwnO W0.heap.size v done wr) ∧ Hid (Two w.heap.size bi W0 wr)) (fun nv _ => (intOf nv).toNat)
      case atStart => exact ⟨K, [], s7, .slice none 0 0, rfl, by omega, Lib.hid (by simp), Lib.hid rfl, HR7, HB7, Lib.hid ⟨rfl, .inl ⟨rfl, rfl⟩⟩, HT7⟩
      case round =>
        obtain ⟨m, done, s2, v, rfl, hm, HDl, HGo, HRo, HBi, HOo, HTo⟩ := hrel
        have hzr := HTo.out.size
        have cref := rf_refused HRo.out
        cases s2 with
        | none =>
          rw [show (none : RSt).isNone = true from rfl] at cref
          have he : decP bs = out := by
            rw [HDec2.out, if_neg (by omega), HItem.out, if_neg hbig, HGo.out]
            simp only
            rw [gOps_none]
            show out ++ [] = out
            rw [List.append_nil]
          have HE := Lib.hid he; clear he
          have HOb := Lib.hid (HO4.out.twoR HTo.out HCrb.out HBo.out HVb.out)
          have HBb := Lib.hid (HB4.out.trans (show Below w.heap.size W0 wr from ⟨HTo.out.os, HTo.out.tape, HTo.out.output, HTo.out.size, fun k hk => HTo.out.block k (by omega) (by omega) (by omega)⟩))
          cases m with
          | zero =>
            go_wp2_with (fail)
            go_ret
            rw [HE.out]
            exact ⟨_, rfl, HOb.out, HBb.out⟩
          | succ m =>
            go_wp2_with (fail)
            go_ret
            rw [HE.out]
            exact ⟨_, rfl, HOb.out, HBb.out⟩
        | some r2 =>
          rw [show (some r2 : RSt).isNone = false from rfl] at cref
          cases m with
          | zero =>
            have hit : gItem z t = some (itOf (z : Int) [n0, n1, n2, n3, n4, n5] done, r2) := by
              rw [HItem.out, if_neg hbig, HGo.out, gOps_zero]
              simp only [List.append_nil]
              rfl
            obtain ⟨x, hx⟩ : ∃ x, itOf (z : Int) [n0, n1, n2, n3, n4, n5] done = x := ⟨_, rfl⟩
            have hxo : x.ops = done := by rw [← hx]; rfl
            rw [hx] at hit
            have ht' := gItem_len hit
            have he : decP bs = (out ++ [x]) ++ decL (r2.length + 1) (2048 - (out ++ [x]).length) r2 := by
              rw [HDec2.out, if_neg (by omega), hit, List.append_assoc, List.length_append]
              show out ++ (x :: decL (t.length + 1) (2048 - out.length - 1) r2) = out ++ ([x] ++ decL (r2.length + 1) (2048 - (out.length + 1)) r2)
              rw [decL_fuel (t.length + 1) (r2.length + 1) _ r2 (by omega) (by omega), Nat.sub_sub]
              rfl
            have HE := Lib.hid he
            have hbi5 := HBi.out
            rw [hx] at hbi5
            have HOb := Lib.hid (HO4.out.twoR HTo.out HCrb.out HBo.out HVb.out)
            have HBb := Lib.hid (HB4.out.trans (show Below w.heap.size W0 wr from ⟨HTo.out.os, HTo.out.tape, HTo.out.output, HTo.out.size, fun k hk => HTo.out.block k (by omega) (by omega) (by omega)⟩))
            have ho5 : OwnO 0 v x.ops wr := by
              rw [hxo]
              exact World.ownsRow.mono HOo.out (Nat.zero_le _)
            have HOo0 := Lib.hid ho5
            have e0 : wr.cell? ⟨bi, 0, none⟩ = some (.int .i64 x.kind) := cell_blk hbi5 rfl
            have e1 : wr.cell? ⟨bi, 1, none⟩ = some (.int .i64 x.client) := cell_blk hbi5 rfl
            have e2 : wr.cell? ⟨bi, 2, none⟩ = some (.int .i64 x.node) := cell_blk hbi5 rfl
            have e3 : wr.cell? ⟨bi, 3, none⟩ = some (.int .i64 x.n) := cell_blk hbi5 rfl
            have e4 : wr.cell? ⟨bi, 4, none⟩ = some (.int .i64 x.lo) := cell_blk hbi5 rfl
            have e5 : wr.cell? ⟨bi, 5, none⟩ = some (.int .i64 x.hi) := cell_blk hbi5 rfl
            have e6 : wr.cell? ⟨bi, 6, none⟩ = some (.int .i64 x.group) := cell_blk hbi5 rfl
            have e7 : wr.cell? ⟨bi, 7, none⟩ = some v := cell_blk hbi5 rfl
            obtain ⟨xs, hrow, hits⟩ := HOb.out
            have hba : Below wr.heap.size wr (wr.alloc (.cells (itCells x v) 27)) := (Below.refl _ _).alloc (Nat.le_refl _) _
            have hrowa := row_kept hrow (w' := wr.alloc (.cells (itCells x v) 27)) (fun g _ hg => hba.block g hg)
            have HRow := Lib.hid hrow
            have HRowA := Lib.hid hrowa
            have HIts := Lib.hid hits
            have HBa := Lib.hid hba
            have hvi := own_one ho5
            have hnews := World.news_of_block (cs := itCells x v) (t := 27) (fr := (0, 0)) (heap_alloc_new wr _)
            have HNews := Lib.hid hnews
            have hw5 : w.heap.size ≤ (wr.alloc (.cells (itCells x v) 27)).heap.size := by simp; omega
            clear he hit ho5 hbi5 hrow hits hba hrowa hnews hx hxo
            unfold itCells at HRowA HNews hw5 HBa
            go_wp2_with (at_builtin; refine wpList_append_own _ rfl _ _ 23 rfl w.heap.size 27 i0 _ 8 80 Tryz.underlying23 hi hz0 hz1 hz2 rfl (by omega) (.slice vad out.length vcap) out.length xs rfl HRowA.out ⟨wr.heap.size, 0, none⟩ 1 1 (itCells x v).toList rfl rfl HNews.out ?c1 ?c2 ?c3 ?c4 ?_)
            case c1 =>
              intro u hu
              simp [itCells] at hu
              rcases hu with rfl | rfl | rfl | rfl | rfl | rfl | rfl | rfl <;> first | rfl | exact hvi
            case c2 => unfold maxLen; omega
            case c3 => omega
            case c4 => omega
            intro v' w6 hown6 hg6 _
            obtain ⟨sa', sc', hv', _, _⟩ := row_src hown6
            subst hv'
            have HR6 := Lib.hid (((HRo.out.below HBa.out).owned HRowA.out hg6 (by decide) (by decide)))
            have HO6 : Hid (OutO w.heap.size (.slice sa' (out.length + 1) sc') (out ++ [x]) w6) := Lib.hid (OutO.snoc (vo := v) (x := x) (fun j y hj => by
              obtain ⟨v1, h1, h2⟩ := HIts.out j y hj
              exact ⟨v1, h1, own_below h2 HBa.out⟩) HRowA.out hown6 hg6 (own_below HOo0.out HBa.out))
            have HB6 := Lib.hid ((HBb.out.trans (HBa.out.mono (by omega))).grown hg6 (by exact hw5) (fun k hk => (HOb.out.typ hk).choose_spec.2.1))
            clear hown6 hg6 e0 e1 e2 e3 e4 e5 e6 e7 cref
            go_wp2_with (fail)
            go_roundw
            case rel => exact ⟨out ++ [x], r2, sa', sc', by simp, by simp; omega, HE, HR6, by rw [List.length_append]; exact HO6, HB6⟩
            case measure =>
              rw [rfMu_eq HR6.out, HMu.out]
              simp
              omega
          | succ m =>
            go_wp2_with (fail)
            refine (byteR_any w.heap.size bs (some r2) wr HRo.out hlen).mono ?_
            rintro e w4 ⟨rfl, hR, hg⟩
            have hz4 := hg.size
            have HR4o := Lib.hid hR
            have HB4o := Lib.hid (blk_grown hg (show bi ≠ w.heap.size by omega) HBi.out)
            have HT4o := Lib.hid (HTo.out.trans (Two.grown1 hg))
            have HO4o := Lib.hid (own_readerR HRo.out HOo.out hg)
            obtain ⟨q1, hq⟩ : ∃ q, (gB 1 (some r2)).1 = q := ⟨_, rfl⟩
            obtain ⟨t0, ht⟩ : ∃ q, (gB 1 (some r2)).2 = q := ⟨_, rfl⟩
            have HQ1 := Lib.hid (And.intro hq ht)
            rw [hq]
            have hba : Below w4.heap.size w4 (w4.alloc (.cells #[.int .i64 (q1 : Int), .string ⟨#[]⟩, .string ⟨#[]⟩, .int .i64 0] 38)) := (Below.refl _ _).alloc (Nat.le_refl _) _
            have hbo : (w4.alloc (.cells #[.int .i64 (q1 : Int), .string ⟨#[]⟩, .string ⟨#[]⟩, .int .i64 0] 38)).heap[w4.heap.size]? = some (.cells #[.int .i64 (q1 : Int), .string ⟨#[]⟩, .string ⟨#[]⟩, .int .i64 0] 38 (0, 0)) := heap_alloc_new _ _
            have hsX : (w4.alloc (.cells #[.int .i64 (q1 : Int), .string ⟨#[]⟩, .string ⟨#[]⟩, .int .i64 0] 38)).heap.size = w4.heap.size + 1 := by simp
            have hRo := HR4o.out.below hba
            rw [ht] at hRo
            have HRo0 := Lib.hid hRo
            have HBo0 := Lib.hid (blk_below hba HB4o.out)
            have HTo0 := Lib.hid (HT4o.out.trans (Two.below hba))
            have HOo0 := Lib.hid (own_below HO4o.out hba)
            have HBb0 := Lib.hid hbo
            have HNb := Lib.hid (own_old HO4o.out)
            clear hR hg hq ht hba hbo hRo cref HR4o HB4o HT4o HO4o
            go_wp2_with (fail)
            generalize w4.alloc (.cells #[.int .i64 (q1 : Int), .string ⟨#[]⟩, .string ⟨#[]⟩, .int .i64 0] 38) = X0 at *
            generalize w4.heap.size = bo at *
            refine (textR_any w.heap.size bs t0 255 X0 HRo0.out (by omega) hlen).mono ?_
            rintro e U0 ⟨rfl, hR, hg⟩
            have hzU := hg.size
            have hB := blk_grown hg (show bi ≠ w.heap.size by omega) HBo0.out
            have hO := own_readerR HRo0.out HOo0.out hg
            have hbo := blk_grown hg (show bo ≠ w.heap.size by omega) HBb0.out
            have f1 : U0.frozen? ⟨bo, 1, none⟩ = false := Lib.frozen_of_heap hbo 1
            have c1 : U0.cell? ⟨bo, 1, none⟩ = some (.string ⟨#[]⟩) := cell_blk hbo rfl
            obtain ⟨q2, hq⟩ : ∃ q, (gT 255 t0).1 = q := ⟨_, rfl⟩
            obtain ⟨t1, ht⟩ : ∃ q, (gT 255 t0).2 = q := ⟨_, rfl⟩
            have HQ2 := Lib.hid (And.intro hq ht)
            rw [ht] at hR
            rw [hq]
            have hbo' : (U0.setCell ⟨bo, 1, none⟩ (.string q2)).heap[bo]? = some (.cells #[.int .i64 (q1 : Int), .string q2, .string ⟨#[]⟩, .int .i64 0] 38 (0, 0)) := blk_set (k := 1) (u := .string q2) hbo
            have hXs : (U0.setCell ⟨bo, 1, none⟩ (.string q2)).heap.size = U0.heap.size := by simp [World.setCell]
            have HBb1 := Lib.hid hbo'
            have HBo1 := Lib.hid (blk_other (b := bo) (k := 1) (u := .string q2) hB (show bi ≠ bo by omega))
            have HRo1 := Lib.hid (hR.set (k := 1) (u := .string q2) hbo (by decide) (by decide))
            have HOo1 := Lib.hid (own_set (k := 1) (u := .string q2) hO HNb.out)
            have HTo1 := Lib.hid ((HTo0.out.trans (Two.grown1 hg)).late (grown_set U0 bo 1 (.string q2)) (fun g e => by cases e; omega))
            have hzX : U0.heap.size ≤ (U0.setCell ⟨bo, 1, none⟩ (.string q2)).heap.size := by omega
            clear hR hg hB hO hbo hbo' hq ht hXs HRo0 HBo0 HOo0 HTo0 HBb0
            go_wp2_with (fail)
            clear f1 c1
            generalize U0.setCell ⟨bo, 1, none⟩ (.string q2) = X1 at *
            refine (textR_any w.heap.size bs t1 255 X1 HRo1.out (by omega) hlen).mono ?_
            rintro e U1 ⟨rfl, hR, hg⟩
            have hzU := hg.size
            have hB := blk_grown hg (show bi ≠ w.heap.size by omega) HBo1.out
            have hO := own_readerR HRo1.out HOo1.out hg
            have hbo := blk_grown hg (show bo ≠ w.heap.size by omega) HBb1.out
            have f1 : U1.frozen? ⟨bo, 2, none⟩ = false := Lib.frozen_of_heap hbo 2
            have c1 : U1.cell? ⟨bo, 2, none⟩ = some (.string ⟨#[]⟩) := cell_blk hbo rfl
            obtain ⟨q3, hq⟩ : ∃ q, (gT 255 t1).1 = q := ⟨_, rfl⟩
            obtain ⟨t2, ht⟩ : ∃ q, (gT 255 t1).2 = q := ⟨_, rfl⟩
            have HQ3 := Lib.hid (And.intro hq ht)
            rw [ht] at hR
            rw [hq]
            have hbo' : (U1.setCell ⟨bo, 2, none⟩ (.string q3)).heap[bo]? = some (.cells #[.int .i64 (q1 : Int), .string q2, .string q3, .int .i64 0] 38 (0, 0)) := blk_set (k := 2) (u := .string q3) hbo
            have hXs : (U1.setCell ⟨bo, 2, none⟩ (.string q3)).heap.size = U1.heap.size := by simp [World.setCell]
            have HBb2 := Lib.hid hbo'
            have HBo2 := Lib.hid (blk_other (b := bo) (k := 2) (u := .string q3) hB (show bi ≠ bo by omega))
            have HRo2 := Lib.hid (hR.set (k := 2) (u := .string q3) hbo (by decide) (by decide))
            have HOo2 := Lib.hid (own_set (k := 2) (u := .string q3) hO HNb.out)
            have HTo2 := Lib.hid ((HTo1.out.trans (Two.grown1 hg)).late (grown_set U1 bo 2 (.string q3)) (fun g e => by cases e; omega))
            have hzX : U1.heap.size ≤ (U1.setCell ⟨bo, 2, none⟩ (.string q3)).heap.size := by omega
            clear hR hg hB hO hbo hbo' hq ht hXs HRo1 HBo1 HOo1 HTo1 HBb1
            go_wp2_with (fail)
            clear f1 c1
            generalize U1.setCell ⟨bo, 2, none⟩ (.string q3) = X2 at *
            refine (signedR_any w.heap.size bs t2 X2 HRo2.out hlen).mono ?_
            rintro e U2 ⟨rfl, hR, hg⟩
            have hzU := hg.size
            have hB := blk_grown hg (show bi ≠ w.heap.size by omega) HBo2.out
            have hO := own_readerR HRo2.out HOo2.out hg
            have hbo := blk_grown hg (show bo ≠ w.heap.size by omega) HBb2.out
            have f1 : U2.frozen? ⟨bo, 3, none⟩ = false := Lib.frozen_of_heap hbo 3
            have c1 : U2.cell? ⟨bo, 3, none⟩ = some (.int .i64 0) := cell_blk hbo rfl
            obtain ⟨q4, hq⟩ : ∃ q, (gS t2).1 = q := ⟨_, rfl⟩
            obtain ⟨t3, ht⟩ : ∃ q, (gS t2).2 = q := ⟨_, rfl⟩
            have HQ4 := Lib.hid (And.intro hq ht)
            rw [ht] at hR
            rw [hq]
            have hbo' : (U2.setCell ⟨bo, 3, none⟩ (.int .i64 q4)).heap[bo]? = some (.cells #[.int .i64 (q1 : Int), .string q2, .string q3, .int .i64 q4] 38 (0, 0)) := blk_set (k := 3) (u := .int .i64 q4) hbo
            have hXs : (U2.setCell ⟨bo, 3, none⟩ (.int .i64 q4)).heap.size = U2.heap.size := by simp [World.setCell]
            have HBb3 := Lib.hid hbo'
            have HBo3 := Lib.hid (blk_other (b := bo) (k := 3) (u := .int .i64 q4) hB (show bi ≠ bo by omega))
            have HRo3 := Lib.hid (hR.set (k := 3) (u := .int .i64 q4) hbo (by decide) (by decide))
            have HOo3 := Lib.hid (own_set (k := 3) (u := .int .i64 q4) hO HNb.out)
            have HTo3 := Lib.hid ((HTo2.out.trans (Two.grown1 hg)).late (grown_set U2 bo 3 (.int .i64 q4)) (fun g e => by cases e; omega))
            have hzX : U2.heap.size ≤ (U2.setCell ⟨bo, 3, none⟩ (.int .i64 q4)).heap.size := by omega
            clear hR hg hB hO hbo hbo' hq ht hXs HRo2 HBo2 HOo2 HTo2 HBb2
            have hY3 := HBb3.out
            have hYb := HBo3.out
            have o0 : (U2.setCell ⟨bo, 3, none⟩ (.int .i64 q4)).cell? ⟨bo, 0, none⟩ = some (.int .i64 (q1 : Int)) := cell_blk hY3 rfl
            have o1 : (U2.setCell ⟨bo, 3, none⟩ (.int .i64 q4)).cell? ⟨bo, 1, none⟩ = some (.string q2) := cell_blk hY3 rfl
            have o2 : (U2.setCell ⟨bo, 3, none⟩ (.int .i64 q4)).cell? ⟨bo, 2, none⟩ = some (.string q3) := cell_blk hY3 rfl
            have o3 : (U2.setCell ⟨bo, 3, none⟩ (.int .i64 q4)).cell? ⟨bo, 3, none⟩ = some (.int .i64 q4) := cell_blk hY3 rfl
            have c7 : (U2.setCell ⟨bo, 3, none⟩ (.int .i64 q4)).cell? ⟨bi, 7, none⟩ = some v := cell_blk hYb rfl
            have hA : Below (U2.setCell ⟨bo, 3, none⟩ (.int .i64 q4)).heap.size (U2.setCell ⟨bo, 3, none⟩ (.int .i64 q4)) ((U2.setCell ⟨bo, 3, none⟩ (.int .i64 q4)).alloc (.cells #[.int .i64 (q1 : Int), .string q2, .string q3, .int .i64 q4] 38)) := (Below.refl _ _).alloc (Nat.le_refl _) _
            have HownA := Lib.hid (own_below HOo3.out hA)
            have HRa := Lib.hid (HRo3.out.below hA)
            have HTa := Lib.hid (HTo3.out.trans (Two.below hA))
            have HBa := Lib.hid (blk_below hA hYb)
            have HNe := Lib.hid (own_neT HownA.out HBa.out (by decide))
            have hnews := World.news_of_block (cs := #[.int .i64 (q1 : Int), .string q2, .string q3, .int .i64 q4]) (t := 38) (fr := (0, 0)) (heap_alloc_new (U2.setCell ⟨bo, 3, none⟩ (.int .i64 q4)) _)
            have hsz3 : (U2.setCell ⟨bo, 3, none⟩ (.int .i64 q4)).heap.size = U2.heap.size := by simp [World.setCell]
            rw [hsz3] at hnews
            have HNews := Lib.hid hnews
            clear hnews hsz3
            have hWX : W0.heap.size ≤ ((U2.setCell ⟨bo, 3, none⟩ (.int .i64 q4)).alloc (.cells #[.int .i64 (q1 : Int), .string q2, .string q3, .int .i64 q4] 38)).heap.size := HTa.out.size
            have hdl : done.length + (m + 1) ≤ 4 := by have := HDl.out; omega
            clear hY3 hYb hA
            go_wp2_with (at_builtin; refine wpList_append_own _ rfl _ _ 25 rfl W0.heap.size 38 j0 _ 4 48 Tryz.underlying25 hj hy0 hy1 hy2 rfl (by omega) v done.length (opVals done) rfl HownA.out ⟨U2.heap.size, 0, none⟩ 1 1 [.int .i64 (q1 : Int), .string q2, .string q3, .int .i64 q4] rfl rfl HNews.out ?c1 ?c2 ?c3 ?c4 ?_)
            case c1 => simp [Value.oneCell']
            case c2 => unfold maxLen; omega
            case c3 => omega
            case c4 => first | exact hWX | (simp at hWX ⊢; omega)
            intro v5 w5 hown2 hgrow _
            obtain ⟨sa5, sn5, sc5, hv5⟩ : ∃ a n c, v5 = Value.slice a n c := by
              rcases hown2.2 with ⟨hv, _⟩ | ⟨g, cap, cur, hv, _⟩
              · exact ⟨_, _, _, hv⟩
              · exact ⟨_, _, _, hv⟩
            subst hv5
            have hbk3 := (hgrow.block bi (Array.getElem?_eq_some_iff.1 HBa.out).1 (fun e => HNe.out e.symm)).trans HBa.out
            have f1 : w5.frozen? ⟨bi, 7, none⟩ = false := Lib.frozen_of_heap hbk3 7
            have c1 : w5.cell? ⟨bi, 7, none⟩ = some v := cell_blk hbk3 rfl
            have Hbk3 := Lib.hid hbk3
            have HOw := Lib.hid hown2
            have HGr := Lib.hid hgrow
            have hgo : gOps K s7 = ((done ++ [⟨q1, q2, q3, q4⟩]) ++ (gOps m t3).1, (gOps m t3).2) := by
              rw [HGo.out, gOps_succ]
              have e1 : (gOp (some r2)).1 = ⟨q1, q2, q3, q4⟩ := by
                unfold gOp
                simp only [HQ1.out.1, HQ1.out.2, HQ2.out.1, HQ2.out.2, HQ3.out.1, HQ3.out.2, HQ4.out.1]
              have e2 : (gOp (some r2)).2 = t3 := by
                unfold gOp
                simp only [HQ1.out.2, HQ2.out.2, HQ3.out.2, HQ4.out.2]
              rw [e1, e2]
              simp
            have HGn := Lib.hid hgo
            clear hbk3 hown2 hgrow hgo o0 o1 o2 o3 c7
            go_wp2_with (fail)
            go_roundw
            case rel =>
              refine ⟨m, done ++ [⟨q1, q2, q3, q4⟩], t3, .slice sa5 sn5 sc5, by simp, by omega, Lib.hid (by rw [List.length_append]; show done.length + 1 + m = K; have := HDl.out; omega), HGn, Lib.hid ((HRa.out.owned HownA.out HGr.out (by decide) (by decide)).set Hbk3.out (by decide) (by decide)), Lib.hid ?_, Lib.hid ?_, Lib.hid ((HTa.out.late HGr.out (own_from HownA.out)).trans (Two.grown2 (grown_set _ _ _ _)))⟩
              · exact blk_set (k := 7) Hbk3.out
              · have ho : OwnO W0.heap.size (.slice sa5 sn5 sc5) (done ++ [⟨q1, q2, q3, q4⟩]) w5 := by
                  unfold OwnO
                  rw [opVals_snoc, List.length_append]
                  exact HOw.out
                exact own_set ho (own_neT ho Hbk3.out (by decide))
            case measure => simp [intOf]
end Go.Proofs.YtekggipkfmleoaaGreatDoor

namespace Go.Proofs.YtekggipkfmleoaaGreatDoor
open Go.RowKit

theorem buf_of_row {w w' : World} {N : Nat} {xs : List Value} (ho : w'.ownsRow w.heap.size 5 1 (.slice (some ⟨w.heap.size, 0, none⟩) N N) N xs) (hg : w.grownBy w' none) : Lib.Buf w w' w.heap.size N [] := by
  have hl : xs.length = N := by have := ho.1; omega
  have hh : ∃ cs, w'.heap[w.heap.size]? = some (Obj.cells cs 5 (0, 0)) := by
    obtain ⟨_, ⟨hv, _⟩ | ⟨g, cap, cur, hv, _, hh, _⟩⟩ := ho
    · cases hv
    · cases hv
      exact ⟨_, hh⟩
  obtain ⟨cs, hh⟩ := hh
  refine ⟨⟨hg.os, hg.tape, hg.output, hg.size, fun k hk => hg.block k hk (by simp)⟩, fun j hj => ?_, fun j _ => Lib.frozen_of_heap hh j, fun j x hx => by simp at hx, Nat.zero_le _⟩
  have hx : ∃ u, xs[j]? = some u := ⟨_, List.getElem?_eq_getElem (by omega)⟩
  obtain ⟨u, hu⟩ := hx
  have := ho.cells (g := w.heap.size) rfl j u hu
  rw [addr_add, Nat.zero_add] at this
  rw [this]
  rfl
theorem holds_of_by {w : World} {v : Value} {bs : List UInt8} (h : ByAt w v bs) : Lib.HoldsBytes w v bs := by
  obtain ⟨a, c, rfl, ⟨rfl, rfl⟩ | ⟨g, o, rfl, hs⟩⟩ := h
  · exact ⟨none, c, rfl, (fun _ => rfl), (fun a h => by cases h)⟩
  · refine ⟨_, c, rfl, (fun h => by cases h), fun a h i x hx => ?_⟩
    cases h
    rw [addr_add]
    exact hs i x hx
theorem buf_set {w wr : World} {g N j : Nat} {acc : List UInt8} {x : UInt8} {z : Int} (h : Lib.Buf w wr g N acc) (hz : z = (x.toNat : Int)) (hj : acc.length = j) (hjn : j < N) (hg : w.heap.size ≤ g) : Lib.Buf w (wr.setCell ⟨g, j, none⟩ (.int .u8 z)) g N (acc ++ [x]) := by
  subst hz hj
  have ht := h.there _ hjn
  obtain ⟨u, hu⟩ := Option.isSome_iff_exists.1 ht
  have hsame : (wr.setCell ⟨g, acc.length, none⟩ (.int .u8 (x.toNat : Int))).cell? ⟨g, acc.length, none⟩ = some (.int .u8 (x.toNat : Int)) := World.cell?_setCell_same' wr _ _ ht
  have hoth : ∀ i, i ≠ acc.length → (wr.setCell ⟨g, acc.length, none⟩ (.int .u8 (x.toNat : Int))).cell? ⟨g, i, none⟩ = wr.cell? ⟨g, i, none⟩ := fun i hi => World.cell?_setCell_other wr _ _ _ (by intro e; injection e with _ e _; omega)
  refine ⟨h.below.setCell (Nat.le_refl _) _, fun i hi => ?_, fun i hi => ?_, fun i y hy => ?_, by rw [List.length_append]; simp; omega⟩
  · by_cases e : i = acc.length
    · subst e; rw [hsame]; rfl
    · rw [hoth i e]; exact h.there i hi
  · rw [World.frozen?_setCell]; exact h.free i hi
  · by_cases e : i = acc.length
    · subst e
      rw [hsame]
      rw [List.getElem?_append_right (Nat.le_refl _)] at hy
      simp at hy
      rw [hy]
    · rw [hoth i e]
      have hlt := (List.getElem?_eq_some_iff.1 hy).1
      rw [List.length_append] at hlt
      simp at hlt
      rw [List.getElem?_append_left (by omega)] at hy
      exact h.holds i y hy
theorem buf_by {w wr : World} {g N : Nat} {acc : List UInt8} (h : Lib.Buf w wr g N acc) (hN : acc.length = N) : ByAt wr (.slice (some ⟨g, 0, none⟩) N N) acc := by
  subst hN
  exact ⟨_, _, rfl, .inr ⟨g, 0, rfl, fun j x hx => by rw [Nat.zero_add]; exact h.holds j x hx⟩⟩
theorem by_take {w : World} {a : Option Addr} {c m n : Nat} {l : List UInt8} (h : ByAt w (.slice a n c) l) (hm : m ≤ l.length) : ByAt w (.slice a m c) (l.take m) := by
  obtain ⟨a', c', hv, hs⟩ := h
  cases hv
  refine ⟨a, c, by rw [List.length_take, Nat.min_eq_left hm], ?_⟩
  rcases hs with ⟨rfl, rfl⟩ | ⟨g, o, rfl, hs⟩
  · exact .inl ⟨rfl, by simp⟩
  · refine .inr ⟨g, o, rfl, fun j x hj => hs j x ?_⟩
    rw [List.getElem?_take] at hj
    split at hj
    · exact hj
    · cases hj
def roomy (bs : List UInt8) (m : UInt8) : List UInt8 := bs ++ List.replicate 80 m

set_option maxHeartbeats 4000000 in
set_option maxRecDepth 100000 in
theorem roomy_any (v : Value) (bs : List UInt8) (w : World) (h : ByAt w v bs) (hlen : bs.length ≤ 1099511627) :
    Calls Tryz.prog 7 #[v, .int .u8 165] w fun e w' => (∃ g, e = .returned (.slice (some ⟨g, 0, none⟩) (bs.length + 80) (bs.length + 80)) ∧ ByAt w' (.slice (some ⟨g, 0, none⟩) (bs.length + 80) (bs.length + 80)) (roomy bs 165)) ∧ Below w.heap.size w w' := by
  obtain ⟨i0, hi, hz0, hz1, hz2⟩ := info_parts wrInfoB
  have HH := Lib.hid (holds_of_by h)
  obtain ⟨va, vc, rfl, _⟩ := h
  obtain ⟨N, hN⟩ : ∃ N, bs.length + 80 = N := ⟨_, rfl⟩
  have HN := Lib.hid hN
  have hNl : N ≤ 1099511800 := by omega
  have hNb : bs.length < N := by omega
  clear hN
  have hs1 : (Tryz.prog.info? 5).map (·.size) = some 1 := by rw [hi]; simp [hz1]
  go_enter Tryz.func7, Tryz.ntmps7
  go_wp2_with (at_make; refine wpList_make_full _ rfl _ _ 22 rfl w.heap.size 5 i0 _ 1 Tryz.underlying22 hi hz0 hz1 .i64 .i64 _ _ N rfl rfl ?c1 ?c2 ?c3 ?c4 ?c5 ?_)
  case c1 => have := HN.out; omega
  case c2 => have := HN.out; omega
  case c3 => rw [hz2]; omega
  case c4 => unfold maxLen; omega
  case c5 => exact Nat.le_refl _
  intro w1 ho1 hg1
  have hb1 := buf_of_row ho1 hg1
  have hcp := Lib.copy_part (P := Tryz.prog) w w1 w.heap.size N [] bs (.slice va bs.length vc) 22 3 5 Tryz.underlying22 hs1 (Nat.le_refl _) hb1 HH.out (by simp; omega)
  obtain ⟨w2, hr, hb2⟩ := hcp
  rw [show ([] : List UInt8).length = 0 from rfl, Lib.tailV_zero] at hr
  rw [List.nil_append] at hb2
  have HB2 := Lib.hid hb2
  clear ho1 hg1 hb1 hb2
  go_wp2_with (at_builtin; refine Lib.wpList_copy_run _ rfl _ _ 22 22 rfl _ _ rfl rfl hr ?_)
  go_wp2_with (fail)
  go_loopw [6] (fun iv wr => ∃ j : Nat, iv = .int .i64 j ∧ bs.length ≤ j ∧ j ≤ N ∧ Hid (Lib.Buf w wr w.heap.size N (bs ++ List.replicate (j - bs.length) 165))) (fun iv _ => N - (intOf iv).toNat)
  case atStart => exact ⟨bs.length, rfl, Nat.le_refl _, by omega, by rw [Nat.sub_self]; exact Lib.hid (by simpa using HB2.out)⟩
  case round =>
    obtain ⟨j, rfl, hj1, hj2, HBf⟩ := hrel
    by_cases hjN : j < N
    · have ht := HBf.out.there j hjN
      obtain ⟨u, hu⟩ := Option.isSome_iff_exists.1 ht
      have hf := HBf.out.free j hjN
      have hlen2 : (bs ++ List.replicate (j - bs.length) (165 : UInt8)).length = j := by rw [List.length_append, List.length_replicate]; omega
      have HB3 := Lib.hid (buf_set (x := 165) (z := 165) HBf.out rfl hlen2 hjN (Nat.le_refl _))
      clear ht hlen2
      go_wp2_with (fail)
      go_roundw
      case rel =>
        refine ⟨j + 1, by simp, by omega, by omega, ?_⟩
        rw [show j + 1 - bs.length = (j - bs.length) + 1 by omega, List.replicate_succ', ← List.append_assoc]
        exact HB3
      case measure => simp [intOf]; omega
    · obtain rfl : j = N := by omega
      go_wp2_with (fail)
      go_ret
      have hb := HBf.out
      rw [show j - bs.length = 80 by have := HN.out; omega] at hb
      have hby := buf_by hb (by rw [List.length_append, List.length_replicate]; exact HN.out)
      rw [HN.out]
      exact ⟨⟨_, rfl, hby⟩, hb.below⟩

set_option maxHeartbeats 4000000 in
set_option maxRecDepth 100000 in
theorem same_any (va vb : Value) (bs : List UInt8) (w : World) (ha : ByAt w va bs) (hb : ByAt w vb bs) (hlen : bs.length ≤ 1099511627776) :
    Calls Tryz.prog 26 #[va, vb] w fun e w' => e = .returned (.bool true) ∧ Below w.heap.size w w' := by
  obtain ⟨a, c, rfl, ha⟩ := ha
  obtain ⟨a', c', rfl, hb⟩ := hb
  have HA := Lib.hid ha
  have HB := Lib.hid hb
  clear ha hb
  go_enter Tryz.func26, Tryz.ntmps26
  go_wp2_with (fail)
  go_loopw [5] (fun i wr => ∃ k : Nat, i = .int .i64 k ∧ k ≤ bs.length ∧ Below w.heap.size w wr ∧ wr.heap = w.heap) (fun i _ => bs.length - (intOf i).toNat)
  case atStart => exact ⟨0, rfl, by omega, Below.refl _ _, rfl⟩
  case round =>
    obtain ⟨k, rfl, hk, hbw, hheap⟩ := hrel
    have HH := Lib.hid hheap
    by_cases hlt : k < bs.length
    · have ho : ∃ o, bs[k]? = some o := ⟨_, List.getElem?_eq_getElem hlt⟩
      obtain ⟨x, ho⟩ := ho
      rcases HA.out with ⟨_, h0⟩ | ⟨g1, o1, rfl, hs1⟩
      · subst h0; simp at hlt
      rcases HB.out with ⟨_, h0⟩ | ⟨g2, o2, rfl, hs2⟩
      · subst h0; simp at hlt
      have key : ∀ p : Addr, wr.cell? p = w.cell? p := fun p => by unfold World.cell?; rw [hheap]
      have c0 := (key ⟨g1, o1 + k, none⟩).trans (hs1 k x ho)
      have c1 := (key ⟨g2, o2 + k, none⟩).trans (hs2 k x ho)
      have HBw := Lib.hid hbw
      clear hs1 hs2 ho hbw key hheap
      go_wp2
      go_quiet (fail)
      go_wp2
      go_roundw
      case rel => exact ⟨k + 1, by simp, by omega, ⟨HBw.out.os, HBw.out.tape, HBw.out.output, HBw.out.size, HBw.out.block⟩, HH.out⟩
      case measure => simp [intOf]; omega
    · obtain rfl : k = bs.length := by omega
      have HBw := Lib.hid hbw; clear hbw hheap
      go_wp2_with (fail)
      go_ret
      exact ⟨rfl, HBw.out⟩

set_option maxHeartbeats 4000000 in
set_option maxRecDepth 100000 in
theorem intact_any (g N : Nat) (vb : Value) (bs : List UInt8) (w : World) (hf : ByAt w (.slice (some ⟨g, 0, none⟩) N N) (roomy bs 165)) (hb : ByAt w vb bs) (hN : bs.length + 80 = N) (hlen : bs.length ≤ 1099511627) :
    Calls Tryz.prog 11 #[.slice (some ⟨g, 0, none⟩) N N, vb, .int .u8 165] w fun e w' => e = .returned (.bool true) ∧ Below w.heap.size w w' := by
  have HB := Lib.hid hb
  obtain ⟨va, vc, rfl, _⟩ := hb
  have ht := by_take hf (m := bs.length) (by unfold roomy; rw [List.length_append]; omega)
  rw [show (roomy bs 165).take bs.length = bs by unfold roomy; rw [List.take_append_of_le_length (Nat.le_refl _), List.take_length]] at ht
  have HT := Lib.hid ht
  have HF := Lib.hid hf
  have HN := Lib.hid hN
  have hNl : N ≤ 1099511800 := by omega
  have hNb : (bs.length : Int) ≤ (N : Int) := by omega
  have hneB : ((N : Int) != (bs.length : Int) + 80) = false := by simp; omega
  clear ht hf hN
  go_enter Tryz.func11, Tryz.ntmps11
  go_wp2_with (fail)
  refine (same_any _ _ bs w HT.out HB.out (by omega)).mono ?_
  rintro e w1 ⟨rfl, hb1⟩
  have HB1 := Lib.hid hb1
  have HF1 := Lib.hid (HF.out.below hb1)
  clear hb1
  go_wp2_with (fail)
  go_loopw [7] (fun iv wr => ∃ j : Nat, iv = .int .i64 j ∧ bs.length ≤ j ∧ j ≤ N ∧ wr = w1) (fun iv _ => N - (intOf iv).toNat)
  case atStart => exact ⟨bs.length, rfl, Nat.le_refl _, by omega, rfl⟩
  case round =>
    obtain ⟨j, rfl, hj1, hj2, rfl⟩ := hrel
    by_cases hjN : j < N
    · have hx : (roomy bs 165)[j]? = some 165 := by
        unfold roomy
        rw [List.getElem?_append_right hj1, List.getElem?_replicate]
        rw [if_pos (by have := HN.out; omega)]
      have cj : wr.cell? ⟨g, j, none⟩ = some (.int .u8 165) := by
        obtain ⟨a, c, hv, ⟨e, _⟩ | ⟨g', o', e, hs⟩⟩ := HF1.out
        · cases hv; cases e
        · cases hv
          cases e
          have := hs j 165 hx
          rw [Nat.zero_add] at this
          exact this
      clear hx
      go_wp2_with (fail)
      go_roundw
      case rel => exact ⟨j + 1, by simp, by omega, by omega, trivial⟩
      case measure => simp [intOf]; omega
    · obtain rfl : j = N := by omega
      go_wp2_with (fail)
      go_ret
      exact ⟨rfl, HB1.out⟩
end Go.Proofs.YtekggipkfmleoaaGreatDoor

namespace Go.Proofs.YtekggipkfmleoaaGreatDoor
open Go.RowKit Go.Ev

theorem decL_most : ∀ (f m : Nat) (r : List UInt8), (decL f m r).length ≤ m
  | 0, m, r => Nat.zero_le _
  | f + 1, m, [] => Nat.zero_le _
  | f + 1, m, c :: t => by
    rw [decL_cons]
    split
    · exact Nat.zero_le _
    split
    · exact decL_most f m t
    · cases hi : gItem c.toNat t with
      | none => exact Nat.zero_le _
      | some p =>
        obtain ⟨x, t'⟩ := p
        have := decL_most f (m - 1) t'
        simp only [List.length_cons]
        omega
theorem wthn_bounds (n : Int) (k : Nat) : 0 ≤ wthn n 0 k ∧ wthn n 0 k ≤ k := by
  have ha := Int.tmod_lt_of_pos n (b := (k : Int) - 0 + 1) (by omega)
  have hb : -((k : Int) - 0 + 1) < n.tmod ((k : Int) - 0 + 1) := by
    have h3 := Int.tmod_lt_of_pos (-n) (b := (k : Int) - 0 + 1) (by omega)
    rw [Int.neg_tmod] at h3
    omega
  unfold wthn
  split <;> omega
theorem ownB_typ {B g n c : Nat} {L : List UInt8} {w : World} (h : OwnB B (.slice (some ⟨g, 0, none⟩) n c) L w) : ∃ cs, w.heap[g]? = some (Obj.cells cs 5 (0, 0)) ∧ B ≤ g := by
  obtain ⟨_, ⟨hv, _⟩ | ⟨g', cap, cur, hv, hbg, hh, _⟩⟩ := h
  · cases hv
  · cases hv
    exact ⟨_, hh, hbg⟩
theorem ownB_set {B g c k : Nat} {L : List UInt8} {y : UInt8} {w : World} (h : OwnB B (.slice (some ⟨g, 0, none⟩) L.length c) L w) : OwnB B (.slice (some ⟨g, 0, none⟩) L.length c) (L.set k y) (w.setCell ⟨g, k, none⟩ (.int .u8 (y.toNat : Int))) := by
  have h1 := (World.ownsRow.stored h k (.int .u8 (y.toNat : Int))).1
  unfold OwnB
  rw [List.length_set]
  have e : Lib.byteCells (L.set k y) = (Lib.byteCells L).set k (.int .u8 (y.toNat : Int)) := by
    unfold Lib.byteCells
    rw [List.map_set]
  rw [e]
  exact h1

set_option maxHeartbeats 8000000 in
set_option maxRecDepth 100000 in
theorem shellReads_cut (a : Option Addr) (n c : Nat) (l : List ItT) (at_ : Int) (tb : UInt8) (ba : Option Addr) (bn bc : Nat) (bs : List UInt8) (w : World) (hl : l.length = n) (hnc : n ≤ c) (hI0 : ItsAt w (.slice a n c) l)
    (hn1 : bn ≤ 1000 → bs.length = bn) (hn2 : 1000 < bn → bs.length = 1000) (hbnc : bn ≤ bc) (hb : ByAt w (.slice ba bs.length bc) bs) (htab : Lib.TabIs Tryz.prog w tabName .u64 Lib.pow10Tab) :
    Calls Tryz.prog 3 #[.slice ba bn bc, .slice a n c, .int .i64 at_, .int .u8 (tb.toNat : Int)] w fun e w' => e = .returned (.bool true) ∧ Below w.heap.size w w' := by
  obtain ⟨i0, hi, hz0, hz1, hz2⟩ := info_parts itInfoB
  obtain ⟨j0, hj, hy0, hy1, hy2⟩ := info_parts wrInfoB
  have h1000 : bs.length ≤ 1000 := by
    by_cases h : bn ≤ 1000
    · rw [hn1 h]; exact h
    · rw [hn2 (by omega)]; exact Nat.le_refl _
  have HTab := Lib.hid htab; clear htab
  have HN := Lib.hid (And.intro hn1 hn2); clear hn1 hn2
  have HBy := Lib.hid hb; clear hb
  obtain ⟨a', c', hv, hlc, hI⟩ := hI0
  cases hv
  have HI := Lib.hid hI; clear hI
  clear hl
  go_enter Tryz.func3, Tryz.ntmps3
  go_wp2_with (fail)
  go_loopw [9, 10] (fun sv i wr => ∃ (k : Nat) (sel : List ItT) (xs : List Value) (sa : Option Addr) (sc : Nat), sv = .slice sa sel.length sc ∧ i = .int .i64 k ∧ k ≤ l.length ∧ k ≤ 30 ∧ sel.length ≤ k ∧ Hid (sel.all itOk = true) ∧ Hid (wr.ownsRow w.heap.size 27 8 (.slice sa sel.length sc) sel.length xs) ∧ Hid (RowP (fun vo o => OpsAt w vo o) sel xs) ∧ Below w.heap.size w wr) (fun _ i _ => l.length - (intOf i).toNat)
  case atStart => exact ⟨0, [], [], none, 0, rfl, rfl, by omega, by omega, Nat.le_refl _, Lib.hid rfl, Lib.hid ⟨rfl, .inl ⟨rfl, rfl⟩⟩, Lib.hid (RowP.nil _), Below.refl _ _⟩
  case round =>
    obtain ⟨k, sel, xs, sa, sc, rfl, rfl, hk, hk20, hsk, HAl, HRow, HRP, hbw⟩ := hrel
    by_cases hgo : k < l.length ∧ k < 30
    · obtain ⟨hlt, hlt20⟩ := hgo
      have hx : ∃ x, l[k]? = some x := ⟨_, List.getElem?_eq_getElem hlt⟩
      obtain ⟨x, hx⟩ := hx
      rcases HI.out with h0 | ⟨ib, io, rfl, hib, his⟩
      · omega
      obtain ⟨d0, d1, d2, d3, d4, d5, d6, vo, d7, hO⟩ := his k x hx
      have c0 := (hbw.cell (p := ⟨ib, io + k * 8, none⟩) hib).trans d0
      have c1 := (hbw.cell (p := ⟨ib, io + k * 8 + 1, none⟩) hib).trans d1
      have c2 := (hbw.cell (p := ⟨ib, io + k * 8 + 2, none⟩) hib).trans d2
      have c3 := (hbw.cell (p := ⟨ib, io + k * 8 + 3, none⟩) hib).trans d3
      have c4 := (hbw.cell (p := ⟨ib, io + k * 8 + 4, none⟩) hib).trans d4
      have c5 := (hbw.cell (p := ⟨ib, io + k * 8 + 5, none⟩) hib).trans d5
      have c6 := (hbw.cell (p := ⟨ib, io + k * 8 + 6, none⟩) hib).trans d6
      have c7 := (hbw.cell (p := ⟨ib, io + k * 8 + 7, none⟩) hib).trans d7
      have hOr := hO.below hbw
      have HO := Lib.hid hO
      have HDs := Lib.hid (And.intro d0 (And.intro d1 (And.intro d2 (And.intro d3 (And.intro d4 (And.intro d5 (And.intro d6 d7)))))))
      have hvo := ops_one hO
      have HVo := Lib.hid hvo
      obtain ⟨ao, co, rfl, hoc, hom, hO2⟩ := hO
      have HS := Lib.hid his
      have HBw := Lib.hid hbw
      clear his d0 d1 d2 d3 d4 d5 d6 d7 hO2 hx hbw hvo
      have hkB : decide ((k : Int) < (l.length : Int)) = true := by simp; omega
      have hk2B : decide ((k : Int) < 30) = true := by simp; omega
      go_wp2_with (fail)
      refine (right_any x _ wr hOr).mono ?_
      rintro e Y ⟨rfl, hbY⟩
      have HBY := Lib.hid (HBw.out.trans (hbY.mono HBw.out.size))
      have HRowY := Lib.hid (row_kept HRow.out (w' := Y) (fun g _ hg => hbY.block g hg))
      clear hbY c0 c1 c2 c3 c4 c5 c6 c7
      cases hok : itOk x with
      | false =>
        clear hok
        go_wp2_with (fail)
        go_roundw
        case rel => exact ⟨k + 1, sel, xs, sa, sc, rfl, by simp, by omega, by omega, by omega, HAl, HRowY, HRP, HBY.out⟩
        case measure => simp [intOf]; omega
      | true =>
        have HOk := Lib.hid hok
        obtain ⟨d0, d1, d2, d3, d4, d5, d6, d7⟩ := HDs.out
        have c0 := (HBY.out.cell (p := ⟨ib, io + k * 8, none⟩) hib).trans d0
        have c1 := (HBY.out.cell (p := ⟨ib, io + k * 8 + 1, none⟩) hib).trans d1
        have c2 := (HBY.out.cell (p := ⟨ib, io + k * 8 + 2, none⟩) hib).trans d2
        have c3 := (HBY.out.cell (p := ⟨ib, io + k * 8 + 3, none⟩) hib).trans d3
        have c4 := (HBY.out.cell (p := ⟨ib, io + k * 8 + 4, none⟩) hib).trans d4
        have c5 := (HBY.out.cell (p := ⟨ib, io + k * 8 + 5, none⟩) hib).trans d5
        have c6 := (HBY.out.cell (p := ⟨ib, io + k * 8 + 6, none⟩) hib).trans d6
        have c7 := (HBY.out.cell (p := ⟨ib, io + k * 8 + 7, none⟩) hib).trans d7
        have hba : Below Y.heap.size Y (Y.alloc (.cells (itCells x (.slice ao x.ops.length co)) 27)) := (Below.refl _ _).alloc (Nat.le_refl _) _
        have HRowA := Lib.hid (row_kept HRowY.out (fun g _ hg => hba.block g hg))
        have HNews := Lib.hid (World.news_of_block (cs := itCells x (.slice ao x.ops.length co)) (t := 27) (fr := (0, 0)) (heap_alloc_new Y _))
        have HBa := Lib.hid hba
        have hwY : w.heap.size ≤ (Y.alloc (.cells (itCells x (.slice ao x.ops.length co)) 27)).heap.size := by
          have := HBY.out.size
          simp
          omega
        clear hok d0 d1 d2 d3 d4 d5 d6 d7 hba
        unfold itCells at HRowA HNews hwY HBa
        have hvoc : (Value.slice ao x.ops.length co).oneCell' = true := rfl
        go_wp2_with (at_builtin; refine wpList_append_own _ rfl _ _ 23 rfl w.heap.size 27 i0 _ 8 80 Tryz.underlying23 hi hz0 hz1 hz2 rfl (by omega) (.slice sa sel.length sc) sel.length xs rfl HRowA.out ⟨Y.heap.size, 0, none⟩ 1 1 (itCells x (.slice ao x.ops.length co)).toList rfl rfl HNews.out ?c1 ?c2 ?c3 ?c4 ?_)
        case c1 => exact (RowP.one (Pv := fun _ _ => True) (x := x) hvoc trivial).2.1
        case c2 => unfold maxLen; omega
        case c3 => omega
        case c4 => exact hwY
        intro v' w6 hown6 hg6 _
        obtain ⟨sa', sc', rfl⟩ : ∃ sa' sc', v' = .slice sa' (sel.length + 1) sc' := by
          obtain ⟨q1, q2, q3, _⟩ := row_src hown6
          exact ⟨q1, q2, q3⟩
        have HOw := Lib.hid hown6
        have HB6 := Lib.hid ((HBY.out.trans (HBa.out.mono HBY.out.size)).grown hg6 (by exact hwY) (fun g hg => (HRowA.out.lt g hg).1))
        clear hown6 hg6
        go_wp2_with (fail)
        go_roundw
        case rel =>
          refine ⟨k + 1, sel ++ [x], xs ++ (itCells x (.slice ao x.ops.length co)).toList, sa', sc', by simp, by simp, by omega, by omega, by simp; omega, Lib.hid (by rw [List.all_append, HAl.out]; simp [HOk.out]), Lib.hid ?_, Lib.hid (HRP.out.append (RowP.one hvoc HO.out)), HB6.out⟩
          rw [List.length_append]
          exact HOw.out
        case measure => simp [intOf]; omega
    · have hlast := hgo
      have hkk : k = l.length ∨ (k < l.length ∧ k = 30) := by omega
      have HK := Lib.hid hkk
      have HBw := Lib.hid hbw
      clear hgo hlast hbw hkk
      have hit : ItsAt wr (.slice sa sel.length sc) sel := its_of_row HRow.out (HRP.out.mono fun v o h => h.below HBw.out)
      have HIt := Lib.hid hit; clear hit
      have key : ∀ K : Prop, (k = l.length → K) → (k < l.length ∧ k = 30 → K) → K := fun K h1 h2 => HK.out.elim h1 h2
      by_cases hke : k < l.length
      · have hk20e : decide ((k : Int) < 30) = false := by
          have := HK.out
          simp
          omega
        have hkB : decide ((k : Int) < (l.length : Int)) = true := by simp; omega
        clear key
        go_wp2_with (fail)
        refine (bytes_any _ sel wr HIt.out (by omega) HAl.out).mono ?_
        rintro e Y ⟨xv, rfl, hown, hbY⟩
        obtain ⟨L, hLe⟩ : ∃ L, itsB sel = L := ⟨_, rfl⟩
        have hlenL := itsB_len sel HAl.out
        rw [hLe] at hown hlenL
        have HBY := Lib.hid (HBw.out.trans (hbY.mono HBw.out.size))
        obtain ⟨xa, xc, rfl⟩ : ∃ a c, xv = .slice a L.length c := by
          obtain ⟨a, c, hv, _⟩ := OwnB.by hown
          exact ⟨a, c, hv⟩
        have HOwn := Lib.hid (OwnB.mono hown HBw.out.size)
        clear hbY hown hLe
        go_upto_if 40 with (fail)
        go_cut [11] (fun v wx => v = .slice xa L.length xc ∧ ∃ L' : List UInt8, L'.length = L.length ∧ Hid (OwnB w.heap.size (.slice xa L.length xc) L' wx) ∧ Hid (Below w.heap.size w wx))
        case first =>
          by_cases h0 : L.length = 0
          · have h0P : ¬ 0 < L.length := by omega
            have H0 := Lib.hid h0
            clear h0
            go_wp2_with (fail)
            go_meet
            exact ⟨rfl, L, rfl, HOwn, HBY⟩
          · have h0P : 0 < L.length := by omega
            obtain ⟨g, rfl⟩ : ∃ g, xa = some ⟨g, 0, none⟩ := by
              rcases HOwn.out.2 with ⟨hv, hh⟩ | ⟨g, cap, cur, hv, _⟩
              · exact absurd hh h0
              · cases hv
                exact ⟨g, rfl⟩
            have hgs := ownB_typ HOwn.out
            obtain ⟨cs, hcs, hgw⟩ := hgs
            obtain ⟨hq0, hq1⟩ := wthn_bounds at_ (L.length - 1)
            obtain ⟨q, hq⟩ : ∃ q : Nat, wthn at_ 0 ((L.length - 1 : Nat) : Int) = (q : Int) := ⟨_, (Int.toNat_of_nonneg hq0).symm⟩
            rw [hq] at hq0 hq1
            have hm1 : ((L.length - 1 : Nat) : Int) = (L.length : Int) - 1 := by omega
            rw [hm1] at hq
            have hqL : q < L.length := by omega
            have hx : ∃ x, L[q]? = some x := ⟨_, List.getElem?_eq_getElem hqL⟩
            obtain ⟨x, hx⟩ := hx
            have cq : Y.cell? ⟨g, q, none⟩ = some (.int .u8 (x.toNat : Int)) := by
              obtain ⟨a, c, hv, ⟨e, _⟩ | ⟨g', o', e, hs⟩⟩ := OwnB.by HOwn.out
              · cases hv; cases e
              · cases hv
                cases e
                have := hs q x hx
                rw [Nat.zero_add] at this
                exact this
            have fq : Y.frozen? ⟨g, q, none⟩ = false := Lib.frozen_of_heap hcs q
            have hxor : bits BinOp.xor IntKind.u8 (x.toNat : Int) (tb.toNat : Int) = ((x ^^^ tb).toNat : Int) := by
              rw [u8_xor_nat _ _ x.toNat_lt tb.toNat_lt, UInt8.toNat_xor]
            have HSt := Lib.hid (ownB_set (k := q) (y := x ^^^ tb) HOwn.out)
            have HBSt := Lib.hid (HBY.out.grown (grown_set Y g q (.int .u8 ((x ^^^ tb).toNat : Int))) HBY.out.size (fun k hk => by cases hk; exact hgw))
            have hq0' : (0 : Int) ≤ (q : Int) := by omega
            have hqL' : (q : Int) < (L.length : Int) := by omega
            clear hcs hx h0 hq1
            go_wp2_with (fail)
            refine (within_any at_ 0 ((L.length : Int) - 1) Y (by omega) (by omega) (by omega)).mono ?_
            rintro e Y' ⟨rfl, rfl⟩
            rw [hq]
            clear hq
            go_wp2_with (fail)
            go_meet
            exact ⟨rfl, L.set q (x ^^^ tb), by simp, HSt, HBSt⟩
        case rest =>
        obtain ⟨rfl, L', hL', HOx, HBx⟩ := hcut
        generalize hX : wc = X at *
        clear hX
        have hL'l : L'.length ≤ 63540 := by omega
        have HLl := Lib.hid hL'
        go_upto_if 57 with (fail)
        go_cut [0] (fun v wx => v = .slice ba bs.length bc ∧ X = wx)
        case first =>
          by_cases h : 1000 < bn
          · have HLb := Lib.hid (HN.out.2 h)
            have h1000c : 1000 ≤ bc := by omega
            go_wp2_with (fail)
            go_meet
            exact ⟨by rw [HLb.out], rfl⟩
          · have HLb := Lib.hid (HN.out.1 (by omega))
            go_wp2_with (fail)
            go_meet
            exact ⟨by rw [HLb.out], rfl⟩
        case rest =>
        obtain ⟨rfl, rfl⟩ := hcut
        have HByX := Lib.hid (HBy.out.below HBx.out)
        have hBXs := HBx.out.size
        have hown0 : X.ownsRow w.heap.size 5 1 (.slice xa L.length xc) L.length (Lib.byteCells L') := by
          have := HOx.out
          unfold OwnB at this
          rw [hL'] at this
          exact this
        have HOx0 := Lib.hid hown0
        clear hL' hown0
        go_wp2_with (at_builtin; refine wpList_append_by _ rfl _ _ 22 rfl 5 j0 Tryz.underlying22 hj hy0 hy1 hy2 w.heap.size (.slice xa L.length xc) L.length (Lib.byteCells L') rfl HOx0.out (.slice ba bs.length bc) bs rfl HByX.out ?c1 ?c2 ?_)
        case c1 => omega
        case c2 => exact hBXs
        intro v1 w1 ho1 hg1 _
        obtain ⟨M, hM⟩ : ∃ M, L' ++ bs = M := ⟨_, rfl⟩
        have hMl : M.length = L.length + bs.length := by rw [← hM, List.length_append, HLl.out]
        have hown1 : OwnB w.heap.size v1 M w1 := by
          unfold OwnB
          rw [hMl, ← hM, Lib.byteCells_append]
          exact ho1
        have HB1 := Lib.hid (HBx.out.grown hg1 hBXs (fun g hg => (HOx0.out.lt g hg).1))
        obtain ⟨xa1, xc1, rfl⟩ : ∃ a c, v1 = .slice a M.length c := by
          obtain ⟨a, c, hv, _⟩ := OwnB.by hown1
          exact ⟨a, c, hv⟩
        have hMs : M.length ≤ 64540 := by omega
        have HOwn1 := Lib.hid hown1
        have HT1 := Lib.hid (tab_below HTab.out HB1.out)
        clear ho1 hg1 hown1 hM hMl
        go_wp2_with (fail)
        refine (roomy_any _ M w1 (OwnB.by HOwn1.out) (by omega)).mono ?_
        rintro e w2 ⟨⟨g, rfl, hfull⟩, hb2⟩
        have HF2 := Lib.hid hfull
        have HB2 := Lib.hid (HB1.out.trans (hb2.mono HB1.out.size))
        have HOwn2 := Lib.hid (show OwnB w.heap.size (.slice xa1 M.length xc1) M w2 from row_kept HOwn1.out (fun g _ hg => hb2.block g hg))
        obtain ⟨N, hN⟩ : ∃ N, M.length + 80 = N := ⟨_, rfl⟩
        rw [hN] at HF2
        have HNn := Lib.hid hN
        have hNM : (M.length : Int) ≤ (N : Int) := by omega
        rw [hN]
        clear hfull hb2 hN
        go_wp2_with (fail)
        have htk := by_take HF2.out (m := M.length) (by unfold roomy; rw [List.length_append]; omega)
        rw [show (roomy M 165).take M.length = M by unfold roomy; rw [List.take_append_of_le_length (Nat.le_refl _), List.take_length]] at htk
        refine (decode_any _ M w2 htk (by omega)).mono ?_
        rintro e w3 ⟨vd, rfl, hOd, hb3⟩
        have HOd := Lib.hid hOd
        have HB3 := Lib.hid (HB2.out.trans (hb3.mono HB2.out.size))
        have HF3 := Lib.hid (HF2.out.below hb3)
        have HOwn3 := Lib.hid (show OwnB w.heap.size (.slice xa1 M.length xc1) M w3 from row_kept HOwn2.out (fun g _ hg => hb3.block g hg))
        clear htk hOd hb3
        go_wp2_with (fail)
        refine (items_any _ M w.heap.size w3 HOwn3.out (by omega)).mono ?_
        rintro e w4 ⟨vi, rfl, hOi, hb4⟩
        have HIi := Lib.hid hOi.its
        have HId := Lib.hid (HOd.out.below hb4).its
        have HB4 := Lib.hid (HB3.out.trans (hb4.mono HB3.out.size))
        have HF4 := Lib.hid (HF3.out.below hb4)
        have HOwn4 := Lib.hid (show OwnB w.heap.size (.slice xa1 M.length xc1) M w4 from row_kept HOwn3.out (fun g _ hg => hb4.block g hg))
        have hDl : (decP M).length ≤ 2048 := decL_most _ _ _
        clear hOi hb4
        go_wp2_with (fail)
        refine (keepItems_any vd vi (decP M) w4 HId.out HIi.out (by omega)).mono ?_
        rintro e w5 ⟨rfl, hb5⟩
        have HB5 := Lib.hid (HB4.out.trans (hb5.mono HB4.out.size))
        have HF5 := Lib.hid (HF4.out.below hb5)
        have HOwn5 := Lib.hid (show OwnB w.heap.size (.slice xa1 M.length xc1) M w5 from row_kept HOwn4.out (fun g _ hg => hb5.block g hg))
        clear hb5
        go_wp2_with (fail)
        refine (intact_any g N _ M w5 HF5.out (OwnB.by HOwn5.out) HNn.out (by omega)).mono ?_
        rintro e w6 ⟨rfl, hb6⟩
        have HB6 := Lib.hid (HB5.out.trans (hb6.mono HB5.out.size))
        clear hb6
        go_wp2_with (fail)
        refine (known_tab w6 (tab_below HTab.out HB6.out)).mono ?_
        rintro e w7 ⟨rfl, hb7⟩
        have HB7 := Lib.hid (HB6.out.trans (hb7.mono HB6.out.size))
        clear hb7
        go_wp2_with (fail)
        go_ret
        exact ⟨rfl, HB7.out⟩
      · have hkB : decide ((k : Int) < (l.length : Int)) = false := by simp; omega
        clear key
        go_wp2_with (fail)
        refine (bytes_any _ sel wr HIt.out (by omega) HAl.out).mono ?_
        rintro e Y ⟨xv, rfl, hown, hbY⟩
        obtain ⟨L, hLe⟩ : ∃ L, itsB sel = L := ⟨_, rfl⟩
        have hlenL := itsB_len sel HAl.out
        rw [hLe] at hown hlenL
        have HBY := Lib.hid (HBw.out.trans (hbY.mono HBw.out.size))
        obtain ⟨xa, xc, rfl⟩ : ∃ a c, xv = .slice a L.length c := by
          obtain ⟨a, c, hv, _⟩ := OwnB.by hown
          exact ⟨a, c, hv⟩
        have HOwn := Lib.hid (OwnB.mono hown HBw.out.size)
        clear hbY hown hLe
        go_upto_if 40 with (fail)
        go_cut [11] (fun v wx => v = .slice xa L.length xc ∧ ∃ L' : List UInt8, L'.length = L.length ∧ Hid (OwnB w.heap.size (.slice xa L.length xc) L' wx) ∧ Hid (Below w.heap.size w wx))
        case first =>
          by_cases h0 : L.length = 0
          · have h0P : ¬ 0 < L.length := by omega
            have H0 := Lib.hid h0
            clear h0
            go_wp2_with (fail)
            go_meet
            exact ⟨rfl, L, rfl, HOwn, HBY⟩
          · have h0P : 0 < L.length := by omega
            obtain ⟨g, rfl⟩ : ∃ g, xa = some ⟨g, 0, none⟩ := by
              rcases HOwn.out.2 with ⟨hv, hh⟩ | ⟨g, cap, cur, hv, _⟩
              · exact absurd hh h0
              · cases hv
                exact ⟨g, rfl⟩
            have hgs := ownB_typ HOwn.out
            obtain ⟨cs, hcs, hgw⟩ := hgs
            obtain ⟨hq0, hq1⟩ := wthn_bounds at_ (L.length - 1)
            obtain ⟨q, hq⟩ : ∃ q : Nat, wthn at_ 0 ((L.length - 1 : Nat) : Int) = (q : Int) := ⟨_, (Int.toNat_of_nonneg hq0).symm⟩
            rw [hq] at hq0 hq1
            have hm1 : ((L.length - 1 : Nat) : Int) = (L.length : Int) - 1 := by omega
            rw [hm1] at hq
            have hqL : q < L.length := by omega
            have hx : ∃ x, L[q]? = some x := ⟨_, List.getElem?_eq_getElem hqL⟩
            obtain ⟨x, hx⟩ := hx
            have cq : Y.cell? ⟨g, q, none⟩ = some (.int .u8 (x.toNat : Int)) := by
              obtain ⟨a, c, hv, ⟨e, _⟩ | ⟨g', o', e, hs⟩⟩ := OwnB.by HOwn.out
              · cases hv; cases e
              · cases hv
                cases e
                have := hs q x hx
                rw [Nat.zero_add] at this
                exact this
            have fq : Y.frozen? ⟨g, q, none⟩ = false := Lib.frozen_of_heap hcs q
            have hxor : bits BinOp.xor IntKind.u8 (x.toNat : Int) (tb.toNat : Int) = ((x ^^^ tb).toNat : Int) := by
              rw [u8_xor_nat _ _ x.toNat_lt tb.toNat_lt, UInt8.toNat_xor]
            have HSt := Lib.hid (ownB_set (k := q) (y := x ^^^ tb) HOwn.out)
            have HBSt := Lib.hid (HBY.out.grown (grown_set Y g q (.int .u8 ((x ^^^ tb).toNat : Int))) HBY.out.size (fun k hk => by cases hk; exact hgw))
            have hq0' : (0 : Int) ≤ (q : Int) := by omega
            have hqL' : (q : Int) < (L.length : Int) := by omega
            clear hcs hx h0 hq1
            go_wp2_with (fail)
            refine (within_any at_ 0 ((L.length : Int) - 1) Y (by omega) (by omega) (by omega)).mono ?_
            rintro e Y' ⟨rfl, rfl⟩
            rw [hq]
            clear hq
            go_wp2_with (fail)
            go_meet
            exact ⟨rfl, L.set q (x ^^^ tb), by simp, HSt, HBSt⟩
        case rest =>
        obtain ⟨rfl, L', hL', HOx, HBx⟩ := hcut
        generalize hX : wc = X at *
        clear hX
        have hL'l : L'.length ≤ 63540 := by omega
        have HLl := Lib.hid hL'
        go_upto_if 57 with (fail)
        go_cut [0] (fun v wx => v = .slice ba bs.length bc ∧ X = wx)
        case first =>
          by_cases h : 1000 < bn
          · have HLb := Lib.hid (HN.out.2 h)
            have h1000c : 1000 ≤ bc := by omega
            go_wp2_with (fail)
            go_meet
            exact ⟨by rw [HLb.out], rfl⟩
          · have HLb := Lib.hid (HN.out.1 (by omega))
            go_wp2_with (fail)
            go_meet
            exact ⟨by rw [HLb.out], rfl⟩
        case rest =>
        obtain ⟨rfl, rfl⟩ := hcut
        have HByX := Lib.hid (HBy.out.below HBx.out)
        have hBXs := HBx.out.size
        have hown0 : X.ownsRow w.heap.size 5 1 (.slice xa L.length xc) L.length (Lib.byteCells L') := by
          have := HOx.out
          unfold OwnB at this
          rw [hL'] at this
          exact this
        have HOx0 := Lib.hid hown0
        clear hL' hown0
        go_wp2_with (at_builtin; refine wpList_append_by _ rfl _ _ 22 rfl 5 j0 Tryz.underlying22 hj hy0 hy1 hy2 w.heap.size (.slice xa L.length xc) L.length (Lib.byteCells L') rfl HOx0.out (.slice ba bs.length bc) bs rfl HByX.out ?c1 ?c2 ?_)
        case c1 => omega
        case c2 => exact hBXs
        intro v1 w1 ho1 hg1 _
        obtain ⟨M, hM⟩ : ∃ M, L' ++ bs = M := ⟨_, rfl⟩
        have hMl : M.length = L.length + bs.length := by rw [← hM, List.length_append, HLl.out]
        have hown1 : OwnB w.heap.size v1 M w1 := by
          unfold OwnB
          rw [hMl, ← hM, Lib.byteCells_append]
          exact ho1
        have HB1 := Lib.hid (HBx.out.grown hg1 hBXs (fun g hg => (HOx0.out.lt g hg).1))
        obtain ⟨xa1, xc1, rfl⟩ : ∃ a c, v1 = .slice a M.length c := by
          obtain ⟨a, c, hv, _⟩ := OwnB.by hown1
          exact ⟨a, c, hv⟩
        have hMs : M.length ≤ 64540 := by omega
        have HOwn1 := Lib.hid hown1
        have HT1 := Lib.hid (tab_below HTab.out HB1.out)
        clear ho1 hg1 hown1 hM hMl
        go_wp2_with (fail)
        refine (roomy_any _ M w1 (OwnB.by HOwn1.out) (by omega)).mono ?_
        rintro e w2 ⟨⟨g, rfl, hfull⟩, hb2⟩
        have HF2 := Lib.hid hfull
        have HB2 := Lib.hid (HB1.out.trans (hb2.mono HB1.out.size))
        have HOwn2 := Lib.hid (show OwnB w.heap.size (.slice xa1 M.length xc1) M w2 from row_kept HOwn1.out (fun g _ hg => hb2.block g hg))
        obtain ⟨N, hN⟩ : ∃ N, M.length + 80 = N := ⟨_, rfl⟩
        rw [hN] at HF2
        have HNn := Lib.hid hN
        have hNM : (M.length : Int) ≤ (N : Int) := by omega
        rw [hN]
        clear hfull hb2 hN
        go_wp2_with (fail)
        have htk := by_take HF2.out (m := M.length) (by unfold roomy; rw [List.length_append]; omega)
        rw [show (roomy M 165).take M.length = M by unfold roomy; rw [List.take_append_of_le_length (Nat.le_refl _), List.take_length]] at htk
        refine (decode_any _ M w2 htk (by omega)).mono ?_
        rintro e w3 ⟨vd, rfl, hOd, hb3⟩
        have HOd := Lib.hid hOd
        have HB3 := Lib.hid (HB2.out.trans (hb3.mono HB2.out.size))
        have HF3 := Lib.hid (HF2.out.below hb3)
        have HOwn3 := Lib.hid (show OwnB w.heap.size (.slice xa1 M.length xc1) M w3 from row_kept HOwn2.out (fun g _ hg => hb3.block g hg))
        clear htk hOd hb3
        go_wp2_with (fail)
        refine (items_any _ M w.heap.size w3 HOwn3.out (by omega)).mono ?_
        rintro e w4 ⟨vi, rfl, hOi, hb4⟩
        have HIi := Lib.hid hOi.its
        have HId := Lib.hid (HOd.out.below hb4).its
        have HB4 := Lib.hid (HB3.out.trans (hb4.mono HB3.out.size))
        have HF4 := Lib.hid (HF3.out.below hb4)
        have HOwn4 := Lib.hid (show OwnB w.heap.size (.slice xa1 M.length xc1) M w4 from row_kept HOwn3.out (fun g _ hg => hb4.block g hg))
        have hDl : (decP M).length ≤ 2048 := decL_most _ _ _
        clear hOi hb4
        go_wp2_with (fail)
        refine (keepItems_any vd vi (decP M) w4 HId.out HIi.out (by omega)).mono ?_
        rintro e w5 ⟨rfl, hb5⟩
        have HB5 := Lib.hid (HB4.out.trans (hb5.mono HB4.out.size))
        have HF5 := Lib.hid (HF4.out.below hb5)
        have HOwn5 := Lib.hid (show OwnB w.heap.size (.slice xa1 M.length xc1) M w5 from row_kept HOwn4.out (fun g _ hg => hb5.block g hg))
        clear hb5
        go_wp2_with (fail)
        refine (intact_any g N _ M w5 HF5.out (OwnB.by HOwn5.out) HNn.out (by omega)).mono ?_
        rintro e w6 ⟨rfl, hb6⟩
        have HB6 := Lib.hid (HB5.out.trans (hb6.mono HB5.out.size))
        clear hb6
        go_wp2_with (fail)
        refine (known_tab w6 (tab_below HTab.out HB6.out)).mono ?_
        rintro e w7 ⟨rfl, hb7⟩
        have HB7 := Lib.hid (HB6.out.trans (hb7.mono HB6.out.size))
        clear hb7
        go_wp2_with (fail)
        go_ret
        exact ⟨rfl, HB7.out⟩

theorem shellReads_row (a : Option Addr) (n c : Nat) (l : List ItT) (at_ : Int) (tb : UInt8) (ba : Option Addr) (bn bc : Nat) (bs : List UInt8) (W : World) (hnc : n ≤ c) (hln : l.length = n) (hat : n = 0 ∨ ∃ b o, a = some ⟨b, o, none⟩ ∧ b < W.heap.size ∧ ∀ j z, l[j]? = some z → ItAt W b (o + j * 8) z)
    (hbnc : bn ≤ bc) (hb : ByAt W (.slice ba bn bc) bs) (htab : Lib.TabIs Tryz.prog W tabName .u64 Lib.pow10Tab) :
    Calls Tryz.prog 3 #[.slice ba bn bc, .slice a n c, .int .i64 at_, .int .u8 (tb.toNat : Int)] W fun e w' => e = .returned (.bool true) ∧ Below W.heap.size W w' := by
  subst hln
  have hbl : bs.length = bn := by
    obtain ⟨_, _, hv, _⟩ := hb
    cases hv
    rfl
  refine shellReads_cut a l.length c l at_ tb ba bn bc (bs.take 1000) W rfl hnc ⟨a, c, rfl, hnc, hat⟩ (fun h => by rw [List.length_take]; omega) (fun h => by rw [List.length_take]; omega) hbnc ?_ htab
  have h5 : (bs.take 1000).length ≤ bs.length := by rw [List.length_take]; omega
  have := by_take (m := (bs.take 1000).length) hb h5
  rw [show bs.take (bs.take 1000).length = bs.take 1000 by rw [List.length_take]; exact List.take_eq_take_iff.2 (by omega)] at this
  exact this
end Go.Proofs.YtekggipkfmleoaaGreatDoor

