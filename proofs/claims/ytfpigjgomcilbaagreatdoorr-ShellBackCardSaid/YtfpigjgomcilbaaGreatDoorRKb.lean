/- conclavekeep.Ops, Item, Items; the law ShellBack. -/
import Derived.Test.YtfpigjgomcilbaaGreatDoorREa
import Derived.Deep.QuietTactic
import Derived.BigQuiet
import Derived.Deep.RegionLaw
import Derived.Test.YtfpigjgomcilbaaGreatDoorRDa
import Derived.Test.YtfpigjgomcilbaaGreatDoorRSk
import Derived.Deep.CutBlock
import Derived.Deep.DeepCutAuto
set_option linter.unusedVariables false
set_option linter.unusedSimpArgs false
namespace Go.Proofs.YtfpigjgomcilbaaGreatDoorR
open Go.RowKit

set_option maxHeartbeats 4000000 in
set_option maxRecDepth 100000 in
theorem keepOps_any (va vb : Value) (l : List OpT) (w : World) (ha : OpsAt w va l) (hb : OpsAt w vb l) :
    Calls Tryz.prog 29 #[va, vb] w fun e w' => e = .returned (.bool true) ∧ Below w.heap.size w w' := by
  obtain ⟨a, c, rfl, hlc, hcm, ha⟩ := ha
  obtain ⟨a', c', rfl, hlc', hcm', hb⟩ := hb
  have hm : c ≤ 9223372036854775807 := by unfold maxLen at hcm; omega
  have HA := Lib.hid ha
  have HB := Lib.hid hb
  clear ha hb
  go_enter Tryz.func29, Tryz.ntmps29
  go_wp2_with (fail)
  go_loopw [5] (fun i wr => ∃ k : Nat, i = .int .i64 k ∧ k ≤ l.length ∧ Below w.heap.size w wr) (fun i _ => l.length - (intOf i).toNat)
  case atStart => exact ⟨0, rfl, by omega, Below.refl _ _⟩
  case round =>
    obtain ⟨k, rfl, hk, hbw⟩ := hrel
    by_cases hlt : k < l.length
    · have ho : ∃ o, l[k]? = some o := ⟨_, List.getElem?_eq_getElem hlt⟩
      obtain ⟨o, ho⟩ := ho
      rcases HA.out with h0 | ⟨b1, o1, rfl, hb1, hs1⟩
      · omega
      rcases HB.out with h0 | ⟨b2, o2, rfl, hb2, hs2⟩
      · omega
      obtain ⟨d0, d1, d2, d3⟩ := hs1 k o ho
      obtain ⟨g0, g1, g2, g3⟩ := hs2 k o ho
      have c0 := (hbw.cell (p := ⟨b1, o1 + k * 4, none⟩) hb1).trans d0
      have c1 := (hbw.cell (p := ⟨b1, o1 + k * 4 + 1, none⟩) hb1).trans d1
      have c2 := (hbw.cell (p := ⟨b1, o1 + k * 4 + 2, none⟩) hb1).trans d2
      have c3 := (hbw.cell (p := ⟨b1, o1 + k * 4 + 3, none⟩) hb1).trans d3
      have e0 := (hbw.cell (p := ⟨b2, o2 + k * 4, none⟩) hb2).trans g0
      have e1 := (hbw.cell (p := ⟨b2, o2 + k * 4 + 1, none⟩) hb2).trans g1
      have e2 := (hbw.cell (p := ⟨b2, o2 + k * 4 + 2, none⟩) hb2).trans g2
      have e3 := (hbw.cell (p := ⟨b2, o2 + k * 4 + 3, none⟩) hb2).trans g3
      have HS1 := Lib.hid hs1
      have HS2 := Lib.hid hs2
      have HBw := Lib.hid hbw
      clear hs1 hs2 d0 d1 d2 d3 g0 g1 g2 g3 ho hbw
      go_wp2
      go_quiet (fail)
      go_wp2
      go_roundw
      case rel => exact ⟨k + 1, by simp, by omega, ⟨HBw.out.os, HBw.out.tape, HBw.out.output, HBw.out.size, HBw.out.block⟩⟩
      case measure => simp [intOf]; omega
    · obtain rfl : k = l.length := by omega
      have HBw := Lib.hid hbw; clear hbw
      go_wp2_with (fail)
      go_ret
      exact ⟨rfl, HBw.out⟩

set_option maxHeartbeats 4000000 in
set_option maxRecDepth 100000 in
theorem keepItem_any (va vb : Value) (x : ItT) (w : World) (ha : OpsAt w va x.ops) (hb : OpsAt w vb x.ops) :
    Calls Tryz.prog 18 #[.agg (itCells x va), .agg (itCells x vb)] w fun e w' => e = .returned (.bool true) ∧ Below w.heap.size w w' := by
  have b1 : Below w.heap.size w (w.alloc (.cells (itCells x va) 34)) := (Below.refl _ _).alloc (Nat.le_refl _) _
  have b2 : Below w.heap.size w ((w.alloc (.cells (itCells x va) 34)).alloc (.cells (itCells x vb) 34)) := b1.alloc b1.size _
  have HA := Lib.hid (ha.below b2)
  have HB := Lib.hid (hb.below b2)
  have HW := Lib.hid b2
  obtain ⟨a, c, rfl, _, _, _⟩ := ha
  obtain ⟨a', c', rfl, _, _, _⟩ := hb
  clear b1 b2
  unfold itCells at *
  go_enter Tryz.func18, Tryz.ntmps18
  go_wp2_with (fail)
  refine (keepOps_any _ _ x.ops _ HA.out HB.out).mono ?_
  rintro e w' ⟨rfl, hbw⟩
  have HBw := Lib.hid (HW.out.trans (hbw.mono HW.out.size))
  clear hbw
  go_wp2_with (fail)
  go_ret
  exact ⟨rfl, HBw.out⟩

set_option maxHeartbeats 4000000 in
set_option maxRecDepth 100000 in
theorem keepItems_any (va vb : Value) (l : List ItT) (w : World) (ha : ItsAt w va l) (hb : ItsAt w vb l) (hlm : l.length ≤ 4096) :
    Calls Tryz.prog 6 #[va, vb] w fun e w' => e = .returned (.bool true) ∧ Below w.heap.size w w' := by
  obtain ⟨a, c, rfl, hlc, ha⟩ := ha
  obtain ⟨a', c', rfl, hlc', hb⟩ := hb
  have HA := Lib.hid ha
  have HB := Lib.hid hb
  clear ha hb
  go_enter Tryz.func6, Tryz.ntmps6
  go_wp2_with (fail)
  go_loopw [5] (fun i wr => ∃ k : Nat, i = .int .i64 k ∧ k ≤ l.length ∧ Below w.heap.size w wr) (fun i _ => l.length - (intOf i).toNat)
  case atStart => exact ⟨0, rfl, by omega, Below.refl _ _⟩
  case round =>
    obtain ⟨k, rfl, hk, hbw⟩ := hrel
    by_cases hlt : k < l.length
    · have ho : ∃ o, l[k]? = some o := ⟨_, List.getElem?_eq_getElem hlt⟩
      obtain ⟨x, ho⟩ := ho
      rcases HA.out with h0 | ⟨b1, o1, rfl, hb1, hs1⟩
      · omega
      rcases HB.out with h0 | ⟨b2, o2, rfl, hb2, hs2⟩
      · omega
      obtain ⟨d0, d1, d2, d3, d4, d5, d6, v1, d7, hO1⟩ := hs1 k x ho
      obtain ⟨g0, g1, g2, g3, g4, g5, g6, v2, g7, hO2⟩ := hs2 k x ho
      have c0 := (hbw.cell (p := ⟨b1, o1 + k * 8, none⟩) hb1).trans d0
      have c1 := (hbw.cell (p := ⟨b1, o1 + k * 8 + 1, none⟩) hb1).trans d1
      have c2 := (hbw.cell (p := ⟨b1, o1 + k * 8 + 2, none⟩) hb1).trans d2
      have c3 := (hbw.cell (p := ⟨b1, o1 + k * 8 + 3, none⟩) hb1).trans d3
      have c4 := (hbw.cell (p := ⟨b1, o1 + k * 8 + 4, none⟩) hb1).trans d4
      have c5 := (hbw.cell (p := ⟨b1, o1 + k * 8 + 5, none⟩) hb1).trans d5
      have c6 := (hbw.cell (p := ⟨b1, o1 + k * 8 + 6, none⟩) hb1).trans d6
      have c7 := (hbw.cell (p := ⟨b1, o1 + k * 8 + 7, none⟩) hb1).trans d7
      have e0 := (hbw.cell (p := ⟨b2, o2 + k * 8, none⟩) hb2).trans g0
      have e1 := (hbw.cell (p := ⟨b2, o2 + k * 8 + 1, none⟩) hb2).trans g1
      have e2 := (hbw.cell (p := ⟨b2, o2 + k * 8 + 2, none⟩) hb2).trans g2
      have e3 := (hbw.cell (p := ⟨b2, o2 + k * 8 + 3, none⟩) hb2).trans g3
      have e4 := (hbw.cell (p := ⟨b2, o2 + k * 8 + 4, none⟩) hb2).trans g4
      have e5 := (hbw.cell (p := ⟨b2, o2 + k * 8 + 5, none⟩) hb2).trans g5
      have e6 := (hbw.cell (p := ⟨b2, o2 + k * 8 + 6, none⟩) hb2).trans g6
      have e7 := (hbw.cell (p := ⟨b2, o2 + k * 8 + 7, none⟩) hb2).trans g7
      have HO1 := Lib.hid (hO1.below hbw)
      have HO2 := Lib.hid (hO2.below hbw)
      obtain ⟨a1, q1, rfl, _, _, _⟩ := hO1
      obtain ⟨a2, q2, rfl, _, _, _⟩ := hO2
      have HS1 := Lib.hid hs1
      have HS2 := Lib.hid hs2
      have HBw := Lib.hid hbw
      clear hs1 hs2 d0 d1 d2 d3 d4 d5 d6 d7 g0 g1 g2 g3 g4 g5 g6 g7 ho hbw
      go_wp2
      go_region_law (go_simp; go_at_call 18; refine (keepItem_any _ _ x wr.drew HO1.out HO2.out).mono ?_; rintro e w' ⟨rfl, hb2⟩)
      all_goals
        go_wp2
        go_roundw
        case rel => exact ⟨k + 1, by simp, by omega, HBw.out.trans ((show Below wr.heap.size wr _ from ⟨hb2.os, hb2.tape, hb2.output, hb2.size, hb2.block⟩).mono HBw.out.size)⟩
        case measure => simp [intOf]; omega
    · obtain rfl : k = l.length := by omega
      have HBw := Lib.hid hbw; clear hbw
      go_wp2_with (fail)
      go_ret
      exact ⟨rfl, HBw.out⟩
end Go.Proofs.YtfpigjgomcilbaaGreatDoorR

namespace Go.Proofs.YtfpigjgomcilbaaGreatDoorR
open Go.RowKit Go.Ev

set_option maxHeartbeats 8000000 in
set_option maxRecDepth 100000 in
theorem shellBack_cut (a : Option Addr) (n c : Nat) (l : List ItT) (w : World) (hn1 : n ≤ 60 → l.length = n) (hn2 : 60 < n → l.length = 60) (hnc : n ≤ c) (hI0 : ItsAt w (.slice a l.length c) l) (htab : Lib.TabIs Tryz.prog w tabName .u64 Lib.pow10Tab) :
    Calls Tryz.prog 3 #[.slice a n c] w fun e w' => e = .returned (.bool true) ∧ Below w.heap.size w w' := by
  have h60 : l.length ≤ 60 := by
    by_cases h : n ≤ 60
    · rw [hn1 h]; exact h
    · rw [hn2 (by omega)]; exact Nat.le_refl _
  have HI := Lib.hid hI0
  have HTab := Lib.hid htab; clear htab hI0
  have HN := Lib.hid (And.intro hn1 hn2); clear hn1 hn2
  go_enter Tryz.func3, Tryz.ntmps3
  go_upto_if 7 with (fail)
  go_cut [0] (fun v wx => v = .slice a l.length c ∧ w = wx)
  case first =>
    by_cases h : 60 < n
    · have HL := Lib.hid (HN.out.2 h)
      have h60c : 60 ≤ c := by omega
      go_wp2_with (fail)
      go_meet
      exact ⟨by rw [HL.out], rfl⟩
    · have HL := Lib.hid (HN.out.1 (by omega))
      go_wp2_with (fail)
      go_meet
      exact ⟨by rw [HL.out], rfl⟩
  case rest =>
  obtain ⟨rfl, rfl⟩ := hcut
  go_wp2_with (fail)
  refine (encode_any _ l w HI.out (by omega)).mono ?_
  rintro e Y ⟨hpost, hbY⟩
  have HBY := Lib.hid hbY
  have HIY := Lib.hid (HI.out.below hbY)
  have HTY := Lib.hid (tab_below HTab.out hbY)
  clear hbY
  rcases hpost with ⟨hall, v', rfl, hown⟩ | ⟨hall, rfl⟩
  · have HAll := Lib.hid hall
    have HBy := Lib.hid (ByAt.of_own hown)
    have hlen := itsB_len l hall
    clear hall hown
    go_wp2_with (fail)
    refine (decode_any v' (itsB l) Y HBy.out (by omega)).mono ?_
    rintro e Z ⟨vd, rfl, hO, hbZ⟩
    rw [decP_its HAll.out (by omega)] at hO
    have HD := Lib.hid hO.its
    have HIZ := Lib.hid (HIY.out.below hbZ)
    have HBZ := Lib.hid (HBY.out.trans (hbZ.mono HBY.out.size))
    have HTZ := Lib.hid (tab_below HTY.out hbZ)
    clear hO hbZ
    go_wp2_with (fail)
    refine (keepItems_any vd _ l Z HD.out HIZ.out (by omega)).mono ?_
    rintro e X ⟨rfl, hbX⟩
    have HBX := Lib.hid (HBZ.out.trans (hbX.mono HBZ.out.size))
    have HTX := Lib.hid (tab_below HTZ.out hbX)
    clear hbX
    go_wp2_with (fail)
    refine (known_tab X HTX.out).mono ?_
    rintro e V ⟨rfl, hbV⟩
    have HBV := Lib.hid (HBX.out.trans (hbV.mono HBX.out.size))
    clear hbV
    go_wp2_with (fail)
    go_ret
    exact ⟨rfl, HBV.out⟩
  · clear hall
    go_wp2_with (fail)
    refine (known_tab Y HTY.out).mono ?_
    rintro e V ⟨rfl, hbV⟩
    have HBV := Lib.hid (HBY.out.trans (hbV.mono HBY.out.size))
    clear hbV
    go_wp2_with (fail)
    go_ret
    exact ⟨rfl, HBV.out⟩

theorem shellBack_row (a : Option Addr) (n c : Nat) (l : List ItT) (W : World) (hnc : n ≤ c) (hln : l.length = n) (hat : n = 0 ∨ ∃ b o, a = some ⟨b, o, none⟩ ∧ b < W.heap.size ∧ ∀ j z, l[j]? = some z → ItAt W b (o + j * 8) z)
    (htab : Lib.TabIs Tryz.prog W tabName .u64 Lib.pow10Tab) :
    Calls Tryz.prog 3 #[.slice a n c] W fun e w' => e = .returned (.bool true) ∧ Below W.heap.size W w' := by
  refine shellBack_cut a n c (l.take 60) W (fun h => by rw [List.length_take]; omega) (fun h => by rw [List.length_take]; omega) hnc ⟨a, c, rfl, by rw [List.length_take]; omega, ?_⟩ htab
  rcases hat with h0 | ⟨b, o, rfl, hlt, hs⟩
  · exact .inl (by rw [List.length_take]; omega)
  · refine .inr ⟨b, o, rfl, hlt, fun j x hj => hs j x ?_⟩
    rw [List.getElem?_take] at hj
    split at hj
    · exact hj
    · cases hj
end Go.Proofs.YtfpigjgomcilbaaGreatDoorR

