/- ShellWrites: the law. -/
import Derived.Test.YtfchpilaomkhgaaGreatDoorBa
import Derived.Test.YtfchpilaomkhgaaGreatDoorEa
import Derived.Test.YtfchpilaomkhgaaGreatDoorSk
import Derived.Deep.RegionHeld3
import Derived.Deep.CutBlock
import Derived.Deep.DeepCutAuto
set_option linter.unusedVariables false
set_option linter.unusedSimpArgs false
namespace Go.Proofs.YtfchpilaomkhgaaGreatDoor
open Go.RowKit Go.Ev

theorem conv_by2 {w : World} {v : Value} {L : List UInt8} {sx : ByteArray} (hs : (⟨L.toArray⟩ : ByteArray) = sx) (h : ByAt w v L) : (convert 22 9 v).run Tryz.prog w = .ok (.string sx) w := by
  rw [← hs]
  exact conv_own h
def KW (v' : Value) (L : List UInt8) (sx : ByteArray) (Y w' : World) : Prop :=
  ByAt w' v' L ∧ (convert 22 9 v').run Tryz.prog w' = .ok (.string sx) w' ∧ Lib.TabIs Tryz.prog w' tabName .u64 Lib.pow10Tab ∧ Below Y.heap.size Y w'
theorem keptD {Y : World} {v' : Value} {L : List UInt8} {sx : ByteArray} (hs : (⟨L.toArray⟩ : ByteArray) = sx) (h : ByAt Y v' L) (ht : Lib.TabIs Tryz.prog Y tabName .u64 Lib.pow10Tab) :
    ByAt Y.drew v' L ∧ (convert 22 9 v').run Tryz.prog Y.drew = .ok (.string sx) Y.drew ∧ Lib.TabIs Tryz.prog Y.drew tabName .u64 Lib.pow10Tab ∧ Below Y.heap.size Y Y.drew :=
  ⟨h, conv_by2 hs (show ByAt Y.drew v' L from h), ht, (Below.refl _ _).drew⟩
theorem keptW {n : Nat} {Y w1 w' : World} {v' : Value} {L : List UInt8} {sx : ByteArray} (hs : (⟨L.toArray⟩ : ByteArray) = sx) (hb : Below n w1 w')
    (h : ByAt w1 v' L ∧ (convert 22 9 v').run Tryz.prog w1 = .ok (.string sx) w1 ∧ Lib.TabIs Tryz.prog w1 tabName .u64 Lib.pow10Tab ∧ Below Y.heap.size Y w1) (hn : n = w1.heap.size) :
    ByAt w' v' L ∧ (convert 22 9 v').run Tryz.prog w' = .ok (.string sx) w' ∧ Lib.TabIs Tryz.prog w' tabName .u64 Lib.pow10Tab ∧ Below Y.heap.size Y w' := by
  subst hn
  have h1 := h.1.below hb
  exact ⟨h1, conv_by2 hs h1, tab_below h.2.2.1 hb, h.2.2.2.trans (hb.mono h.2.2.2.size)⟩
theorem tabW {p q r : Prop} {w' : World} (h : p ∧ q ∧ Lib.TabIs Tryz.prog w' tabName .u64 Lib.pow10Tab ∧ r) : Lib.TabIs Tryz.prog w' tabName .u64 Lib.pow10Tab := h.2.2.1
theorem belowW {p q r : Prop} {Y w' : World} (h : p ∧ q ∧ r ∧ Below Y.heap.size Y w') : Below Y.heap.size Y w' := h.2.2.2

set_option maxHeartbeats 8000000 in
set_option maxRecDepth 100000 in
theorem shellWrites_cut (a : Option Addr) (n c : Nat) (l : List ItT) (w : World) (hn1 : n ≤ 40 → l.length = n) (hn2 : 40 < n → l.length = 40) (hnc : n ≤ c) (hI0 : ItsAt w (.slice a l.length c) l) (htab : Lib.TabIs Tryz.prog w tabName .u64 Lib.pow10Tab) :
    Calls Tryz.prog 4 #[.slice a n c] w fun e w' => e = .returned (.bool true) ∧ Below w.heap.size w w' := by
  have h40 : l.length ≤ 40 := by
    by_cases h : n ≤ 40
    · rw [hn1 h]; exact h
    · rw [hn2 (by omega)]; exact Nat.le_refl _
  have HI0 := Lib.hid hI0
  obtain ⟨a', c', hv, hlc, hI⟩ := hI0
  cases hv
  have HI := Lib.hid hI; clear hI
  have HTab := Lib.hid htab; clear htab
  have HN := Lib.hid (And.intro hn1 hn2); clear hn1 hn2
  go_enter Tryz.func4, Tryz.ntmps4
  go_upto_if 9 with (fail)
  go_cut [0] (fun v wx => v = .slice a l.length c ∧ w = wx)
  case first =>
    by_cases h : 40 < n
    · have HL := Lib.hid (HN.out.2 h)
      have h40c : 40 ≤ c := by omega
      go_wp2_with (fail)
      go_meet
      exact ⟨by rw [HL.out], rfl⟩
    · have HL := Lib.hid (HN.out.1 (by omega))
      go_wp2_with (fail)
      go_meet
      exact ⟨by rw [HL.out], rfl⟩
  case rest =>
  obtain ⟨rfl, rfl⟩ := hcut
  go_wp2_with (fail)
  go_loopw [3, 4] (fun okv i wr => ∃ (k : Nat) (q : Bool), okv = .bool q ∧ i = .int .i64 k ∧ k ≤ l.length ∧ Hid (q = (l.take k).all itOk) ∧ Below w.heap.size w wr) (fun _ i _ => l.length - (intOf i).toNat)
  case atStart => exact ⟨0, true, rfl, rfl, by omega, Lib.hid rfl, Below.refl _ _⟩
  case round =>
    obtain ⟨k, q, rfl, rfl, hk, HQ, hbw⟩ := hrel
    by_cases hlt : k < l.length
    · have hx : ∃ x, l[k]? = some x := ⟨_, List.getElem?_eq_getElem hlt⟩
      obtain ⟨x, hx⟩ := hx
      have hsnoc : (l.take (k + 1)).all itOk = ((l.take k).all itOk && itOk x) := by
        rw [List.take_add_one, hx, List.all_append]
        simp
      have HSn := Lib.hid hsnoc; clear hsnoc
      cases q with
      | false =>
        clear hx
        go_wp2_with (fail)
        go_roundw
        case rel => exact ⟨k + 1, false, rfl, by simp, by omega, Lib.hid (by rw [HSn.out, ← HQ.out]; rfl), hbw⟩
        case measure => simp [intOf]; omega
      | true =>
        rcases HI.out with h0 | ⟨ib, io, rfl, hib, his⟩
        · omega
        obtain ⟨d0, d1, d2, d3, d4, d5, d6, vo, d7, hO⟩ := his k x hx
        have c0 := (hbw.cell (p := ⟨ib, io + k * 8, none⟩) hib).trans d0
        have c1 := (hbw.cell (p := ⟨ib, io + k * 8 + 1, none⟩) hib).trans d1
        have c2 := (hbw.cell (p := ⟨ib, io + k * 8 + 2, none⟩) hib).trans d2
        have c3 := (hbw.cell (p := ⟨ib, io + k * 8 + 3, none⟩) hib).trans d3
        have c4 := (hbw.cell (p := ⟨ib, io + k * 8 + 4, none⟩) hib).trans d4
        have c5 := (hbw.cell (p := ⟨ib, io + k * 8 + 5, none⟩) hib).trans d5
        have c6 := (hbw.cell (p := ⟨ib, io + k * 8 + 6, none⟩) hib).trans d6
        have c7 := (hbw.cell (p := ⟨ib, io + k * 8 + 7, none⟩) hib).trans d7
        have hOr := hO.below hbw
        have HO := Lib.hid hO
        obtain ⟨ao, co, rfl, hoc, hom, hO2⟩ := hO
        have HX := Lib.hid hx
        have HS := Lib.hid his
        have HBw := Lib.hid hbw
        clear his d0 d1 d2 d3 d4 d5 d6 d7 hO2 hx hbw
        go_wp2_with (fail)
        refine (right_any x _ wr hOr).mono ?_
        rintro e Y ⟨rfl, hbY⟩
        have HBY := Lib.hid hbY; clear hbY c0 c1 c2 c3 c4 c5 c6 c7
        go_wp2_with (fail)
        go_roundw
        case rel => exact ⟨k + 1, itOk x, rfl, by simp, by omega, Lib.hid (by rw [HSn.out, ← HQ.out]; rfl), HBw.out.trans (HBY.out.mono HBw.out.size)⟩
        case measure => simp [intOf]; omega
    · obtain rfl : k = l.length := by omega
      have hq : q = l.all itOk := by rw [HQ.out, List.take_length]
      have HQ2 := Lib.hid hq; clear hq
      have hIr := HI0.out.below hbw
      have HIr := Lib.hid hIr
      have HBw := Lib.hid hbw
      clear hIr hbw
      go_wp2_with (fail)
      refine (encode_any _ l wr HIr.out (by omega)).mono ?_
      rintro e Y ⟨hpost, hbY⟩
      have hwY := HBw.out.trans (hbY.mono HBw.out.size)
      have HWY := Lib.hid hwY
      have hIY := HIr.out.below hbY
      have HIY := Lib.hid hIY
      clear hbY hwY hIY
      rcases hpost with ⟨hall, v', rfl, hown⟩ | ⟨hall, rfl⟩
      · obtain rfl : q = true := by rw [HQ2.out]; exact hall
        have HAll := Lib.hid hall
        have HOwn := Lib.hid hown
        clear hall hown
        have hby : ByAt Y v' (itsB l) := ByAt.of_own HOwn.out
        obtain ⟨sx, hsx⟩ : ∃ sx : ByteArray, (⟨(itsB l).toArray⟩ : ByteArray) = sx := ⟨_, rfl⟩
        have HSx := Lib.hid hsx
        have hId : ItsAt Y.drew (.slice a l.length c) l := HIY.out
        have htY := tab_below HTab.out HWY.out
        have hcv1 : (convert 22 9 v').run Tryz.prog Y.drew = .ok (.string sx) Y.drew := conv_by2 hsx (show ByAt Y.drew v' (itsB l) from hby)
        have hbyd : ByAt Y.drew v' (itsB l) := hby
        have htyd : Lib.TabIs Tryz.prog Y.drew tabName .u64 Lib.pow10Tab := htY
        have HBd := Lib.hid hbyd
        have HTd := Lib.hid htyd
        have HId := Lib.hid hId
        clear hsx hby htY hbyd htyd hId
        go_wp2_with (fail)
        go_region_law (first
          | (go_simp; go_at_call 8; refine (bytes_any _ l Y.drew HId.out (by omega) HAll.out).mono ?_; rintro e w' ⟨v2, rfl, ho2, hb1⟩; have hcv2 := conv_by2 HSx.out (OwnB.by ho2); have hcv3 := conv_by2 HSx.out (HBd.out.below hb1))
          | (go_simp; go_at_call 15; refine (known_tab _ (tab_below HTd.out hb1)).mono ?_; rintro e w'' ⟨rfl, hb2⟩))
        all_goals
          go_wp2_with (fail)
          go_ret
          have hW1 : Below Y.heap.size Y _ := ⟨hb1.os, hb1.tape, hb1.output, hb1.size, hb1.block⟩
          exact ⟨rfl, HWY.out.trans ((hW1.trans (hb2.mono hW1.size)).mono HWY.out.size)⟩
      · obtain rfl : q = false := by rw [HQ2.out]; exact hall
        have HAll := Lib.hid hall; clear hall
        go_wp2_with (fail)
        refine (known_tab Y (tab_below HTab.out HWY.out)).mono ?_
        rintro e Z ⟨rfl, hbZ⟩
        have hwZ := HWY.out.trans (hbZ.mono HWY.out.size)
        go_wp2_with (fail)
        go_ret
        exact ⟨rfl, hwZ⟩

theorem shellWrites_row (a : Option Addr) (n c : Nat) (l : List ItT) (W : World) (hnc : n ≤ c) (hln : l.length = n) (hat : n = 0 ∨ ∃ b o, a = some ⟨b, o, none⟩ ∧ b < W.heap.size ∧ ∀ j z, l[j]? = some z → ItAt W b (o + j * 8) z)
    (htab : Lib.TabIs Tryz.prog W tabName .u64 Lib.pow10Tab) :
    Calls Tryz.prog 4 #[.slice a n c] W fun e w' => e = .returned (.bool true) ∧ Below W.heap.size W w' := by
  refine shellWrites_cut a n c (l.take 40) W (fun h => by rw [List.length_take]; omega) (fun h => by rw [List.length_take]; omega) hnc ⟨a, c, rfl, by rw [List.length_take]; omega, ?_⟩ htab
  rcases hat with h0 | ⟨b, o, rfl, hlt, hs⟩
  · exact .inl (by rw [List.length_take]; omega)
  · refine .inr ⟨b, o, rfl, hlt, fun j x hj => hs j x ?_⟩
    rw [List.getElem?_take] at hj
    split at hj
    · exact hj
    · cases hj
end Go.Proofs.YtfchpilaomkhgaaGreatDoor
