/- conclavekeep.Texts; Uses. -/
import Derived.Test.YtkmncmceheggjaaDoorGj
import Derived.Sort.OwnSorted
import Derived.Laws.AppendOwn
set_option linter.unusedVariables false
set_option linter.unusedSimpArgs false
namespace Go.Proofs.YtkmncmceheggjaaDoor
open Go.RowKit

set_option maxHeartbeats 4000000 in
set_option maxRecDepth 100000 in
theorem keepTexts_any (aa ab : Option Addr) (n ca cb : Nat) (l : List ByteArray) (w : World) (ha : Strs w aa n l) (hb : Strs w ab n l) (hn : n ≤ 4294967296) :
    Calls Tryd.prog 18 #[.slice aa n ca, .slice ab n cb] w fun e w' => e = .returned (.bool true) ∧ Below w.heap.size w w' := by
  obtain ⟨rfl, ha⟩ := ha
  obtain ⟨_, hb⟩ := hb
  have HA := Lib.hid ha
  have HB := Lib.hid hb
  clear ha hb
  go_enter Tryd.func18, Tryd.ntmps18
  go_wp2_with (fail)
  go_loopw [5] (fun i wr => ∃ k : Nat, i = .int .i64 k ∧ k ≤ l.length ∧ Below w.heap.size w wr) (fun i _ => l.length - (intOf i).toNat)
  case atStart => exact ⟨0, rfl, by omega, Below.refl _ _⟩
  case round =>
    obtain ⟨k, rfl, hk, hbw⟩ := hrel
    by_cases hlt : k < l.length
    · rcases HA.out with h0 | ⟨b1, o1, rfl, hb1, hs1⟩
      · omega
      rcases HB.out with h0 | ⟨b2, o2, rfl, hb2, hs2⟩
      · omega
      obtain ⟨x, hx⟩ : ∃ x, l.getD k ⟨#[]⟩ = x := ⟨_, rfl⟩
      have h1 := hs1 k hlt
      have h2 := hs2 k hlt
      rw [hx] at h1 h2
      have c0 := (hbw.cell (p := ⟨b1, o1 + k, none⟩) hb1).trans h1
      have e0 := (hbw.cell (p := ⟨b2, o2 + k, none⟩) hb2).trans h2
      have HBw := Lib.hid hbw
      clear hs1 hs2 h1 h2 hx hbw
      go_wp2
      go_quiet (fail)
      go_wp2
      go_roundw
      case rel => exact ⟨k + 1, by simp, by omega, ⟨HBw.out.os, HBw.out.tape, HBw.out.output, HBw.out.size, HBw.out.block⟩⟩
      case measure => simp [intOf]; omega
    · obtain rfl : k = l.length := by omega
      have HBw := Lib.hid hbw; clear hbw
      go_wp2_with (fail)
      go_ret
      exact ⟨rfl, HBw.out⟩

theorem infoS : (Tryd.prog.info? 9).map (fun i => (i.zero, i.size, i.bytes)) = some (some (.string ⟨#[]⟩), 1, 16) := by kernel_rfl
def namesW (l : List Wd) : List (List UInt8) := (l.map (·.2)).filter nameB
theorem namesW_snoc {l : List Wd} {k : Nat} {x : Wd} (h : l[k]? = some x) : namesW (l.take (k + 1)) = if nameB x.2 = true then namesW (l.take k) ++ [x.2] else namesW (l.take k) := by
  unfold namesW
  rw [List.take_add_one, h]
  simp only [Option.toList_some, List.map_append, List.map_cons, List.map_nil, List.filter_append, List.filter_cons, List.filter_nil]
  split <;> simp
theorem namesW_len (l : List Wd) : (namesW l).length ≤ l.length := by
  unfold namesW
  have := List.length_filter_le nameB (l.map (·.2))
  rw [List.length_map] at this
  exact this
def usesL (s : List UInt8) : List (List UInt8) := Lib.compact ((namesW (wordsL s)).mergeSort fun x y => decide (x ≤ y))
/-- texts that lie at the head of a block -/
theorem strs_of {w : World} {g n : Nat} {l : List (List UInt8)} (hg : g < w.heap.size) (hn : n = l.length) (h : ∀ j x, l[j]? = some x → w.cell? ⟨g, j, none⟩ = some (.string (S x))) : Strs w (some ⟨g, 0, none⟩) n (l.map S) := by
  refine ⟨by rw [List.length_map]; exact hn, .inr ⟨g, 0, rfl, hg, fun j hj => ?_⟩⟩
  rw [List.length_map] at hj
  have hx : ∃ x, l[j]? = some x := ⟨_, List.getElem?_eq_getElem hj⟩
  obtain ⟨x, hx⟩ := hx
  rw [Nat.zero_add, h j x hx]
  simp [List.getD, hx]
theorem compact_len (l : List (List UInt8)) : (Lib.compact l).length ≤ l.length := by
  unfold Lib.compact Lib.compactUpTo
  rw [List.length_map]
  have := List.length_filter_le (Lib.keeps l.toArray) (List.range l.length)
  rw [List.length_range] at this
  exact this

set_option maxHeartbeats 4000000 in
set_option maxRecDepth 100000 in
theorem uses_any (s : ByteArray) (w : World) (hs : s.size ≤ 4294967296) :
    Calls Tryd.prog 19 #[.string s] w fun e w' => (∃ a c, e = .returned (.slice a (usesL s.toList).length c) ∧ Strs w' a (usesL s.toList).length ((usesL s.toList).map S)) ∧ Below w.heap.size w w' := by
  obtain ⟨i0, hi0, hz0, hz1, hz2⟩ := info_parts infoS
  have hlen := bytes_len s
  have hwl := words_len s.toList
  rw [hlen] at hwl
  obtain ⟨ws, hws⟩ : ∃ ws, wordsL s.toList = ws := ⟨_, rfl⟩
  have hus : usesL s.toList = Lib.compact ((namesW ws).mergeSort fun x y => decide (x ≤ y)) := by unfold usesL; rw [hws]
  have HUs := Lib.hid hus
  have hwe := words_each s.toList
  rw [hws] at hwe hwl
  have HWe := Lib.hid hwe
  have HL := Lib.hid hlen
  clear hus hwe hlen
  go_enter Tryd.func19, Tryd.ntmps19
  go_wp2_with (fail)
  refine (words_any s w (by omega)).mono ?_
  rintro e w1 ⟨wv, rfl, hwv, hb1⟩
  rw [hws] at hwv
  obtain ⟨wa, wc, rfl, hwa⟩ : ∃ wa wc, wv = .slice wa ws.length wc ∧ (ws.length = 0 ∨ ∃ b, wa = some ⟨b, 0, none⟩ ∧ b < w1.heap.size ∧ WordsAt w1 b ws) := by
    rcases Nat.eq_zero_or_pos ws.length with h0 | h0
    · rcases hwv.2 with ⟨rfl, _⟩ | ⟨g, cap, cur, rfl, _⟩
      · exact ⟨none, 0, by rw [h0], .inl h0⟩
      · exact ⟨_, _, rfl, .inl h0⟩
    · obtain ⟨b, c, rfl, h1, h2, h3⟩ := words_lie hwv h0
      exact ⟨_, _, rfl, .inr ⟨b, rfl, h2, h3⟩⟩
  have HB1 := Lib.hid hb1
  have HWa := Lib.hid hwa
  have hz1' := hb1.size
  clear hwv hb1 hwa hws
  go_wp2_with (fail)
  go_loopw [3, 9] (fun ov iv wr => ∃ (k : Nat) (oa : Option Addr) (oc : Nat), ov = .slice oa (namesW (ws.take k)).length oc ∧ iv = .int .i64 k ∧ k ≤ ws.length ∧ Hid (wr.ownsRow w1.heap.size 9 1 (.slice oa (namesW (ws.take k)).length oc) (namesW (ws.take k)).length ((namesW (ws.take k)).map encStr)) ∧ Hid (Below w1.heap.size w1 wr)) (fun _ iv _ => ws.length - (intOf iv).toNat)
  case atStart => exact ⟨0, none, 0, rfl, rfl, by omega, Lib.hid ⟨rfl, .inl ⟨rfl, rfl⟩⟩, Lib.hid (Below.refl _ _)⟩
  case round =>
    obtain ⟨k, oa, oc, rfl, rfl, hk, HRow, HBw⟩ := hrel
    have hbw := HBw.out.size
    by_cases hlt : k < ws.length
    · rcases HWa.out with h0 | ⟨b, rfl, hb, hwat⟩
      · omega
      have hx : ∃ x, ws[k]? = some x := ⟨_, List.getElem?_eq_getElem hlt⟩
      obtain ⟨x, hx⟩ := hx
      obtain ⟨d0, d1⟩ := hwat k hlt
      rw [show ws.getD k (0, []) = x by simp [List.getD, hx]] at d0 d1
      have c0 := (HBw.out.cell (p := ⟨b, k * 2, none⟩) hb).trans d0
      have c1 := (HBw.out.cell (p := ⟨b, k * 2 + 1, none⟩) hb).trans d1
      have hsn := namesW_snoc hx
      have HSn := Lib.hid hsn
      have hxl : x.2.length ≤ 4294967296 := by
        have := HWe.out x (List.mem_of_getElem? hx)
        rw [HL.out] at this
        omega
      have hnl := namesW_len (ws.take k)
      rw [List.length_take] at hnl
      obtain ⟨ns, hns⟩ : ∃ ns, namesW (ws.take k) = ns := ⟨_, rfl⟩
      rw [hns] at HRow HSn hnl
      rw [hns]
      have hns2 := Lib.hid hns
      clear hwat d0 d1 hx hsn hns
      have hba : Below wr.heap.size wr (wr.alloc (.cells #[.string (S x.2), .int .i64 (x.1 : Int)] 49)) := (Below.refl _ _).alloc (Nat.le_refl _) _
      have HBa := Lib.hid hba
      have HRowA := Lib.hid (HRow.out.kept (row := none) (grownBy_below hba none) (by cases oa; exact .inl rfl; exact .inr (by simp [Value.ownBlock])))
      have hnew := heap_alloc_new wr (.cells #[.string (S x.2), .int .i64 (x.1 : Int)] 49)
      have hcs : (wr.alloc (.cells #[.string (S x.2), .int .i64 (x.1 : Int)] 49)).cell? ⟨wr.heap.size, 0, none⟩ = some (.string (S x.2)) := by rw [Lib.cell_of_heap hnew]; rfl
      clear hba hnew
      go_wp2_with (fail)
      refine (name_any (S x.2) _ (by rw [S_size]; omega)).mono ?_
      rintro e w2 ⟨rfl, rfl⟩
      rw [S_toList]
      cases hnm : nameB x.2 with
      | false =>
        rw [hnm] at HSn
        have HSn2 := Lib.hid (show namesW (ws.take (k + 1)) = ns from by rw [HSn.out]; simp)
        clear hnm
        go_wp2_with (fail)
        go_roundw
        case rel => exact ⟨k + 1, oa, oc, by rw [HSn2.out], by simp, by omega, by rw [HSn2.out]; exact HRowA, Lib.hid (HBw.out.trans (HBa.out.mono hbw))⟩
        case measure => simp [intOf]; omega
      | true =>
        rw [hnm] at HSn
        have HSn2 := Lib.hid (show namesW (ws.take (k + 1)) = ns ++ [x.2] from by rw [HSn.out]; simp)
        clear hnm
        generalize wr.alloc (.cells #[.string (S x.2), .int .i64 (x.1 : Int)] 49) = X at *
        have hXs : wr.heap.size ≤ X.heap.size := HBa.out.size
        go_wp2_with (at_builtin; refine wpList_append_own _ rfl _ _ 23 rfl w1.heap.size 9 i0 _ 1 16 Tryd.underlying23 hi0 hz0 hz1 hz2 rfl (by omega) (.slice oa ns.length oc) ns.length (ns.map encStr) rfl (HRowA.out.alloc _) ⟨X.heap.size, 0, none⟩ 1 1 [.string (S x.2)] rfl rfl (cell_one_new _ _ _) ?c1 ?c2 ?c3 ?c4 ?_)
        case c1 => simp [Value.oneCell']
        case c2 => unfold maxLen; omega
        case c3 => omega
        case c4 => simp; omega
        intro v' w6 hown6 hg6 _
        obtain ⟨oa', oc', rfl⟩ : ∃ a c, v' = .slice a (ns.length + 1) c := by
          rcases hown6.2 with ⟨_, h0⟩ | ⟨g, cap, cur, hv, _⟩
          · omega
          · exact ⟨_, _, hv⟩
        have HB6 := Lib.hid (((HBw.out.trans (HBa.out.mono hbw)).alloc (by omega) _).grown hg6 (by simp; omega) (fun g hg => (HRowA.out.lt g hg).1))
        have HRow6 := Lib.hid hown6
        clear hown6 hg6
        go_wp2_with (fail)
        go_roundw
        case rel =>
          refine ⟨k + 1, oa', oc', by rw [HSn2.out, List.length_append]; rfl, by simp, by omega, ?_, HB6⟩
          rw [HSn2.out, List.length_append, List.map_append]
          exact HRow6
        case measure => simp [intOf]; omega
    · obtain rfl : k = ws.length := by omega
      rw [List.take_length] at HRow ⊢
      have hnl := namesW_len ws
      obtain ⟨ns, hns⟩ : ∃ ns, namesW ws = ns := ⟨_, rfl⟩
      rw [hns] at HRow hnl ⊢
      have hus := HUs.out
      rw [hns] at hus
      have HUs2 := Lib.hid hus
      have HBW := Lib.hid (HB1.out.trans (HBw.out.mono hz1'))
      clear hns hus
      by_cases h0 : ns = []
      · subst h0
        have HU0 := Lib.hid (show usesL s.toList = [] from by rw [HUs2.out, List.mergeSort_nil]; rfl)
        go_wp2_with (fail)
        refine (Tryd.slices_Sort_string_none oa oc wr).mono ?_
        rintro e w2 ⟨rfl, rfl⟩
        go_wp2_with (fail)
        refine (Tryd.slices_Compact_string_empty oa oc w2).mono ?_
        rintro e w3 ⟨rfl, rfl⟩
        go_wp2_with (fail)
        go_ret
        rw [HU0.out]
        exact ⟨⟨oa, oc, rfl, rfl, .inl rfl⟩, HBW.out⟩
      · have hpos : 0 < ns.length := List.length_pos_iff.2 h0
        obtain ⟨hrl, ⟨hv, hz⟩ | ⟨g, cap, cur, hv, hg, hh, h1, h2, h3, h4⟩⟩ := HRow.out
        · omega
        cases hv
        have hgl : g < wr.heap.size := (Array.getElem?_eq_some_iff.1 hh).1
        rw [Nat.mul_one] at h3 h4
        have hH := holds_of_block hh h4
        have HH := Lib.hid hH
        obtain ⟨ts, hts⟩ : ∃ ts, (ns.mergeSort fun x y => decide (x ≤ y)) = ts := ⟨_, rfl⟩
        have htl : ts.length = ns.length := by rw [← hts, List.length_mergeSort]
        have HTs := Lib.hid hts
        have HTl := Lib.hid htl
        have Hhh := Lib.hid hh
        clear h4 hH hh hrl
        go_wp2_with (fail)
        refine (Tryd.slices_Sort_string g 0 oc ns wr HH.out hgl (by omega)).mono ?_
        rintro e w2 ⟨rfl, nq, os, hw2⟩
        rw [HTs.out] at hw2
        have hrow2 := ownsRow_sorted (n := nq) (os := os) HTl.out hg Hhh.out h1 h2 (by rw [Nat.mul_one]; exact h3)
        have hgr2 := grownBy_sorted (w := wr) (g := g) (n := nq) (os := os) ts.toArray
        rw [← hw2] at hrow2 hgr2
        have HB2 := Lib.hid (HBw.out.grown hgr2 HBw.out.size (fun k hk => by cases hk; exact hg))
        have HRow2 := Lib.hid hrow2
        obtain ⟨_, ⟨hv2, _⟩ | ⟨g2, cap2, cur2, hv2, hg2, hh2, k1, k2, k3, k4⟩⟩ := hrow2
        · cases hv2
        cases hv2
        have hgl2 : g < w2.heap.size := (Array.getElem?_eq_some_iff.1 hh2).1
        rw [Nat.mul_one] at k4
        have hH2 := holds_of_block (ss := ts) hh2 (by rw [HTl.out]; exact k4)
        have HH2 := Lib.hid hH2
        have hcl := compact_len ts
        have HCl := Lib.hid hcl
        have HU1 := Lib.hid (show usesL s.toList = Lib.compact ts from by rw [HUs2.out, HTs.out])
        clear hw2 hgr2 hh2 k3 k4 hH2 hts htl hcl
        go_wp2_with (fail)
        have hcomp := Tryd.slices_Compact_string g 0 oc ts w2 HH2.out (by rw [HTl.out]; omega) (by rw [HTl.out]; exact h1)
        rw [HTl.out] at hcomp
        refine hcomp.mono ?_
        rintro e w3 ⟨rfl, q, hw3⟩
        have hgr3 := grownBy_sorted (w := w2) (g := g) (n := q) (os := #[]) (Lib.compact ts ++ List.replicate (ns.length - (Lib.compact ts).length) []).toArray
        rw [Go.Sort.grow_empty, ← hw3] at hgr3
        have hst : Strs w3 (some ⟨g, 0, none⟩) (Lib.compact ts).length ((Lib.compact ts).map S) := by
          refine strs_of (by have := hgr3.size; omega) rfl fun j x hj => ?_
          have hjl : j < (Lib.compact ts).length := (List.getElem?_eq_some_iff.1 hj).1
          have hcl := HCl.out
          have htl := HTl.out
          have hc := Go.Sort.cell?_putRow encStr (Go.Sort.ahead w2 q) g 0 ts.toArray (Lib.compact ts ++ List.replicate (ns.length - (Lib.compact ts).length) []).toArray HH2.out (by simp; omega) j (by simp; omega)
          rw [Nat.zero_add, ← hw3] at hc
          rw [hc]
          have hx : (Lib.compact ts ++ List.replicate (ns.length - (Lib.compact ts).length) []).toArray[j]! = x := by
            have hjl2 : j < (Lib.compact ts ++ List.replicate (ns.length - (Lib.compact ts).length) []).length := by rw [List.length_append]; omega
            have h1 : (Lib.compact ts ++ List.replicate (ns.length - (Lib.compact ts).length) [])[j]? = some x := by rw [List.getElem?_append_left hjl]; exact hj
            simp [h1]
          rw [hx]
          rfl
        have HSt := Lib.hid hst
        have HB3 := Lib.hid (HB1.out.trans ((HB2.out.grown hgr3 HB2.out.size (fun k hk => by cases hk; exact hg)).mono hz1'))
        clear hcomp hw3 hgr3 hst
        go_wp2_with (fail)
        go_ret
        rw [HU1.out]
        exact ⟨⟨_, _, rfl, HSt.out⟩, HB3.out⟩
end Go.Proofs.YtkmncmceheggjaaDoor
