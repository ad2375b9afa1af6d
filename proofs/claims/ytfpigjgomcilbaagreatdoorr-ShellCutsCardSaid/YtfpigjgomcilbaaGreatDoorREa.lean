/- shell.numbers, fine, Encode; the law's own 'right'. -/
import Derived.Test.YtfpigjgomcilbaaGreatDoorRWa
import Derived.Deep.QuietTactic
import Derived.BigQuiet
import Derived.Deep.RegionLaw
import Derived.Deep.CutBlock
import Derived.Deep.DeepCutAuto
import Derived.Deep.Onto
set_option linter.unusedVariables false
set_option linter.unusedSimpArgs false
namespace Go.Proofs.YtfpigjgomcilbaaGreatDoorR
open Go.RowKit

theorem itOk_op {x : ItT} {k : Nat} {o : OpT} (h : x.ops[k]? = some o) (h2 : opOk o = false) : itOk x = false := by
  unfold itOk
  have : x.ops.all opOk = false := by
    rw [List.all_eq_false]
    exact ⟨o, List.mem_of_getElem? h, by simp [h2]⟩
  rw [this]
  simp
theorem all_take {α : Type} {p : α → Bool} {l : List α} {k : Nat} {x : α} (h : (l.take k).all p = true) (hk : l[k]? = some x) (hx : p x = true) : (l.take (k + 1)).all p = true := by
  rw [List.take_add_one, hk, List.all_append, h]
  simp [hx]
theorem itOk_all {x : ItT} (h1 : 1 ≤ x.kind ∧ x.kind ≤ 9) (h2 : x.ops.length ≤ 4) (h3 : (nums x).all sm = true) (h4 : (x.ops.take x.ops.length).all opOk = true) : itOk x = true := by
  rw [List.take_length] at h4
  unfold itOk
  rw [h3, h4]
  simp [h1, h2]
theorem itOk_num {x : ItT} {k : Nat} {n : Int} (h : (nums x)[k]? = some n) (h2 : sm n = false) : itOk x = false := by
  unfold itOk
  have : (nums x).all sm = false := by
    rw [List.all_eq_false]
    exact ⟨n, List.mem_of_getElem? h, by simp [h2]⟩
  rw [this]
  simp
theorem opOk_all {o : OpT} (h1 : ¬ o.kind < 0) (h2 : ¬ 255 < o.kind) (h3 : ¬ 255 < o.cas.size) (h4 : ¬ 255 < o.name.size) (h5 : ¬ o.n < -2147483648) (h6 : ¬ 2147483647 < o.n) : opOk o = true := by
  unfold opOk sm
  simp
  omega
theorem opOk_no {o : OpT} (h : o.kind < 0 ∨ 255 < o.kind ∨ 255 < o.cas.size ∨ 255 < o.name.size ∨ o.n < -2147483648 ∨ 2147483647 < o.n) : opOk o = false := by
  cases hq : opOk o with
  | false => rfl
  | true =>
    unfold opOk sm at hq
    simp at hq
    omega
theorem sm_no {n : Int} (h : n < -2147483648 ∨ 2147483647 < n) : sm n = false := by
  unfold sm
  simp
  omega
theorem sm_yes {n : Int} (h1 : ¬ n < -2147483648) (h2 : ¬ 2147483647 < n) : sm n = true := by
  unfold sm
  simp
  omega

/-- the pointers to an item's numbers -/
def ptrs (b : Nat) : Array Value := #[.pointer (some ⟨b, 1, none⟩), .pointer (some ⟨b, 2, none⟩), .pointer (some ⟨b, 3, none⟩), .pointer (some ⟨b, 4, none⟩), .pointer (some ⟨b, 5, none⟩), .pointer (some ⟨b, 6, none⟩)]
def itCells (x : ItT) (v : Value) : Array Value := #[.int .i64 x.kind, .int .i64 x.client, .int .i64 x.node, .int .i64 x.n, .int .i64 x.lo, .int .i64 x.hi, .int .i64 x.group, v]
def opCells (o : OpT) : Array Value := #[.int .i64 o.kind, .string o.cas, .string o.name, .int .i64 o.n]

set_option maxHeartbeats 2000000 in
set_option maxRecDepth 100000 in
theorem numbers_any (b : Nat) (w : World) :
    Calls Tryz.prog 14 #[.pointer (some ⟨b, 0, none⟩)] w fun e w' => e = .returned (.slice (some ⟨w.heap.size, 0, none⟩) 6 6) ∧ w'.heap[w.heap.size]? = some (.cells (ptrs b) 43 (0, 0)) ∧ Below w.heap.size w w' := by
  go_enter Tryz.func14, Tryz.ntmps14
  go_wp2_with (fail)
  go_region_law (fail)
  all_goals
    go_wp2_with (fail)
    go_ret
    exact ⟨rfl, heap_alloc_new _ _, ((Below.refl _ _).alloc (Nat.le_refl _) _).drew⟩

theorem ptr_at (b j : Nat) (h : j < 6) : (ptrs b)[j]? = some (.pointer (some ⟨b, 1 + j, none⟩)) := by
  have : j = 0 ∨ j = 1 ∨ j = 2 ∨ j = 3 ∨ j = 4 ∨ j = 5 := by omega
  rcases this with rfl | rfl | rfl | rfl | rfl | rfl <;> rfl
theorem num_at (x : ItT) (v : Value) (j : Nat) (n : Int) (h : (nums x)[j]? = some n) : (itCells x v)[1 + j]? = some (.int .i64 n) := by
  have hj : j < 6 := (List.getElem?_eq_some_iff.1 h).1
  have : j = 0 ∨ j = 1 ∨ j = 2 ∨ j = 3 ∨ j = 4 ∨ j = 5 := by omega
  rcases this with rfl | rfl | rfl | rfl | rfl | rfl <;> (simp [nums] at h; subst h; rfl)
theorem cell_blk {w : World} {b k : Nat} {cs : Array Value} {t : TypeId} {v : Value} (h : w.heap[b]? = some (.cells cs t (0, 0))) (hv : cs[k]? = some v) : w.cell? ⟨b, k, none⟩ = some v := by
  rw [Lib.cell_of_heap h]
  exact hv

set_option maxHeartbeats 4000000 in
set_option maxRecDepth 100000 in
theorem fine_any (x : ItT) (v : Value) (w : World) (hO : OpsAt w v x.ops) :
    Calls Tryz.prog 12 #[.agg (itCells x v)] w fun e w' => e = .returned (.bool (itOk x)) ∧ Below w.heap.size w w' := by
  obtain ⟨a, c, rfl, hlc, hcm, hO⟩ := hO
  have HO := Lib.hid hO; clear hO
  have hm : c ≤ 9223372036854775807 := by unfold maxLen at hcm; omega
  unfold itCells
  by_cases hk1 : x.kind < 1
  · have e : itOk x = false := by unfold itOk; simp; omega
    rw [e]
    go_enter Tryz.func12, Tryz.ntmps12
    go_wp2_with (fail)
    go_ret
    exact ⟨rfl, (Below.refl _ _).alloc (Nat.le_refl _) _⟩
  by_cases hk2 : 9 < x.kind
  · have e : itOk x = false := by unfold itOk; simp; omega
    rw [e]
    go_enter Tryz.func12, Tryz.ntmps12
    go_wp2_with (fail)
    go_ret
    exact ⟨rfl, (Below.refl _ _).alloc (Nat.le_refl _) _⟩
  by_cases hk3 : (4 : Int) < (x.ops.length : Int)
  · have e : itOk x = false := by unfold itOk; simp; omega
    rw [e]
    go_enter Tryz.func12, Tryz.ntmps12
    go_wp2_with (fail)
    go_ret
    exact ⟨rfl, (Below.refl _ _).alloc (Nat.le_refl _) _⟩
  have hX := heap_alloc_new w (.cells (itCells x (.slice a x.ops.length c)) 34)
  have HX := Lib.hid hX; clear hX
  have hb0 : Below w.heap.size w (w.alloc (.cells (itCells x (.slice a x.ops.length c)) 34)) := (Below.refl _ _).alloc (Nat.le_refl _) _
  have HB0 := Lib.hid hb0; clear hb0
  unfold itCells at HX HB0
  go_enter Tryz.func12, Tryz.ntmps12
  go_wp2_with (fail)
  refine (numbers_any _ _).mono ?_
  rintro e w1 ⟨rfl, hp, hb1⟩
  have hz1 := hb1.size
  have hXi := (hb1.block w.heap.size (by simp)).trans HX.out
  have hbw := HB0.out.trans (hb1.mono (by simp))
  simp only [World.size_alloc] at hp hz1
  have HP := Lib.hid hp
  have HXi := Lib.hid hXi
  have HBW := Lib.hid hbw
  have c7 : w1.cell? ⟨w.heap.size, 7, none⟩ = some (.slice a x.ops.length c) := cell_blk hXi rfl
  clear hp hXi hbw hb1
  go_wp2_with (fail)
  go_loopw [23] (fun i wr => ∃ j : Nat, i = .int .i64 j ∧ j ≤ 6 ∧ Hid (((nums x).take j).all sm = true) ∧ wr = w1) (fun i _ => 6 - (intOf i).toNat)
  case atStart => exact ⟨0, rfl, by omega, Lib.hid rfl, rfl⟩
  case round =>
    obtain ⟨j, rfl, hj, HAl, rfl⟩ := hrel
    by_cases hj6 : j < 6
    · have hn : ∃ n, (nums x)[j]? = some n := ⟨_, List.getElem?_eq_getElem hj6⟩
      obtain ⟨n, hn⟩ := hn
      have HN := Lib.hid hn
      have cp := cell_blk HP.out (ptr_at _ j hj6)
      have cn := cell_blk HXi.out (num_at x (.slice a x.ops.length c) j n hn)
      clear hn
      by_cases q1 : n < -2147483648
      · go_wp2_with (fail)
        go_ret
        rw [itOk_num HN.out (sm_no (.inl q1))]
        exact ⟨rfl, HBW.out⟩
      by_cases q2 : 2147483647 < n
      · go_wp2_with (fail)
        go_ret
        rw [itOk_num HN.out (sm_no (.inr q2))]
        exact ⟨rfl, HBW.out⟩
      go_wp2_with (fail)
      go_roundw
      case rel => exact ⟨j + 1, by simp, by omega, Lib.hid (all_take HAl.out HN.out (sm_yes q1 q2)), trivial⟩
      case measure => simp [intOf]; omega
    · obtain rfl : j = 6 := by omega
      have hal : (nums x).all sm = true := HAl.out
      have HAll := Lib.hid hal; clear hal
      go_wp2_with (fail)
      go_loopw [41] (fun i wr => ∃ k : Nat, i = .int .i64 k ∧ k ≤ x.ops.length ∧ Hid ((x.ops.take k).all opOk = true) ∧ Below w.heap.size w wr) (fun i _ => x.ops.length - (intOf i).toNat)
      case atStart => exact ⟨0, rfl, by omega, Lib.hid rfl, HBW.out⟩
      case round =>
        obtain ⟨k, rfl, hkl, HAo, hbr⟩ := hrel
        by_cases hlt : k < x.ops.length
        · have ho : ∃ o, x.ops[k]? = some o := ⟨_, List.getElem?_eq_getElem hlt⟩
          obtain ⟨o, ho⟩ := ho
          rcases HO.out with h0 | ⟨b', o', rfl, hb', hs⟩
          · omega
          obtain ⟨d0, d1, d2, d3⟩ := hs k o ho
          have e0 := (hbr.cell (p := ⟨b', o' + k * 4, none⟩) hb').trans d0
          have e1 := (hbr.cell (p := ⟨b', o' + k * 4 + 1, none⟩) hb').trans d1
          have e2 := (hbr.cell (p := ⟨b', o' + k * 4 + 2, none⟩) hb').trans d2
          have e3 := (hbr.cell (p := ⟨b', o' + k * 4 + 3, none⟩) hb').trans d3
          have hbr2 := hbr.alloc hbr.size (.cells (opCells o) 45)
          unfold opCells at hbr2
          have HBr := Lib.hid hbr2
          have HOo := Lib.hid ho
          have HS := Lib.hid hs
          clear hs d0 d1 d2 d3 hbr2 ho
          by_cases q1 : o.kind < 0
          · go_wp2_with (fail)
            go_ret
            rw [itOk_op HOo.out (opOk_no (.inl q1))]
            exact ⟨rfl, HBr.out⟩
          by_cases q2 : 255 < o.kind
          · go_wp2_with (fail)
            go_ret
            rw [itOk_op HOo.out (opOk_no (.inr (.inl q2)))]
            exact ⟨rfl, HBr.out⟩
          by_cases q3 : (255 : Int) < (o.cas.size : Int)
          · go_wp2_with (fail)
            go_ret
            rw [itOk_op HOo.out (opOk_no (.inr (.inr (.inl (by omega)))))]
            exact ⟨rfl, HBr.out⟩
          by_cases q4 : (255 : Int) < (o.name.size : Int)
          · go_wp2_with (fail)
            go_ret
            rw [itOk_op HOo.out (opOk_no (.inr (.inr (.inr (.inl (by omega))))))]
            exact ⟨rfl, HBr.out⟩
          by_cases q5 : o.n < -2147483648
          · go_wp2_with (fail)
            go_ret
            rw [itOk_op HOo.out (opOk_no (.inr (.inr (.inr (.inr (.inl q5))))))]
            exact ⟨rfl, HBr.out⟩
          by_cases q6 : 2147483647 < o.n
          · go_wp2_with (fail)
            go_ret
            rw [itOk_op HOo.out (opOk_no (.inr (.inr (.inr (.inr (.inr q6))))))]
            exact ⟨rfl, HBr.out⟩
          have hok := opOk_all q1 q2 (by omega) (by omega) q5 q6
          have HOk := Lib.hid hok; clear hok
          go_wp2_with (fail)
          go_roundw
          case rel => exact ⟨k + 1, by simp, by omega, Lib.hid (all_take HAo.out HOo.out HOk.out), HBr.out⟩
          case measure => simp [intOf]; omega
        · obtain rfl : k = x.ops.length := by omega
          have e : itOk x = true := itOk_all ⟨by omega, by omega⟩ (by omega) HAll.out HAo.out
          have HE := Lib.hid e; clear e
          have HBr := Lib.hid hbr; clear hbr
          go_wp2_with (fail)
          go_ret
          rw [HE.out]
          exact ⟨rfl, HBr.out⟩
end Go.Proofs.YtfpigjgomcilbaaGreatDoorR

namespace Go.Proofs.YtfpigjgomcilbaaGreatDoorR
open Go.RowKit

theorem itsB_at {l : List ItT} {k : Nat} {x : ItT} (h : l[k]? = some x) : itsB (l.take (k + 1)) = itsB (l.take k) ++ itB x := by
  rw [List.take_add_one, h]
  simp [itsB]
theorem opsB_at {l : List OpT} {k : Nat} {x : OpT} (h : l[k]? = some x) : opsB (l.take (k + 1)) = opsB (l.take k) ++ opB x := by
  rw [List.take_add_one, h]
  simp [opsB]
theorem fours_at {l : List Int} {k : Nat} {x : Int} (h : l[k]? = some x) : fours (l.take (k + 1)) = fours (l.take k) ++ beN x 4 := by
  rw [List.take_add_one, h]
  simp [fours]
theorem itsB_le {l : List ItT} {k : Nat} (h : (l.take k).all itOk = true) (hl : l.length ≤ 2048) : (itsB (l.take k)).length ≤ 4337664 := by
  have h1 := itsB_len (l.take k) h
  have h2 : (l.take k).length ≤ 2048 := by rw [List.length_take]; omega
  omega
theorem opsB_le {l : List OpT} {k : Nat} (h : l.all opOk = true) (hl : l.length ≤ 4) : (opsB (l.take k)).length ≤ 2092 := by
  have ht : (l.take k).all opOk = true := by
    rw [List.all_eq_true] at h ⊢
    exact fun x hx => h x (List.mem_of_mem_take hx)
  have h1 := opsB_len (l.take k) ht
  have h2 : (l.take k).length ≤ 4 := by rw [List.length_take]; omega
  omega
theorem all_false {α : Type} {p : α → Bool} {l : List α} {k : Nat} {x : α} (hk : l[k]? = some x) (hx : p x = false) : l.all p = false := by
  rw [List.all_eq_false]
  exact ⟨x, List.mem_of_getElem? hk, by simp [hx]⟩
theorem itOk_parts {x : ItT} (h : itOk x = true) : (1 ≤ x.kind ∧ x.kind ≤ 9) ∧ x.ops.length ≤ 4 ∧ (nums x).all sm = true ∧ x.ops.all opOk = true := by
  unfold itOk at h
  simp only [Bool.and_eq_true, decide_eq_true_eq] at h
  exact ⟨h.1, h.2.1, h.2.2.1, h.2.2.2⟩
theorem opOk_sizes {o : OpT} (h : opOk o = true) : o.cas.size ≤ 255 ∧ o.name.size ≤ 255 := by
  unfold opOk at h
  simp only [Bool.and_eq_true, decide_eq_true_eq] at h
  exact ⟨h.2.1, h.2.2.1⟩

def encPost (B : Nat) (l : List ItT) (e : Ending) (w' : World) : Prop :=
  (l.all itOk = true ∧ ∃ v', e = .returned (.tuple #[v', .int .i64 0]) ∧ w'.ownsRow B 5 1 v' (itsB l).length (Lib.byteCells (itsB l))) ∨ (l.all itOk = false ∧ e = .returned (.tuple #[.slice none 0 0, .int .i64 1]))

set_option maxHeartbeats 8000000 in
set_option maxRecDepth 100000 in
theorem encode_any (v : Value) (l : List ItT) (w : World) (hI : ItsAt w v l) (hl : l.length ≤ 2048) :
    Calls Tryz.prog 5 #[v] w fun e w' => encPost w.heap.size l e w' ∧ Below w.heap.size w w' := by
  obtain ⟨a, c, rfl, hlc, hI⟩ := hI
  have HI := Lib.hid hI; clear hI
  have hl2 : ¬ (2048 : Int) < (l.length : Int) := by omega
  have hfresh : WrA w.heap.size w.heap.size (.slice none 0 0) (itsB (l.take 0)) (w.alloc (.cells #[.slice none 0 0] 70)) := WrAt.fresh w
  have HF := Lib.hid hfresh; clear hfresh
  have hb0 : Below w.heap.size w (w.alloc (.cells #[.slice none 0 0] 70)) := (Below.refl _ _).alloc (Nat.le_refl _) _
  have HB0 := Lib.hid hb0; clear hb0
  go_enter Tryz.func5, Tryz.ntmps5
  go_wp2_with (fail)
  refine (newWriter_any _).mono ?_
  rintro e w0 ⟨rfl, rfl⟩
  go_wp2_with (fail)
  go_loopw [17] (fun i wr => ∃ (k : Nat) (v1 : Value), i = .int .i64 k ∧ k ≤ l.length ∧ Hid ((l.take k).all itOk = true) ∧ Hid (WrA w.heap.size w.heap.size v1 (itsB (l.take k)) wr) ∧ Below w.heap.size w wr) (fun i _ => l.length - (intOf i).toNat)
  case atStart => exact ⟨0, _, rfl, by omega, Lib.hid rfl, HF, HB0.out⟩
  case round =>
    obtain ⟨k, v1, rfl, hk, HAl, HA, hbw⟩ := hrel
    by_cases hlt : k < l.length
    · have hx : ∃ x, l[k]? = some x := ⟨_, List.getElem?_eq_getElem hlt⟩
      obtain ⟨x, hx⟩ := hx
      rcases HI.out with h0 | ⟨ib, io, rfl, hib, his⟩
      · omega
      obtain ⟨d0, d1, d2, d3, d4, d5, d6, vo, d7, hO⟩ := his k x hx
      have c0 := (hbw.cell (p := ⟨ib, io + k * 8, none⟩) hib).trans d0
      have c1 := (hbw.cell (p := ⟨ib, io + k * 8 + 1, none⟩) hib).trans d1
      have c2 := (hbw.cell (p := ⟨ib, io + k * 8 + 2, none⟩) hib).trans d2
      have c3 := (hbw.cell (p := ⟨ib, io + k * 8 + 3, none⟩) hib).trans d3
      have c4 := (hbw.cell (p := ⟨ib, io + k * 8 + 4, none⟩) hib).trans d4
      have c5 := (hbw.cell (p := ⟨ib, io + k * 8 + 5, none⟩) hib).trans d5
      have c6 := (hbw.cell (p := ⟨ib, io + k * 8 + 6, none⟩) hib).trans d6
      have c7 := (hbw.cell (p := ⟨ib, io + k * 8 + 7, none⟩) hib).trans d7
      have HO := Lib.hid hO
      obtain ⟨ao, co, rfl, hoc, hom, hO2⟩ := hO
      have HX := Lib.hid hx
      have HS := Lib.hid his
      have HBw := Lib.hid hbw
      have hpre := itsB_le HAl.out hl
      have hsz0 := hbw.size
      have hbi : w.heap.size < wr.heap.size := (Array.getElem?_eq_some_iff.1 HA.out.2.1).1
      have hX1 : Below wr.heap.size wr (wr.alloc (.cells (itCells x (.slice ao x.ops.length co)) 34)) := (Below.refl _ _).alloc (Nat.le_refl _) _
      have hXb := heap_alloc_new wr (.cells (itCells x (.slice ao x.ops.length co)) 34)
      have hXs : wr.heap.size < (wr.alloc (.cells (itCells x (.slice ao x.ops.length co)) 34)).heap.size := by simp
      have hapO : v1.ownBlock ≠ some wr.heap.size := fun h => by
        have := (ownBlock_ge HA.out _ h).2
        omega
      have HWX := Lib.hid (HBw.out.trans (hX1.mono hsz0))
      have HOX := Lib.hid ((HO.out.below HBw.out).below hX1)
      have HAX := Lib.hid (HA.out.below hX1)
      have HXb := Lib.hid hXb
      clear his d0 d1 d2 d3 d4 d5 d6 d7 hO2 hx hbw hX1 hXb
      unfold itCells at HWX HOX HAX HXb hXs
      go_wp2_with (fail)
      generalize wr.alloc (.cells #[.int .i64 x.kind, .int .i64 x.client, .int .i64 x.node, .int .i64 x.n, .int .i64 x.lo, .int .i64 x.hi, .int .i64 x.group, .slice ao x.ops.length co] 34) = X at *
      clear c0 c1 c2 c3 c4 c5 c6 c7 HBw HA
      generalize wr.heap.size = bi at *
      have hOX := HOX.out
      refine (fine_any x _ X hOX).mono ?_
      rintro e Y ⟨rfl, hbY⟩
      have hYs := hbY.size
      have hYb := (hbY.block bi (by omega)).trans HXb.out
      have hAY := HAX.out.below hbY
      have hwY := HWX.out.trans (hbY.mono (by omega))
      have e0 : Y.cell? ⟨bi, 0, none⟩ = some (.int .i64 x.kind) := cell_blk hYb rfl
      have HYb := Lib.hid hYb
      have HAY := Lib.hid hAY
      have HWY := Lib.hid hwY
      clear hbY hYb hAY hwY
      cases hok : itOk x with
      | false =>
        have hall := all_false (p := itOk) HX.out hok
        have HAll := Lib.hid hall; clear hall hok
        go_wp2_with (fail)
        go_ret2
        exact ⟨.inr ⟨HAll.out, rfl⟩, HWY.out⟩
      | true =>
        obtain ⟨_, hp2, hp3, hp4⟩ := itOk_parts hok
        have HP4 := Lib.hid hp4
        have HOk := Lib.hid hok
        clear hok hp3 hp4
        obtain ⟨pre, hpr⟩ : ∃ pre, itsB (l.take k) = pre := ⟨_, rfl⟩
        rw [hpr] at HAY hpre
        have HPr := Lib.hid hpr; clear hpr
        have hap0 := hapO
        go_wp2_with (fail)
        refine (byte_any w.heap.size w.heap.size v1 pre x.kind Y HAY.out (by omega) (by omega)).mono ?_
        rintro e Z1 ⟨rfl, v2, hA1, hst1⟩
        have hz1 := hst1.size
        have hap1 := hst1.apart (k := bi) (by omega) hap0
        have hZb := (hst1.block bi (by omega) (by omega) hap0).trans HYb.out
        have hwZ1 := HWY.out.trans (hst1.below HAY.out (by omega))
        have HA1 := Lib.hid hA1
        have HZb := Lib.hid hZb
        have HWZ1 := Lib.hid hwZ1
        have Hap1 := Lib.hid hap1
        clear hA1 hst1 hap1 hZb hwZ1 e0 hap0
        go_wp2_with (fail)
        refine (numbers_any bi Z1).mono ?_
        rintro e Z2 ⟨rfl, hp, hb2⟩
        have hz2 := hb2.size
        have hlt2 : Z1.heap.size < Z2.heap.size := (Array.getElem?_eq_some_iff.1 hp).1
        have hA2 := HA1.out.below hb2
        have hZ2b := (hb2.block bi (by omega)).trans HZb.out
        have hwZ2 := HWZ1.out.trans (hb2.mono (by omega))
        have hap2 : v2.ownBlock ≠ some Z1.heap.size := fun h => by
          have := (ownBlock_ge HA1.out _ h).2
          omega
        have hl1 : (pre ++ beN x.kind 1).length = pre.length + 1 := by rw [List.length_append, beN_len]
        have HA2 := Lib.hid hA2
        have HZ2b := Lib.hid hZ2b
        have HWZ2 := Lib.hid hwZ2
        have HP := Lib.hid hp
        have Hap2 := Lib.hid hap2
        have Hl1 := Lib.hid hl1
        clear hb2 hA2 hZ2b hwZ2 hp hap2 hl1
        go_wp2_with (fail)
        go_loopw [30] (fun i wr => ∃ (j : Nat) (v3 : Value), i = .int .i64 j ∧ j ≤ 6 ∧ Hid (WrA w.heap.size w.heap.size v3 ((pre ++ beN x.kind 1) ++ fours ((nums x).take j)) wr) ∧ Hid (WrStep w.heap.size v2 v3 Z2 wr)) (fun i _ => 6 - (intOf i).toNat)
        case atStart =>
          refine ⟨0, v2, rfl, by omega, ?_, Lib.hid (WrStep.refl _ _ _)⟩
          have e : (pre ++ beN x.kind 1) ++ fours ((nums x).take 0) = pre ++ beN x.kind 1 := List.append_nil _
          rw [e]
          exact HA2
        case round =>
          obtain ⟨j, v3, rfl, hj, HA3, HS3⟩ := hrel
          have hz3 := HS3.out.size
          by_cases hj6 : j < 6
          · have hn : ∃ n, (nums x)[j]? = some n := ⟨_, List.getElem?_eq_getElem hj6⟩
            obtain ⟨n, hn⟩ := hn
            have HN := Lib.hid hn
            have hpb := (HS3.out.block Z1.heap.size (by omega) (by omega) Hap2.out).trans HP.out
            have hib2 := (HS3.out.block bi (by omega) (by omega) Hap1.out).trans HZ2b.out
            have cp := cell_blk hpb (ptr_at _ j hj6)
            have cn := cell_blk hib2 (num_at x (.slice ao x.ops.length co) j n hn)
            have hlen : ((pre ++ beN x.kind 1) ++ fours ((nums x).take j)).length + 4 ≤ 1099511627776 := by
              rw [List.length_append, Hl1.out, fours_len, List.length_take]
              omega
            clear hn hpb hib2
            go_wp2_with (fail)
            refine (four_any w.heap.size w.heap.size v3 _ n wr HA3.out hlen (by omega)).mono ?_
            rintro e w4 ⟨rfl, v4, h1, h2⟩
            have H1 := Lib.hid h1
            have H2 := Lib.hid h2
            clear h1 h2 cp cn
            go_wp2_with (fail)
            go_roundw
            case rel =>
              refine ⟨j + 1, v4, by simp, by omega, ?_, Lib.hid (HS3.out.trans H2.out)⟩
              rw [fours_at HN.out, ← List.append_assoc]
              exact H1
            case measure => simp [intOf]; omega
          · obtain rfl : j = 6 := by omega
            have hib2 := (HS3.out.block bi (by omega) (by omega) Hap1.out).trans HZ2b.out
            have hap3 := HS3.out.apart (k := bi) (by omega) Hap1.out
            have hw3 := HWZ2.out.trans (HS3.out.below HA2.out (by omega))
            have c7 : wr.cell? ⟨bi, 7, none⟩ = some (.slice ao x.ops.length co) := cell_blk hib2 rfl
            have e4 : (pre ++ beN x.kind 1) ++ fours ((nums x).take 6) = (pre ++ beN x.kind 1) ++ fours (nums x) := rfl
            rw [e4] at HA3
            obtain ⟨p3, hp3⟩ : ∃ p3, (pre ++ beN x.kind 1) ++ fours (nums x) = p3 := ⟨_, rfl⟩
            have hl3 : p3.length = pre.length + 25 := by
              rw [← hp3, List.length_append, Hl1.out, fours_len]
              rfl
            rw [hp3] at HA3
            have HP3 := Lib.hid hp3
            have Hib2 := Lib.hid hib2
            have Hap3 := Lib.hid hap3
            have HW3 := Lib.hid hw3
            have hl3' : p3.length ≤ 4337700 := by omega
            clear hp3 hib2 hap3 hw3 hl3 e4
            go_wp2_with (fail)
            refine (byte_any w.heap.size w.heap.size v3 p3 _ wr HA3.out (by omega) (by omega)).mono ?_
            rintro e Z4 ⟨rfl, v5, hA4, hst4⟩
            have hz4 := hst4.size
            have hib4 := (hst4.block bi (by omega) (by omega) Hap3.out).trans Hib2.out
            have hw4 := HW3.out.trans (hst4.below HA3.out (by omega))
            have c7b : Z4.cell? ⟨bi, 7, none⟩ = some (.slice ao x.ops.length co) := cell_blk hib4 rfl
            obtain ⟨p4, hp4⟩ : ∃ p4, p3 ++ beN (x.ops.length : Int) 1 = p4 := ⟨_, rfl⟩
            have hl4 : p4.length ≤ 4337701 := by rw [← hp4, List.length_append, beN_len]; omega
            rw [hp4] at hA4
            have HP4b := Lib.hid hp4
            have HA4 := Lib.hid hA4
            have HW4 := Lib.hid hw4
            clear hp4 hA4 hst4 hib4 hw4 c7
            go_wp2_with (fail)
            go_loopw [48] (fun i wr => ∃ (q : Nat) (v6 : Value), i = .int .i64 q ∧ q ≤ x.ops.length ∧ Hid (WrA w.heap.size w.heap.size v6 (p4 ++ opsB (x.ops.take q)) wr) ∧ Below w.heap.size w wr) (fun i _ => x.ops.length - (intOf i).toNat)
            case atStart =>
              refine ⟨0, v5, rfl, by omega, ?_, HW4.out⟩
              have e : p4 ++ opsB (x.ops.take 0) = p4 := List.append_nil _
              rw [e]
              exact HA4
            case round =>
              obtain ⟨q, v6, rfl, hq, HA6, hb6⟩ := hrel
              by_cases hql : q < x.ops.length
              · have ho : ∃ o, x.ops[q]? = some o := ⟨_, List.getElem?_eq_getElem hql⟩
                obtain ⟨o, ho⟩ := ho
                obtain ⟨ao', co', hv', _, _, h0 | ⟨ob, oo, rfl, hob, hos⟩⟩ := HO.out
                · omega
                cases hv'
                obtain ⟨d0, d1, d2, d3⟩ := hos q o ho
                have f0 := (hb6.cell (p := ⟨ob, oo + q * 4, none⟩) hob).trans d0
                have f1 := (hb6.cell (p := ⟨ob, oo + q * 4 + 1, none⟩) hob).trans d1
                have f2 := (hb6.cell (p := ⟨ob, oo + q * 4 + 2, none⟩) hob).trans d2
                have f3 := (hb6.cell (p := ⟨ob, oo + q * 4 + 3, none⟩) hob).trans d3
                have hoOk : opOk o = true := by
                  have := HP4.out
                  rw [List.all_eq_true] at this
                  exact this o (List.mem_of_getElem? ho)
                obtain ⟨hs1, hs2⟩ := opOk_sizes hoOk
                have hpo := opsB_le (k := q) HP4.out hp2
                obtain ⟨p6, hp6⟩ : ∃ p6, p4 ++ opsB (x.ops.take q) = p6 := ⟨_, rfl⟩
                have hl6 : p6.length ≤ 4339793 := by rw [← hp6, List.length_append]; omega
                rw [hp6] at HA6
                have HP6 := Lib.hid hp6
                have HOo := Lib.hid ho
                have HB6 := Lib.hid hb6
                have hz6 := hb6.size
                have hbi6 : w.heap.size < wr.heap.size := (Array.getElem?_eq_some_iff.1 HA6.out.2.1).1
                have hX6 : Below wr.heap.size wr (wr.alloc (.cells (opCells o) 45)) := (Below.refl _ _).alloc (Nat.le_refl _) _
                have hX6b := heap_alloc_new wr (.cells (opCells o) 45)
                have hX6s : wr.heap.size < (wr.alloc (.cells (opCells o) 45)).heap.size := by simp
                have hap6 : v6.ownBlock ≠ some wr.heap.size := fun h => by
                  have := (ownBlock_ge HA6.out _ h).2
                  omega
                have HA7 := Lib.hid (HA6.out.below hX6)
                have HW7 := Lib.hid (HB6.out.trans (hX6.mono hz6))
                have HX6b := Lib.hid hX6b
                clear hos d0 d1 d2 d3 ho hp6 hb6 hoOk hpo hX6 hX6b
                unfold opCells at HA7 HW7 HX6b hX6s
                go_wp2_with (fail)
                generalize wr.alloc (.cells #[.int .i64 o.kind, .string o.cas, .string o.name, .int .i64 o.n] 45) = X6 at *
                clear f0 f1 f2 f3
                generalize wr.heap.size = bo at *
                have g0 : X6.cell? ⟨bo, 0, none⟩ = some (.int .i64 o.kind) := cell_blk HX6b.out rfl
                refine (byte_any w.heap.size w.heap.size v6 p6 _ X6 HA7.out (by omega) (by omega)).mono ?_
                rintro e Y1 ⟨rfl, v7, hB1, hs1'⟩
                have hy1 := hs1'.size
                have hY1b := (hs1'.block bo (by omega) (by omega) hap6).trans HX6b.out
                have hap7 := hs1'.apart (k := bo) (by omega) hap6
                have hwY1 := HW7.out.trans (hs1'.below HA7.out (by omega))
                have g1 : Y1.cell? ⟨bo, 1, none⟩ = some (.string o.cas) := cell_blk hY1b rfl
                have HY1b := Lib.hid hY1b
                have HB1 := Lib.hid hB1
                have HWY1 := Lib.hid hwY1
                clear hY1b hB1 hwY1 hs1' g0
                have hlb1 : (p6 ++ beN o.kind 1).length ≤ 4339794 := by rw [List.length_append, beN_len]; omega
                go_wp2_with (fail)
                refine (text_wr w.heap.size w.heap.size v7 _ o.cas Y1 HB1.out (by omega) (by omega)).mono ?_
                rintro e Y2 ⟨rfl, v8, hB2, hs2'⟩
                have hy2 := hs2'.size
                have hY2b := (hs2'.block bo (by omega) (by omega) hap7).trans HY1b.out
                have hap8 := hs2'.apart (k := bo) (by omega) hap7
                have hwY2 := HWY1.out.trans (hs2'.below HB1.out (by omega))
                have g2 : Y2.cell? ⟨bo, 2, none⟩ = some (.string o.name) := cell_blk hY2b rfl
                have HY2b := Lib.hid hY2b
                have HB2 := Lib.hid hB2
                have HWY2 := Lib.hid hwY2
                clear hY2b hB2 hwY2 hs2' g1
                have hlb2 : (p6 ++ beN o.kind 1 ++ textB o.cas).length ≤ 4340060 := by rw [List.length_append, textB_len]; omega
                go_wp2_with (fail)
                refine (text_wr w.heap.size w.heap.size v8 _ o.name Y2 HB2.out (by omega) (by omega)).mono ?_
                rintro e Y3 ⟨rfl, v9, hB3, hs3'⟩
                have hy3 := hs3'.size
                have hY3b := (hs3'.block bo (by omega) (by omega) hap8).trans HY2b.out
                have hwY3 := HWY2.out.trans (hs3'.below HB2.out (by omega))
                have g3 : Y3.cell? ⟨bo, 3, none⟩ = some (.int .i64 o.n) := cell_blk hY3b rfl
                have HB3 := Lib.hid hB3
                have HWY3 := Lib.hid hwY3
                clear hY3b hB3 hwY3 hs3' g2
                have hlb3 : (p6 ++ beN o.kind 1 ++ textB o.cas ++ textB o.name).length ≤ 4340400 := by rw [List.length_append, textB_len]; omega
                go_wp2_with (fail)
                refine (four_any w.heap.size w.heap.size v9 _ o.n Y3 HB3.out (by omega) (by omega)).mono ?_
                rintro e Y4 ⟨rfl, v10, hB4, hs4'⟩
                have hwY4 := HWY3.out.trans (hs4'.below HB3.out (by omega))
                have HB4 := Lib.hid hB4
                have HWY4 := Lib.hid hwY4
                clear hB4 hwY4 hs4' g3
                go_wp2_with (fail)
                go_roundw
                case rel =>
                  refine ⟨q + 1, v10, by simp, by omega, ?_, HWY4.out⟩
                  have e : p4 ++ opsB (x.ops.take (q + 1)) = p6 ++ beN o.kind 1 ++ textB o.cas ++ textB o.name ++ beN o.n 4 := by
                    rw [opsB_at HOo.out, ← List.append_assoc, HP6.out]
                    unfold opB
                    simp only [List.append_assoc]
                  rw [e]
                  exact HB4
                case measure => simp [intOf]; omega
              · obtain rfl : q = x.ops.length := by omega
                rw [List.take_length] at HA6
                have e : itsB (l.take (k + 1)) = p4 ++ opsB x.ops := by
                  rw [itsB_at HX.out, HPr.out, ← HP4b.out, ← HP3.out]
                  unfold itB
                  simp only [List.append_assoc]
                have HE := Lib.hid e; clear e
                have hb6' := Lib.hid hb6
                clear hb6
                go_wp2_with (fail)
                go_roundw
                case rel =>
                  refine ⟨k + 1, v6, by simp, by omega, Lib.hid (all_take HAl.out HX.out HOk.out), ?_, hb6'.out⟩
                  rw [HE.out]
                  exact HA6
                case measure => simp [intOf]; omega
    · obtain rfl : k = l.length := by omega
      have hal := HAl.out
      rw [List.take_length] at hal
      rw [List.take_length] at HA
      have HAll := Lib.hid hal; clear hal
      have hsz := hbw.size
      have hlen := itsB_len l HAll.out
      go_wp2_with (fail)
      refine (done_any w.heap.size w.heap.size v1 (itsB l) wr HA.out (by omega)).mono ?_
      rintro e w' ⟨v', rfl, hown, hb⟩
      have HOw := Lib.hid hown
      have HB := Lib.hid hb
      clear hown hb
      go_wp2_with (fail)
      go_ret2
      exact ⟨.inl ⟨HAll.out, v', rfl, HOw.out.mono hsz⟩, hbw.trans (HB.out.mono hsz)⟩
end Go.Proofs.YtfpigjgomcilbaaGreatDoorR

namespace Go.Proofs.YtfpigjgomcilbaaGreatDoorR
open Go.RowKit

theorem small_any (n : Int) (w : World) : Calls Tryz.prog 26 #[.int .i64 n] w fun e w' => e = .returned (.bool (sm n)) ∧ w' = w := by
  by_cases h1 : n < -2147483648
  · have e : sm n = false := sm_no (.inl h1)
    rw [e]
    have hd : decide (-2147483648 ≤ n) = false := by simp; omega
    go_enter Tryz.func26, Tryz.ntmps26
    go_wp2
    go_ret
    exact ⟨rfl, rfl⟩
  by_cases h2 : 2147483647 < n
  · have e : sm n = false := sm_no (.inr h2)
    rw [e]
    have hd : decide (-2147483648 ≤ n) = true := by simp; omega
    have hd2 : decide (n < 2147483648) = false := by simp; omega
    go_enter Tryz.func26, Tryz.ntmps26
    go_wp2
    go_ret
    exact ⟨rfl, rfl⟩
  · have e : sm n = true := sm_yes h1 h2
    rw [e]
    have hd : decide (-2147483648 ≤ n) = true := by simp; omega
    have hd2 : decide (n < 2147483648) = true := by simp; omega
    go_enter Tryz.func26, Tryz.ntmps26
    go_wp2
    go_ret
    exact ⟨rfl, rfl⟩

theorem opOk_sm {o : OpT} (h1 : ¬ o.kind < 0) (h2 : ¬ 255 < o.kind) (h3 : ¬ 255 < o.cas.size) (h4 : ¬ 255 < o.name.size) (h5 : sm o.n = true) : opOk o = true := by
  unfold opOk
  rw [h5]
  simp
  omega
theorem opOk_smno {o : OpT} (h5 : sm o.n = false) : opOk o = false := by
  unfold opOk
  rw [h5]
  simp

set_option maxHeartbeats 4000000 in
set_option maxRecDepth 100000 in
theorem right_any (x : ItT) (v : Value) (w : World) (hO : OpsAt w v x.ops) :
    Calls Tryz.prog 9 #[.agg (itCells x v)] w fun e w' => e = .returned (.bool (itOk x)) ∧ Below w.heap.size w w' := by
  obtain ⟨a, c, rfl, hlc, hcm, hO⟩ := hO
  have HO := Lib.hid hO; clear hO
  have hm : c ≤ 9223372036854775807 := by unfold maxLen at hcm; omega
  unfold itCells
  have HB0 := Lib.hid ((Below.refl w.heap.size w).alloc (Nat.le_refl _) (.cells (itCells x (.slice a x.ops.length c)) 34))
  unfold itCells at HB0
  by_cases hk1 : x.kind < 1
  · have e : itOk x = false := by unfold itOk; simp; omega
    rw [e]
    go_enter Tryz.func9, Tryz.ntmps9
    go_wp2_with (fail)
    go_ret
    exact ⟨rfl, HB0.out⟩
  by_cases hk2 : 9 < x.kind
  · have e : itOk x = false := by unfold itOk; simp; omega
    rw [e]
    go_enter Tryz.func9, Tryz.ntmps9
    go_wp2_with (fail)
    go_ret
    exact ⟨rfl, HB0.out⟩
  by_cases hk3 : (4 : Int) < (x.ops.length : Int)
  · have e : itOk x = false := by unfold itOk; simp; omega
    rw [e]
    go_enter Tryz.func9, Tryz.ntmps9
    go_wp2_with (fail)
    go_ret
    exact ⟨rfl, HB0.out⟩
  have HXi := Lib.hid (heap_alloc_new w (.cells (itCells x (.slice a x.ops.length c)) 34))
  unfold itCells at HXi
  go_enter Tryz.func9, Tryz.ntmps9
  go_wp2_with (fail)
  refine (small_any x.client _).mono ?_
  rintro e w' ⟨rfl, rfl⟩
  cases q1 : sm x.client with
  | false =>
    go_wp2_with (fail)
    go_ret
    rw [itOk_num (k := 0) rfl q1]
    exact ⟨rfl, HB0.out⟩
  | true =>
  have Q1 := Lib.hid q1; clear q1
  go_wp2_with (fail)
  refine (small_any x.node _).mono ?_
  rintro e w' ⟨rfl, rfl⟩
  cases q2 : sm x.node with
  | false =>
    go_wp2_with (fail)
    go_ret
    rw [itOk_num (k := 1) rfl q2]
    exact ⟨rfl, HB0.out⟩
  | true =>
  have Q2 := Lib.hid q2; clear q2
  go_wp2_with (fail)
  refine (small_any x.n _).mono ?_
  rintro e w' ⟨rfl, rfl⟩
  cases q3 : sm x.n with
  | false =>
    go_wp2_with (fail)
    go_ret
    rw [itOk_num (k := 2) rfl q3]
    exact ⟨rfl, HB0.out⟩
  | true =>
  have Q3 := Lib.hid q3; clear q3
  go_wp2_with (fail)
  refine (small_any x.lo _).mono ?_
  rintro e w' ⟨rfl, rfl⟩
  cases q4 : sm x.lo with
  | false =>
    go_wp2_with (fail)
    go_ret
    rw [itOk_num (k := 3) rfl q4]
    exact ⟨rfl, HB0.out⟩
  | true =>
  have Q4 := Lib.hid q4; clear q4
  go_wp2_with (fail)
  refine (small_any x.hi _).mono ?_
  rintro e w' ⟨rfl, rfl⟩
  cases q5 : sm x.hi with
  | false =>
    go_wp2_with (fail)
    go_ret
    rw [itOk_num (k := 4) rfl q5]
    exact ⟨rfl, HB0.out⟩
  | true =>
  have Q5 := Lib.hid q5; clear q5
  go_wp2_with (fail)
  refine (small_any x.group _).mono ?_
  rintro e w' ⟨rfl, rfl⟩
  cases q6 : sm x.group with
  | false =>
    go_wp2_with (fail)
    go_ret
    rw [itOk_num (k := 5) rfl q6]
    exact ⟨rfl, HB0.out⟩
  | true =>
  have hal : (nums x).all sm = true := by
    unfold nums
    simp [Q1.out, Q2.out, Q3.out, Q4.out, Q5.out, q6]
  have HAll := Lib.hid hal; clear hal q6
  have hsz : (w.alloc (.cells #[.int .i64 x.kind, .int .i64 x.client, .int .i64 x.node, .int .i64 x.n, .int .i64 x.lo, .int .i64 x.hi, .int .i64 x.group, .slice a x.ops.length c] 34)).heap.size = w.heap.size + 1 := by simp
  go_wp2_with (fail)
  generalize w.alloc (.cells #[.int .i64 x.kind, .int .i64 x.client, .int .i64 x.node, .int .i64 x.n, .int .i64 x.lo, .int .i64 x.hi, .int .i64 x.group, .slice a x.ops.length c] 34) = X at *
  go_loopw [3] (fun i wr => ∃ k : Nat, i = .int .i64 k ∧ k ≤ x.ops.length ∧ Hid ((x.ops.take k).all opOk = true) ∧ Below X.heap.size X wr) (fun i _ => x.ops.length - (intOf i).toNat)
  case atStart => exact ⟨0, rfl, by omega, Lib.hid rfl, Below.refl _ _⟩
  case round =>
    obtain ⟨k, rfl, hkl, HAo, hbr⟩ := hrel
    have c7 : wr.cell? ⟨w.heap.size, 7, none⟩ = some (.slice a x.ops.length c) := (hbr.cell (p := ⟨w.heap.size, 7, none⟩) (by show w.heap.size < _; omega)).trans (cell_blk HXi.out rfl)
    have hbw := HB0.out.trans (hbr.mono (by omega))
    by_cases hlt : k < x.ops.length
    · have ho : ∃ o, x.ops[k]? = some o := ⟨_, List.getElem?_eq_getElem hlt⟩
      obtain ⟨o, ho⟩ := ho
      rcases HO.out with h0 | ⟨b', o', rfl, hb', hs⟩
      · omega
      obtain ⟨d0, d1, d2, d3⟩ := hs k o ho
      have e0 := (hbw.cell (p := ⟨b', o' + k * 4, none⟩) hb').trans d0
      have e1 := (hbw.cell (p := ⟨b', o' + k * 4 + 1, none⟩) hb').trans d1
      have e2 := (hbw.cell (p := ⟨b', o' + k * 4 + 2, none⟩) hb').trans d2
      have e3 := (hbw.cell (p := ⟨b', o' + k * 4 + 3, none⟩) hb').trans d3
      have hbr2 := hbr.alloc hbr.size (.cells (opCells o) 45)
      have hbw2 := hbw.alloc hbw.size (.cells (opCells o) 45)
      unfold opCells at hbr2 hbw2
      have HBr := Lib.hid hbr2
      have HBw := Lib.hid hbw2
      have HOo := Lib.hid ho
      have HS := Lib.hid hs
      clear hs d0 d1 d2 d3 hbr2 ho hbw2 hbw
      by_cases p1 : o.kind < 0
      · go_wp2_with (fail)
        go_ret
        rw [itOk_op HOo.out (opOk_no (.inl p1))]
        exact ⟨rfl, HBw.out⟩
      by_cases p2 : 255 < o.kind
      · go_wp2_with (fail)
        go_ret
        rw [itOk_op HOo.out (opOk_no (.inr (.inl p2)))]
        exact ⟨rfl, HBw.out⟩
      go_wp2_with (fail)
      refine (small_any o.n _).mono ?_
      rintro e w' ⟨rfl, rfl⟩
      cases p3 : sm o.n with
      | false =>
        go_wp2_with (fail)
        go_ret
        rw [itOk_op HOo.out (opOk_smno p3)]
        exact ⟨rfl, HBw.out⟩
      | true =>
      have P3 := Lib.hid p3; clear p3
      by_cases p4 : (255 : Int) < (o.cas.size : Int)
      · go_wp2_with (fail)
        go_ret
        rw [itOk_op HOo.out (opOk_no (.inr (.inr (.inl (by omega)))))]
        exact ⟨rfl, HBw.out⟩
      by_cases p5 : (255 : Int) < (o.name.size : Int)
      · go_wp2_with (fail)
        go_ret
        rw [itOk_op HOo.out (opOk_no (.inr (.inr (.inr (.inl (by omega))))))]
        exact ⟨rfl, HBw.out⟩
      have hok := opOk_sm (o := o) (by omega) (by omega) (by omega) (by omega) P3.out
      have HOk := Lib.hid hok; clear hok
      go_wp2_with (fail)
      go_roundw
      case rel => exact ⟨k + 1, by simp, by omega, Lib.hid (all_take HAo.out HOo.out HOk.out), HBr.out⟩
      case measure => simp [intOf]; omega
    · obtain rfl : k = x.ops.length := by omega
      have e : itOk x = true := itOk_all ⟨by omega, by omega⟩ (by omega) HAll.out HAo.out
      have HE := Lib.hid e; clear e
      have HBw := Lib.hid hbw; clear hbw hbr
      go_wp2_with (fail)
      go_ret
      rw [HE.out]
      exact ⟨rfl, HBw.out⟩
end Go.Proofs.YtfpigjgomcilbaaGreatDoorR

