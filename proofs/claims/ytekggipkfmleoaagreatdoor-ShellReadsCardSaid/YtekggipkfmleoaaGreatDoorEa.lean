/- shell.numbers, fine, Encode; the law's own 'right'. -/
import Derived.Test.YtekggipkfmleoaaGreatDoorWa
import Derived.Deep.QuietTactic
import Derived.BigQuiet
import Derived.Deep.RegionLaw
import Derived.Deep.CutBlock
import Derived.Deep.DeepCutAuto
import Derived.Deep.Onto
set_option linter.unusedVariables false
set_option linter.unusedSimpArgs false
namespace Go.Proofs.YtekggipkfmleoaaGreatDoor
open Go.RowKit

theorem itOk_op {x : ItT} {k : Nat} {o : OpT} (h : x.ops[k]? = some o) (h2 : opOk o = false) : itOk x = false := by
  unfold itOk
  have : x.ops.all opOk = false := by
    rw [List.all_eq_false]
    exact ⟨o, List.mem_of_getElem? h, by simp [h2]⟩
  rw [this]
  simp
theorem all_take {α : Type} {p : α → Bool} {l : List α} {k : Nat} {x : α} (h : (l.take k).all p = true) (hk : l[k]? = some x) (hx : p x = true) : (l.take (k + 1)).all p = true := by
  rw [List.take_add_one, hk, List.all_append, h]
  simp [hx]
theorem itOk_all {x : ItT} (h1 : 1 ≤ x.kind ∧ x.kind ≤ 9) (h2 : x.ops.length ≤ 4) (h3 : (nums x).all sm = true) (h4 : (x.ops.take x.ops.length).all opOk = true) : itOk x = true := by
  rw [List.take_length] at h4
  unfold itOk
  rw [h3, h4]
  simp [h1, h2]
theorem itOk_num {x : ItT} {k : Nat} {n : Int} (h : (nums x)[k]? = some n) (h2 : sm n = false) : itOk x = false := by
  unfold itOk
  have : (nums x).all sm = false := by
    rw [List.all_eq_false]
    exact ⟨n, List.mem_of_getElem? h, by simp [h2]⟩
  rw [this]
  simp
theorem opOk_all {o : OpT} (h1 : ¬ o.kind < 0) (h2 : ¬ 255 < o.kind) (h3 : ¬ 255 < o.cas.size) (h4 : ¬ 255 < o.name.size) (h5 : ¬ o.n < -2147483648) (h6 : ¬ 2147483647 < o.n) : opOk o = true := by
  unfold opOk sm
  simp
  omega
theorem opOk_no {o : OpT} (h : o.kind < 0 ∨ 255 < o.kind ∨ 255 < o.cas.size ∨ 255 < o.name.size ∨ o.n < -2147483648 ∨ 2147483647 < o.n) : opOk o = false := by
  cases hq : opOk o with
  | false => rfl
  | true =>
    unfold opOk sm at hq
    simp at hq
    omega
theorem sm_no {n : Int} (h : n < -2147483648 ∨ 2147483647 < n) : sm n = false := by
  unfold sm
  simp
  omega
theorem sm_yes {n : Int} (h1 : ¬ n < -2147483648) (h2 : ¬ 2147483647 < n) : sm n = true := by
  unfold sm
  simp
  omega

/-- the pointers to an item's numbers -/
def ptrs (b : Nat) : Array Value := #[.pointer (some ⟨b, 1, none⟩), .pointer (some ⟨b, 2, none⟩), .pointer (some ⟨b, 3, none⟩), .pointer (some ⟨b, 4, none⟩), .pointer (some ⟨b, 5, none⟩), .pointer (some ⟨b, 6, none⟩)]
def itCells (x : ItT) (v : Value) : Array Value := #[.int .i64 x.kind, .int .i64 x.client, .int .i64 x.node, .int .i64 x.n, .int .i64 x.lo, .int .i64 x.hi, .int .i64 x.group, v]
def opCells (o : OpT) : Array Value := #[.int .i64 o.kind, .string o.cas, .string o.name, .int .i64 o.n]

set_option maxHeartbeats 2000000 in
set_option maxRecDepth 100000 in
theorem numbers_any (b : Nat) (w : World) :
    Calls Tryz.prog 33 #[.pointer (some ⟨b, 0, none⟩)] w fun e w' => e = .returned (.slice (some ⟨w.heap.size, 0, none⟩) 6 6) ∧ w'.heap[w.heap.size]? = some (.cells (ptrs b) 78 (0, 0)) ∧ Below w.heap.size w w' := by
  go_enter Tryz.func33, Tryz.ntmps33
  go_wp2_with (fail)
  go_region_law (fail)
  all_goals
    go_wp2_with (fail)
    go_ret
    exact ⟨rfl, heap_alloc_new _ _, ((Below.refl _ _).alloc (Nat.le_refl _) _).drew⟩

theorem ptr_at (b j : Nat) (h : j < 6) : (ptrs b)[j]? = some (.pointer (some ⟨b, 1 + j, none⟩)) := by
  have : j = 0 ∨ j = 1 ∨ j = 2 ∨ j = 3 ∨ j = 4 ∨ j = 5 := by omega
  rcases this with rfl | rfl | rfl | rfl | rfl | rfl <;> rfl
theorem num_at (x : ItT) (v : Value) (j : Nat) (n : Int) (h : (nums x)[j]? = some n) : (itCells x v)[1 + j]? = some (.int .i64 n) := by
  have hj : j < 6 := (List.getElem?_eq_some_iff.1 h).1
  have : j = 0 ∨ j = 1 ∨ j = 2 ∨ j = 3 ∨ j = 4 ∨ j = 5 := by omega
  rcases this with rfl | rfl | rfl | rfl | rfl | rfl <;> (simp [nums] at h; subst h; rfl)
theorem cell_blk {w : World} {b k : Nat} {cs : Array Value} {t : TypeId} {v : Value} (h : w.heap[b]? = some (.cells cs t (0, 0))) (hv : cs[k]? = some v) : w.cell? ⟨b, k, none⟩ = some v := by
  rw [Lib.cell_of_heap h]
  exact hv

end Go.Proofs.YtekggipkfmleoaaGreatDoor

namespace Go.Proofs.YtekggipkfmleoaaGreatDoor
open Go.RowKit

theorem itsB_at {l : List ItT} {k : Nat} {x : ItT} (h : l[k]? = some x) : itsB (l.take (k + 1)) = itsB (l.take k) ++ itB x := by
  rw [List.take_add_one, h]
  simp [itsB]
theorem opsB_at {l : List OpT} {k : Nat} {x : OpT} (h : l[k]? = some x) : opsB (l.take (k + 1)) = opsB (l.take k) ++ opB x := by
  rw [List.take_add_one, h]
  simp [opsB]
theorem fours_at {l : List Int} {k : Nat} {x : Int} (h : l[k]? = some x) : fours (l.take (k + 1)) = fours (l.take k) ++ beN x 4 := by
  rw [List.take_add_one, h]
  simp [fours]
theorem itsB_le {l : List ItT} {k : Nat} (h : (l.take k).all itOk = true) (hl : l.length ≤ 2048) : (itsB (l.take k)).length ≤ 4337664 := by
  have h1 := itsB_len (l.take k) h
  have h2 : (l.take k).length ≤ 2048 := by rw [List.length_take]; omega
  omega
theorem opsB_le {l : List OpT} {k : Nat} (h : l.all opOk = true) (hl : l.length ≤ 4) : (opsB (l.take k)).length ≤ 2092 := by
  have ht : (l.take k).all opOk = true := by
    rw [List.all_eq_true] at h ⊢
    exact fun x hx => h x (List.mem_of_mem_take hx)
  have h1 := opsB_len (l.take k) ht
  have h2 : (l.take k).length ≤ 4 := by rw [List.length_take]; omega
  omega
theorem all_false {α : Type} {p : α → Bool} {l : List α} {k : Nat} {x : α} (hk : l[k]? = some x) (hx : p x = false) : l.all p = false := by
  rw [List.all_eq_false]
  exact ⟨x, List.mem_of_getElem? hk, by simp [hx]⟩
theorem itOk_parts {x : ItT} (h : itOk x = true) : (1 ≤ x.kind ∧ x.kind ≤ 9) ∧ x.ops.length ≤ 4 ∧ (nums x).all sm = true ∧ x.ops.all opOk = true := by
  unfold itOk at h
  simp only [Bool.and_eq_true, decide_eq_true_eq] at h
  exact ⟨h.1, h.2.1, h.2.2.1, h.2.2.2⟩
theorem opOk_sizes {o : OpT} (h : opOk o = true) : o.cas.size ≤ 255 ∧ o.name.size ≤ 255 := by
  unfold opOk at h
  simp only [Bool.and_eq_true, decide_eq_true_eq] at h
  exact ⟨h.2.1, h.2.2.1⟩

def encPost (B : Nat) (l : List ItT) (e : Ending) (w' : World) : Prop :=
  (l.all itOk = true ∧ ∃ v', e = .returned (.tuple #[v', .int .i64 0]) ∧ w'.ownsRow B 5 1 v' (itsB l).length (Lib.byteCells (itsB l))) ∨ (l.all itOk = false ∧ e = .returned (.tuple #[.slice none 0 0, .int .i64 1]))

end Go.Proofs.YtekggipkfmleoaaGreatDoor

namespace Go.Proofs.YtekggipkfmleoaaGreatDoor
open Go.RowKit

theorem small_any (n : Int) (w : World) : Calls Tryz.prog 13 #[.int .i64 n] w fun e w' => e = .returned (.bool (sm n)) ∧ w' = w := by
  by_cases h1 : n < -2147483648
  · have e : sm n = false := sm_no (.inl h1)
    rw [e]
    have hd : decide (-2147483648 ≤ n) = false := by simp; omega
    go_enter Tryz.func13, Tryz.ntmps13
    go_wp2
    go_ret
    exact ⟨rfl, rfl⟩
  by_cases h2 : 2147483647 < n
  · have e : sm n = false := sm_no (.inr h2)
    rw [e]
    have hd : decide (-2147483648 ≤ n) = true := by simp; omega
    have hd2 : decide (n < 2147483648) = false := by simp; omega
    go_enter Tryz.func13, Tryz.ntmps13
    go_wp2
    go_ret
    exact ⟨rfl, rfl⟩
  · have e : sm n = true := sm_yes h1 h2
    rw [e]
    have hd : decide (-2147483648 ≤ n) = true := by simp; omega
    have hd2 : decide (n < 2147483648) = true := by simp; omega
    go_enter Tryz.func13, Tryz.ntmps13
    go_wp2
    go_ret
    exact ⟨rfl, rfl⟩

theorem opOk_sm {o : OpT} (h1 : ¬ o.kind < 0) (h2 : ¬ 255 < o.kind) (h3 : ¬ 255 < o.cas.size) (h4 : ¬ 255 < o.name.size) (h5 : sm o.n = true) : opOk o = true := by
  unfold opOk
  rw [h5]
  simp
  omega
theorem opOk_smno {o : OpT} (h5 : sm o.n = false) : opOk o = false := by
  unfold opOk
  rw [h5]
  simp

set_option maxHeartbeats 4000000 in
set_option maxRecDepth 100000 in
theorem right_any (x : ItT) (v : Value) (w : World) (hO : OpsAt w v x.ops) :
    Calls Tryz.prog 4 #[.agg (itCells x v)] w fun e w' => e = .returned (.bool (itOk x)) ∧ Below w.heap.size w w' := by
  obtain ⟨a, c, rfl, hlc, hcm, hO⟩ := hO
  have HO := Lib.hid hO; clear hO
  have hm : c ≤ 9223372036854775807 := by unfold maxLen at hcm; omega
  unfold itCells
  have HB0 := Lib.hid ((Below.refl w.heap.size w).alloc (Nat.le_refl _) (.cells (itCells x (.slice a x.ops.length c)) 27))
  unfold itCells at HB0
  by_cases hk1 : x.kind < 1
  · have e : itOk x = false := by unfold itOk; simp; omega
    rw [e]
    go_enter Tryz.func4, Tryz.ntmps4
    go_wp2_with (fail)
    go_ret
    exact ⟨rfl, HB0.out⟩
  by_cases hk2 : 9 < x.kind
  · have e : itOk x = false := by unfold itOk; simp; omega
    rw [e]
    go_enter Tryz.func4, Tryz.ntmps4
    go_wp2_with (fail)
    go_ret
    exact ⟨rfl, HB0.out⟩
  by_cases hk3 : (4 : Int) < (x.ops.length : Int)
  · have e : itOk x = false := by unfold itOk; simp; omega
    rw [e]
    go_enter Tryz.func4, Tryz.ntmps4
    go_wp2_with (fail)
    go_ret
    exact ⟨rfl, HB0.out⟩
  have HXi := Lib.hid (heap_alloc_new w (.cells (itCells x (.slice a x.ops.length c)) 27))
  unfold itCells at HXi
  go_enter Tryz.func4, Tryz.ntmps4
  go_wp2_with (fail)
  refine (small_any x.client _).mono ?_
  rintro e w' ⟨rfl, rfl⟩
  cases q1 : sm x.client with
  | false =>
    go_wp2_with (fail)
    go_ret
    rw [itOk_num (k := 0) rfl q1]
    exact ⟨rfl, HB0.out⟩
  | true =>
  have Q1 := Lib.hid q1; clear q1
  go_wp2_with (fail)
  refine (small_any x.node _).mono ?_
  rintro e w' ⟨rfl, rfl⟩
  cases q2 : sm x.node with
  | false =>
    go_wp2_with (fail)
    go_ret
    rw [itOk_num (k := 1) rfl q2]
    exact ⟨rfl, HB0.out⟩
  | true =>
  have Q2 := Lib.hid q2; clear q2
  go_wp2_with (fail)
  refine (small_any x.n _).mono ?_
  rintro e w' ⟨rfl, rfl⟩
  cases q3 : sm x.n with
  | false =>
    go_wp2_with (fail)
    go_ret
    rw [itOk_num (k := 2) rfl q3]
    exact ⟨rfl, HB0.out⟩
  | true =>
  have Q3 := Lib.hid q3; clear q3
  go_wp2_with (fail)
  refine (small_any x.lo _).mono ?_
  rintro e w' ⟨rfl, rfl⟩
  cases q4 : sm x.lo with
  | false =>
    go_wp2_with (fail)
    go_ret
    rw [itOk_num (k := 3) rfl q4]
    exact ⟨rfl, HB0.out⟩
  | true =>
  have Q4 := Lib.hid q4; clear q4
  go_wp2_with (fail)
  refine (small_any x.hi _).mono ?_
  rintro e w' ⟨rfl, rfl⟩
  cases q5 : sm x.hi with
  | false =>
    go_wp2_with (fail)
    go_ret
    rw [itOk_num (k := 4) rfl q5]
    exact ⟨rfl, HB0.out⟩
  | true =>
  have Q5 := Lib.hid q5; clear q5
  go_wp2_with (fail)
  refine (small_any x.group _).mono ?_
  rintro e w' ⟨rfl, rfl⟩
  cases q6 : sm x.group with
  | false =>
    go_wp2_with (fail)
    go_ret
    rw [itOk_num (k := 5) rfl q6]
    exact ⟨rfl, HB0.out⟩
  | true =>
  have hal : (nums x).all sm = true := by
    unfold nums
    simp [Q1.out, Q2.out, Q3.out, Q4.out, Q5.out, q6]
  have HAll := Lib.hid hal; clear hal q6
  have hsz : (w.alloc (.cells #[.int .i64 x.kind, .int .i64 x.client, .int .i64 x.node, .int .i64 x.n, .int .i64 x.lo, .int .i64 x.hi, .int .i64 x.group, .slice a x.ops.length c] 27)).heap.size = w.heap.size + 1 := by simp
  go_wp2_with (fail)
  generalize w.alloc (.cells #[.int .i64 x.kind, .int .i64 x.client, .int .i64 x.node, .int .i64 x.n, .int .i64 x.lo, .int .i64 x.hi, .int .i64 x.group, .slice a x.ops.length c] 27) = X at *
  go_loopw [3] (fun i wr => ∃ k : Nat, i = .int .i64 k ∧ k ≤ x.ops.length ∧ Hid ((x.ops.take k).all opOk = true) ∧ Below X.heap.size X wr) (fun i _ => x.ops.length - (intOf i).toNat)
  case atStart => exact ⟨0, rfl, by omega, Lib.hid rfl, Below.refl _ _⟩
  case round =>
    obtain ⟨k, rfl, hkl, HAo, hbr⟩ := hrel
    have c7 : wr.cell? ⟨w.heap.size, 7, none⟩ = some (.slice a x.ops.length c) := (hbr.cell (p := ⟨w.heap.size, 7, none⟩) (by show w.heap.size < _; omega)).trans (cell_blk HXi.out rfl)
    have hbw := HB0.out.trans (hbr.mono (by omega))
    by_cases hlt : k < x.ops.length
    · have ho : ∃ o, x.ops[k]? = some o := ⟨_, List.getElem?_eq_getElem hlt⟩
      obtain ⟨o, ho⟩ := ho
      rcases HO.out with h0 | ⟨b', o', rfl, hb', hs⟩
      · omega
      obtain ⟨d0, d1, d2, d3⟩ := hs k o ho
      have e0 := (hbw.cell (p := ⟨b', o' + k * 4, none⟩) hb').trans d0
      have e1 := (hbw.cell (p := ⟨b', o' + k * 4 + 1, none⟩) hb').trans d1
      have e2 := (hbw.cell (p := ⟨b', o' + k * 4 + 2, none⟩) hb').trans d2
      have e3 := (hbw.cell (p := ⟨b', o' + k * 4 + 3, none⟩) hb').trans d3
      have hbr2 := hbr.alloc hbr.size (.cells (opCells o) 38)
      have hbw2 := hbw.alloc hbw.size (.cells (opCells o) 38)
      unfold opCells at hbr2 hbw2
      have HBr := Lib.hid hbr2
      have HBw := Lib.hid hbw2
      have HOo := Lib.hid ho
      have HS := Lib.hid hs
      clear hs d0 d1 d2 d3 hbr2 ho hbw2 hbw
      by_cases p1 : o.kind < 0
      · go_wp2_with (fail)
        go_ret
        rw [itOk_op HOo.out (opOk_no (.inl p1))]
        exact ⟨rfl, HBw.out⟩
      by_cases p2 : 255 < o.kind
      · go_wp2_with (fail)
        go_ret
        rw [itOk_op HOo.out (opOk_no (.inr (.inl p2)))]
        exact ⟨rfl, HBw.out⟩
      go_wp2_with (fail)
      refine (small_any o.n _).mono ?_
      rintro e w' ⟨rfl, rfl⟩
      cases p3 : sm o.n with
      | false =>
        go_wp2_with (fail)
        go_ret
        rw [itOk_op HOo.out (opOk_smno p3)]
        exact ⟨rfl, HBw.out⟩
      | true =>
      have P3 := Lib.hid p3; clear p3
      by_cases p4 : (255 : Int) < (o.cas.size : Int)
      · go_wp2_with (fail)
        go_ret
        rw [itOk_op HOo.out (opOk_no (.inr (.inr (.inl (by omega)))))]
        exact ⟨rfl, HBw.out⟩
      by_cases p5 : (255 : Int) < (o.name.size : Int)
      · go_wp2_with (fail)
        go_ret
        rw [itOk_op HOo.out (opOk_no (.inr (.inr (.inr (.inl (by omega))))))]
        exact ⟨rfl, HBw.out⟩
      have hok := opOk_sm (o := o) (by omega) (by omega) (by omega) (by omega) P3.out
      have HOk := Lib.hid hok; clear hok
      go_wp2_with (fail)
      go_roundw
      case rel => exact ⟨k + 1, by simp, by omega, Lib.hid (all_take HAo.out HOo.out HOk.out), HBr.out⟩
      case measure => simp [intOf]; omega
    · obtain rfl : k = x.ops.length := by omega
      have e : itOk x = true := itOk_all ⟨by omega, by omega⟩ (by omega) HAll.out HAo.out
      have HE := Lib.hid e; clear e
      have HBw := Lib.hid hbw; clear hbw hbr
      go_wp2_with (fail)
      go_ret
      rw [HE.out]
      exact ⟨rfl, HBw.out⟩
end Go.Proofs.YtekggipkfmleoaaGreatDoor

