/- Chapter 11: contracts of the granter's methods. -/
import Derived.Test.YtjokjbihkejagaaLa
import Derived.Deep.Draws
import Derived.Deep.AppendLies
import Derived.OwnWalk
namespace Go.Proofs.Ytjokjbihkejagaa
open Go.RowKit

theorem ret_bool {a b : Bool} (h : a = b) : Ending.returned (.bool a) = .returned (.bool b) := by rw [h]

/-- A granter of the program lies in block g. -/
structure Gr (w : World) (g : Nat) (a b c : Int) : Prop where
  c0 : w.cell? ⟨g, 0, none⟩ = some (.int .i64 a)
  c1 : w.cell? ⟨g, 1, none⟩ = some (.int .i64 b)
  c2 : w.cell? ⟨g, 2, none⟩ = some (.int .i64 c)
  f0 : w.frozen? ⟨g, 0, none⟩ = false
  f1 : w.frozen? ⟨g, 1, none⟩ = false
  f2 : w.frozen? ⟨g, 2, none⟩ = false

theorem Gr.below {w w' : World} {g : Nat} {a b c : Int} (h : Gr w g a b c) (hb : Below w.heap.size w w') (hg : g < w.heap.size) : Gr w' g a b c :=
  ⟨(hb.cell (p := ⟨g, 0, none⟩) hg).trans h.c0, (hb.cell (p := ⟨g, 1, none⟩) hg).trans h.c1, (hb.cell (p := ⟨g, 2, none⟩) hg).trans h.c2,
    (hb.frozen (p := ⟨g, 0, none⟩) hg).trans h.f0, (hb.frozen (p := ⟨g, 1, none⟩) hg).trans h.f1, (hb.frozen (p := ⟨g, 2, none⟩) hg).trans h.f2⟩

theorem Gr.grown {w w' : World} {g k : Nat} {a b c : Int} (h : Gr w g a b c) (hb : w.grownBy w' (some k)) (hg : g < w.heap.size) (hk : g ≠ k) : Gr w' g a b c :=
  have hn : (some g : Option Nat) ≠ some k := fun e => hk (by injection e)
  ⟨(hb.cell_far ⟨g, 0, none⟩ hg hn).trans h.c0, (hb.cell_far ⟨g, 1, none⟩ hg hn).trans h.c1, (hb.cell_far ⟨g, 2, none⟩ hg hn).trans h.c2,
    (hb.frozen_far ⟨g, 0, none⟩ hg hn).trans h.f0, (hb.frozen_far ⟨g, 1, none⟩ hg hn).trans h.f1, (hb.frozen_far ⟨g, 2, none⟩ hg hn).trans h.f2⟩

theorem grownBy_below {a w : World} (h : Below a.heap.size a w) (row : Option Nat) : a.grownBy w row := ⟨h.os, h.tape, h.output, h.size, fun i hi _ => h.block i hi⟩
theorem grownBy_trans {a b c : World} {row : Option Nat} (h : a.grownBy b row) (k : b.grownBy c row) : a.grownBy c row :=
  ⟨k.os.trans h.os, k.tape.trans h.tape, k.output.trans h.output, Nat.le_trans h.size k.size, fun i hi hn => (k.block i (Nat.lt_of_lt_of_le hi h.size) hn).trans (h.block i hi hn)⟩
theorem grownBy_setCell {a w : World} {g : Nat} (h : a.grownBy w (some g)) {p : Addr} (hp : p.block = g) (u : Value) : a.grownBy (w.setCell p u) (some g) :=
  ⟨h.os, h.tape, h.output, by simpa [World.setCell] using h.size, fun i hi hne => (Below.heap_setCell w p u i (by
    rintro rfl
    exact hne (by rw [hp]))).trans (h.block i hi hne)⟩
theorem grownBy_drew {a w : World} {row : Option Nat} (h : a.grownBy w row) : a.grownBy w.drew row := ⟨h.os, h.tape, h.output, h.size, h.block⟩

def barB (whom gn till node now : Int) : Bool := decide (now < till ∧ (whom = 2 ∨ (whom = 1 ∧ node ≠ gn)))

set_option maxHeartbeats 400000 in
theorem barred_any (g : Nat) (whom gn till node now : Int) (w : World) (h : Gr w g whom gn till) :
    Calls Try.prog 15 #[.pointer (some ⟨g, 0, none⟩), .int .i64 node, .int .i64 now] w fun e w' => e = .returned (.bool (barB whom gn till node now)) ∧ w = w' := by
  obtain ⟨h0, h1, h2, -, -, -⟩ := h
  go_enter Try.func15, Try.ntmps15
  go_wp2
  all_goals
    go_ret
    refine ⟨ret_bool ?_, rfl⟩
    rw [Bool.eq_iff_iff]
    simp [barB]
    try omega
    try simp [*]
    try omega

theorem barred_no (g : Nat) (whom gn till node now : Int) (w : World) (h : Gr w g whom gn till) (hb : barB whom gn till node now = false) :
    Calls Try.prog 15 #[.pointer (some ⟨g, 0, none⟩), .int .i64 node, .int .i64 now] w fun e w' => e = .returned (.bool false) ∧ w = w' :=
  (barred_any g whom gn till node now w h).mono fun _ _ ⟨he, hw⟩ => ⟨by rw [he, hb], hw⟩
theorem barred_yes (g : Nat) (whom gn till node now : Int) (w : World) (h : Gr w g whom gn till) (hb : barB whom gn till node now = true) :
    Calls Try.prog 15 #[.pointer (some ⟨g, 0, none⟩), .int .i64 node, .int .i64 now] w fun e w' => e = .returned (.bool true) ∧ w = w' :=
  (barred_any g whom gn till node now w h).mono fun _ _ ⟨he, hw⟩ => ⟨by rw [he, hb], hw⟩

theorem new_yes (r : Int) (w : World) (hr : 0 ≤ r) (hr' : r ≤ 500) :
    Calls Try.prog 12 #[.int .i64 r] w fun e w' => e = .returned (.tuple #[.pointer (some ⟨w.heap.size, 0, none⟩), .int .i64 0]) ∧ w' = w.alloc (.cells #[.int .i64 0, .int .i64 0, .int .i64 0] 66) := by
  go_enter Try.func12, Try.ntmps12
  go_wp2_with (first
    | (go_at_call 29; refine (drifts_yes _ _ hr hr').mono ?_; rintro e w' ⟨rfl, rfl⟩))
  go_ret2
  exact ⟨rfl, rfl⟩

theorem new_no (r : Int) (w : World) (h : r < 0 ∨ 500 < r) :
    Calls Try.prog 12 #[.int .i64 r] w fun e w' => e = .returned (.tuple #[.pointer none, .int .i64 1]) ∧ w = w' := by
  have HB := Lib.hid h; clear h
  go_enter Try.func12, Try.ntmps12
  go_wp2_with (first
    | (go_at_call 29; refine (drifts_no _ _ HB.out).mono ?_; rintro e w' ⟨rfl, rfl⟩))
  go_ret2
  exact ⟨rfl, rfl⟩

theorem gr_new (w : World) : Gr (w.alloc (.cells #[.int .i64 0, .int .i64 0, .int .i64 0] 66)) w.heap.size 0 0 0 :=
  ⟨by simp, by simp, by simp, by simp, by simp, by simp⟩

theorem gr_set {w : World} {g : Nat} {a b c : Int} (h : Gr w g a b c) (x y z : Int) :
    Gr (((w.setCell ⟨g, 0, none⟩ (.int .i64 x)).setCell ⟨g, 1, none⟩ (.int .i64 y)).setCell ⟨g, 2, none⟩ (.int .i64 z)) g x y z := by
  have n01 : (⟨g, 0, none⟩ : Addr) ≠ ⟨g, 1, none⟩ := by simp
  have n02 : (⟨g, 0, none⟩ : Addr) ≠ ⟨g, 2, none⟩ := by simp
  have n12 : (⟨g, 1, none⟩ : Addr) ≠ ⟨g, 2, none⟩ := by simp
  refine ⟨?_, ?_, ?_, by simpa using h.f0, by simpa using h.f1, by simpa using h.f2⟩
  · rw [World.cell?_setCell_other _ _ _ _ n02.symm, World.cell?_setCell_other _ _ _ _ n01.symm]
    exact World.cell?_setCell_same _ _ _ h.c0
  · rw [World.cell?_setCell_other _ _ _ _ n12.symm]
    exact World.cell?_setCell_same _ _ _ (u := .int .i64 b) (by rw [World.cell?_setCell_other _ _ _ _ n01]; exact h.c1)
  · exact World.cell?_setCell_same _ _ _ (u := .int .i64 c) (by rw [World.cell?_setCell_other _ _ _ _ n12, World.cell?_setCell_other _ _ _ _ n02]; exact h.c2)

theorem gr_set02 {w : World} {g : Nat} {a b c : Int} (h : Gr w g a b c) (x z : Int) :
    Gr ((w.setCell ⟨g, 0, none⟩ (.int .i64 x)).setCell ⟨g, 2, none⟩ (.int .i64 z)) g x b z := by
  have n01 : (⟨g, 0, none⟩ : Addr) ≠ ⟨g, 1, none⟩ := by simp
  have n02 : (⟨g, 0, none⟩ : Addr) ≠ ⟨g, 2, none⟩ := by simp
  have n12 : (⟨g, 1, none⟩ : Addr) ≠ ⟨g, 2, none⟩ := by simp
  refine ⟨?_, ?_, ?_, by simpa using h.f0, by simpa using h.f1, by simpa using h.f2⟩
  · rw [World.cell?_setCell_other _ _ _ _ n02.symm]
    exact World.cell?_setCell_same _ _ _ h.c0
  · rw [World.cell?_setCell_other _ _ _ _ n12.symm, World.cell?_setCell_other _ _ _ _ n01]
    exact h.c1
  · exact World.cell?_setCell_same _ _ _ (u := .int .i64 c) (by rw [World.cell?_setCell_other _ _ _ _ n02]; exact h.c2)

set_option maxHeartbeats 400000 in
theorem ask_yes (g : Nat) (whom gn till node now l : Int) (w : World) (hg : g < w.heap.size) (h : Gr w g whom gn till) (hn : 0 ≤ node) (ha : 0 ≤ now) (ha' : now ≤ 1073741824) (hl : 0 ≤ l) (hl' : l ≤ 1073741824)
    (hb : barB whom gn till node now = false) :
    Calls Try.prog 13 #[.pointer (some ⟨g, 0, none⟩), .int .i64 node, .int .i64 now, .int .i64 l] w fun e w' => e = .returned (.bool true) ∧ Gr w' g 1 node (max till (now + l)) ∧ w.grownBy w' (some g) := by
  have HB := Lib.hid hb; clear hb
  have hd : decide (node < 0) = false := by simp; omega
  go_enter Try.func13, Try.ntmps13
  go_wp2_with (fail)
  refine (bar_yes _ _ _ ha ha' hl hl').mono ?_
  rintro e w1 ⟨rfl, hw1⟩
  have h1 := h.below hw1 hg
  go_wp2_with (fail)
  refine (barred_no _ _ _ _ _ _ _ h1 HB.out).mono ?_
  rintro e w' ⟨rfl, rfl⟩
  have hg1 := gr_set h1 1 node
  obtain ⟨c0, c1, c2, f0, f1, f2⟩ := h1
  have hx : w.grownBy w1 (some g) := grownBy_below hw1 _
  go_wp2_with (fail)
  · go_ret
    refine ⟨rfl, ?_, grownBy_setCell (grownBy_setCell (grownBy_setCell hx rfl _) rfl _) rfl _⟩
    rw [Int.max_eq_right (by omega)]
    exact hg1 _
  · go_ret
    refine ⟨rfl, ?_, grownBy_setCell (grownBy_setCell (grownBy_setCell hx rfl _) rfl _) rfl _⟩
    rw [Int.max_eq_left (by omega)]
    exact hg1 _

set_option maxHeartbeats 400000 in
theorem ask_no (g : Nat) (whom gn till node now l : Int) (w : World) (hg : g < w.heap.size) (h : Gr w g whom gn till)
    (hb : node < 0 ∨ ((now < 0 ∨ 1073741824 < now) ∨ (l < 0 ∨ 1073741824 < l)) ∨ barB whom gn till node now = true) :
    Calls Try.prog 13 #[.pointer (some ⟨g, 0, none⟩), .int .i64 node, .int .i64 now, .int .i64 l] w fun e w' => e = .returned (.bool false) ∧ Below w.heap.size w w' := by
  by_cases hf : (now < 0 ∨ 1073741824 < now) ∨ (l < 0 ∨ 1073741824 < l)
  · have HF := Lib.hid hf; clear hf
    clear hb
    by_cases hn : node < 0
    · go_enter Try.func13, Try.ntmps13
      go_wp2_with (fail)
      refine (bar_no _ _ _ HF.out).mono ?_
      rintro e w1 ⟨rfl, hw1⟩
      go_wp2_with (fail)
      go_ret
      exact ⟨rfl, hw1⟩
    · have hd : decide (node < 0) = false := by simp; omega
      go_enter Try.func13, Try.ntmps13
      go_wp2_with (fail)
      refine (bar_no _ _ _ HF.out).mono ?_
      rintro e w1 ⟨rfl, hw1⟩
      go_wp2_with (fail)
      go_ret
      exact ⟨rfl, hw1⟩
  · obtain ⟨ha, ha', hl, hl'⟩ : 0 ≤ now ∧ now ≤ 1073741824 ∧ 0 ≤ l ∧ l ≤ 1073741824 := by omega
    by_cases hn : node < 0
    · clear hb hf
      go_enter Try.func13, Try.ntmps13
      go_wp2_with (fail)
      refine (bar_yes _ _ _ ha ha' hl hl').mono ?_
      rintro e w1 ⟨rfl, hw1⟩
      go_wp2_with (fail)
      go_ret
      exact ⟨rfl, hw1⟩
    · have hd : decide (node < 0) = false := by simp; omega
      have hb' : barB whom gn till node now = true := by
        rcases hb with hb | hb | hb
        · omega
        · exact (hf hb).elim
        · exact hb
      have HB := Lib.hid hb'; clear hb'
      clear hb hf
      go_enter Try.func13, Try.ntmps13
      go_wp2_with (fail)
      refine (bar_yes _ _ _ ha ha' hl hl').mono ?_
      rintro e w1 ⟨rfl, hw1⟩
      have h1 := h.below hw1 hg
      go_wp2_with (fail)
      refine (barred_yes _ _ _ _ _ _ _ h1 HB.out).mono ?_
      rintro e w' ⟨rfl, rfl⟩
      go_wp2_with (fail)
      go_ret
      exact ⟨rfl, hw1⟩

set_option maxHeartbeats 400000 in
theorem lost_yes (g : Nat) (whom gn till now l : Int) (w : World) (hg : g < w.heap.size) (h : Gr w g whom gn till) (ha : 0 ≤ now) (ha' : now ≤ 1073741824) (hl : 0 ≤ l) (hl' : l ≤ 1073741824) :
    Calls Try.prog 18 #[.pointer (some ⟨g, 0, none⟩), .int .i64 now, .int .i64 l] w fun e w' => e = .returned (.tuple #[]) ∧ Gr w' g 2 gn (max till (now + l)) ∧ w.grownBy w' (some g) := by
  go_enter Try.func18, Try.ntmps18
  go_wp2_with (fail)
  refine (bar_yes _ _ _ ha ha' hl hl').mono ?_
  rintro e w1 ⟨rfl, hw1⟩
  have h1 := h.below hw1 hg
  have hg1 := gr_set02 h1 2
  obtain ⟨c0, c1, c2, f0, f1, f2⟩ := h1
  have hx : w.grownBy w1 (some g) := grownBy_below hw1 _
  go_wp2_with (fail)
  · go_end0
    refine ⟨rfl, ?_, grownBy_setCell (grownBy_setCell hx rfl _) rfl _⟩
    rw [Int.max_eq_right (by omega)]
    exact hg1 _
  · go_end0
    refine ⟨rfl, ?_, grownBy_setCell (grownBy_setCell hx rfl _) rfl _⟩
    rw [Int.max_eq_left (by omega)]
    exact hg1 _

set_option maxHeartbeats 400000 in
theorem lost_no (g : Nat) (now l : Int) (w : World) (h : (now < 0 ∨ 1073741824 < now) ∨ (l < 0 ∨ 1073741824 < l)) :
    Calls Try.prog 18 #[.pointer (some ⟨g, 0, none⟩), .int .i64 now, .int .i64 l] w fun e w' => e = .returned (.tuple #[]) ∧ Below w.heap.size w w' := by
  have HF := Lib.hid h; clear h
  go_enter Try.func18, Try.ntmps18
  go_wp2_with (fail)
  refine (bar_no _ _ _ HF.out).mono ?_
  rintro e w1 ⟨rfl, hw1⟩
  go_wp2_with (fail)
  go_end0
  exact ⟨rfl, hw1⟩

theorem until_any (g : Nat) (whom gn till : Int) (w : World) (h : Gr w g whom gn till) :
    Calls Try.prog 21 #[.pointer (some ⟨g, 0, none⟩)] w fun e w' => e = .returned (.int .i64 till) ∧ w = w' := by
  obtain ⟨c0, c1, c2, f0, f1, f2⟩ := h
  go_enter Try.func21, Try.ntmps21
  go_wp2
  go_ret
  exact ⟨rfl, rfl⟩

end Go.Proofs.Ytjokjbihkejagaa
