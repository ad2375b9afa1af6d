/- Chapter 11: contracts of the reference's granter, and of the runs that are known. -/
import Derived.Test.YtjokjbihkejagaaLb
namespace Go.Proofs.Ytjokjbihkejagaa
open Go.RowKit

/-- A granter of the reference lies in block g. -/
structure Rr (w : World) (g : Nat) (a b : Bool) (c d : Int) : Prop where
  c0 : w.cell? ⟨g, 0, none⟩ = some (.bool a)
  c1 : w.cell? ⟨g, 1, none⟩ = some (.bool b)
  c2 : w.cell? ⟨g, 2, none⟩ = some (.int .i64 c)
  c3 : w.cell? ⟨g, 3, none⟩ = some (.int .i64 d)
  f0 : w.frozen? ⟨g, 0, none⟩ = false
  f1 : w.frozen? ⟨g, 1, none⟩ = false
  f2 : w.frozen? ⟨g, 2, none⟩ = false
  f3 : w.frozen? ⟨g, 3, none⟩ = false

theorem Rr.below {w w' : World} {g : Nat} {a b : Bool} {c d : Int} (h : Rr w g a b c d) (hb : Below w.heap.size w w') (hg : g < w.heap.size) : Rr w' g a b c d :=
  ⟨(hb.cell (p := ⟨g, 0, none⟩) hg).trans h.c0, (hb.cell (p := ⟨g, 1, none⟩) hg).trans h.c1, (hb.cell (p := ⟨g, 2, none⟩) hg).trans h.c2, (hb.cell (p := ⟨g, 3, none⟩) hg).trans h.c3,
    (hb.frozen (p := ⟨g, 0, none⟩) hg).trans h.f0, (hb.frozen (p := ⟨g, 1, none⟩) hg).trans h.f1, (hb.frozen (p := ⟨g, 2, none⟩) hg).trans h.f2, (hb.frozen (p := ⟨g, 3, none⟩) hg).trans h.f3⟩

theorem Rr.grown {w w' : World} {g k : Nat} {a b : Bool} {c d : Int} (h : Rr w g a b c d) (hb : w.grownBy w' (some k)) (hg : g < w.heap.size) (hk : g ≠ k) : Rr w' g a b c d :=
  have hn : (some g : Option Nat) ≠ some k := fun e => hk (by injection e)
  ⟨(hb.cell_far ⟨g, 0, none⟩ hg hn).trans h.c0, (hb.cell_far ⟨g, 1, none⟩ hg hn).trans h.c1, (hb.cell_far ⟨g, 2, none⟩ hg hn).trans h.c2, (hb.cell_far ⟨g, 3, none⟩ hg hn).trans h.c3,
    (hb.frozen_far ⟨g, 0, none⟩ hg hn).trans h.f0, (hb.frozen_far ⟨g, 1, none⟩ hg hn).trans h.f1, (hb.frozen_far ⟨g, 2, none⟩ hg hn).trans h.f2, (hb.frozen_far ⟨g, 3, none⟩ hg hn).trans h.f3⟩

theorem Rr.set0 {w : World} {g : Nat} {a b : Bool} {c d : Int} (h : Rr w g a b c d) (x : Bool) : Rr (w.setCell ⟨g, 0, none⟩ (.bool x)) g x b c d :=
  ⟨World.cell?_setCell_same _ _ _ h.c0, by rw [World.cell?_setCell_other _ _ _ _ (by simp)]; exact h.c1, by rw [World.cell?_setCell_other _ _ _ _ (by simp)]; exact h.c2, by rw [World.cell?_setCell_other _ _ _ _ (by simp)]; exact h.c3,
    by simpa using h.f0, by simpa using h.f1, by simpa using h.f2, by simpa using h.f3⟩
theorem Rr.set1 {w : World} {g : Nat} {a b : Bool} {c d : Int} (h : Rr w g a b c d) (x : Bool) : Rr (w.setCell ⟨g, 1, none⟩ (.bool x)) g a x c d :=
  ⟨by rw [World.cell?_setCell_other _ _ _ _ (by simp)]; exact h.c0, World.cell?_setCell_same _ _ _ h.c1, by rw [World.cell?_setCell_other _ _ _ _ (by simp)]; exact h.c2, by rw [World.cell?_setCell_other _ _ _ _ (by simp)]; exact h.c3,
    by simpa using h.f0, by simpa using h.f1, by simpa using h.f2, by simpa using h.f3⟩
theorem Rr.set2 {w : World} {g : Nat} {a b : Bool} {c d : Int} (h : Rr w g a b c d) (x : Int) : Rr (w.setCell ⟨g, 2, none⟩ (.int .i64 x)) g a b x d :=
  ⟨by rw [World.cell?_setCell_other _ _ _ _ (by simp)]; exact h.c0, by rw [World.cell?_setCell_other _ _ _ _ (by simp)]; exact h.c1, World.cell?_setCell_same _ _ _ h.c2, by rw [World.cell?_setCell_other _ _ _ _ (by simp)]; exact h.c3,
    by simpa using h.f0, by simpa using h.f1, by simpa using h.f2, by simpa using h.f3⟩
theorem Rr.set3 {w : World} {g : Nat} {a b : Bool} {c d : Int} (h : Rr w g a b c d) (x : Int) : Rr (w.setCell ⟨g, 3, none⟩ (.int .i64 x)) g a b c x :=
  ⟨by rw [World.cell?_setCell_other _ _ _ _ (by simp)]; exact h.c0, by rw [World.cell?_setCell_other _ _ _ _ (by simp)]; exact h.c1, by rw [World.cell?_setCell_other _ _ _ _ (by simp)]; exact h.c2, World.cell?_setCell_same _ _ _ h.c3,
    by simpa using h.f0, by simpa using h.f1, by simpa using h.f2, by simpa using h.f3⟩

def rbarB (a b : Bool) (c d node now : Int) : Bool := decide (a = true ∧ (b = true ∨ c ≠ node) ∧ now < d)

set_option maxHeartbeats 400000 in
theorem rbarred_any (g : Nat) (a b : Bool) (c d node now : Int) (w : World) (h : Rr w g a b c d) :
    Calls Try.prog 20 #[.pointer (some ⟨g, 0, none⟩), .int .i64 node, .int .i64 now] w fun e w' => e = .returned (.bool (rbarB a b c d node now)) ∧ w = w' := by
  obtain ⟨h0, h1, h2, h3, -, -, -, -⟩ := h
  cases a <;> cases b
  all_goals
    go_enter Try.func20, Try.ntmps20
    go_wp2
    all_goals
      go_ret
      refine ⟨ret_bool ?_, rfl⟩
      rw [Bool.eq_iff_iff]
      simp [rbarB]
      try omega
      try simp [*]
      try omega

theorem rbarred_no (g : Nat) (a b : Bool) (c d node now : Int) (w : World) (h : Rr w g a b c d) (hb : rbarB a b c d node now = false) :
    Calls Try.prog 20 #[.pointer (some ⟨g, 0, none⟩), .int .i64 node, .int .i64 now] w fun e w' => e = .returned (.bool false) ∧ w = w' :=
  (rbarred_any g a b c d node now w h).mono fun _ _ ⟨he, hw⟩ => ⟨by rw [he, hb], hw⟩
theorem rbarred_yes (g : Nat) (a b : Bool) (c d node now : Int) (w : World) (h : Rr w g a b c d) (hb : rbarB a b c d node now = true) :
    Calls Try.prog 20 #[.pointer (some ⟨g, 0, none⟩), .int .i64 node, .int .i64 now] w fun e w' => e = .returned (.bool true) ∧ w = w' :=
  (rbarred_any g a b c d node now w h).mono fun _ _ ⟨he, hw⟩ => ⟨by rw [he, hb], hw⟩

theorem rnew_any (w : World) :
    Calls Try.prog 16 #[] w fun e w' => e = .returned (.pointer (some ⟨w.heap.size, 0, none⟩)) ∧ Rr w' w.heap.size false false 0 0 ∧ Below w.heap.size w w' ∧ w'.heap.size = w.heap.size + 1 := by
  go_enter Try.func16, Try.ntmps16
  go_wp2
  go_ret
  exact ⟨rfl, ⟨by simp, by simp, by simp, by simp, by simp, by simp, by simp, by simp⟩, (Below.refl _ _).alloc (Nat.le_refl _) _, by simp⟩

set_option maxHeartbeats 400000 in
theorem rask_yes (g : Nat) (a b : Bool) (c d node now l : Int) (w : World) (h : Rr w g a b c d) (hn : 0 ≤ node) (ha : 0 ≤ now) (ha' : now ≤ 1073741824) (hl : 0 ≤ l) (hl' : l ≤ 1073741824)
    (hb : rbarB a b c d node now = false) :
    Calls Try.prog 17 #[.pointer (some ⟨g, 0, none⟩), .int .i64 node, .int .i64 now, .int .i64 l] w fun e w' => e = .returned (.bool true) ∧ Rr w' g true false node (max d (now + l)) ∧ w.grownBy w' (some g) := by
  have HB := Lib.hid hb; clear hb
  have hd : decide (node < 0) = false := by simp; omega
  go_enter Try.func17, Try.ntmps17
  go_wp2_with (fail)
  refine (small_yes _ _ ha ha').mono ?_
  rintro e w1 ⟨rfl, rfl⟩
  go_wp2_with (fail)
  refine (small_yes _ _ hl hl').mono ?_
  rintro e w1 ⟨rfl, rfl⟩
  go_wp2_with (fail)
  refine (rbarred_no _ _ _ _ _ _ _ _ h HB.out).mono ?_
  rintro e w1 ⟨rfl, rfl⟩
  have hs := (((h.set0 true).set1 false).set2 node)
  have ht := hs.set3 (now + l)
  have k2 := grownBy_setCell (p := ⟨g, 2, none⟩) (grownBy_setCell (p := ⟨g, 1, none⟩) (grownBy_setCell (p := ⟨g, 0, none⟩) (World.grownBy.refl w (some g)) rfl (.bool true)) rfl (.bool false)) rfl (.int .i64 node)
  have k3 := grownBy_setCell (p := ⟨g, 3, none⟩) k2 rfl (.int .i64 (now + l))
  obtain ⟨h0, h1, h2, h3, f0, f1, f2, f3⟩ := h
  go_wp2_with (fail)
  · go_ret
    rw [Int.max_eq_right (by omega)]
    exact ⟨rfl, ht, k3⟩
  · go_ret
    rw [Int.max_eq_left (by omega)]
    exact ⟨rfl, hs, k2⟩

set_option maxHeartbeats 400000 in
theorem rask_no (g : Nat) (a b : Bool) (c d node now l : Int) (w : World) (h : Rr w g a b c d)
    (hb : node < 0 ∨ ((now < 0 ∨ 1073741824 < now) ∨ (l < 0 ∨ 1073741824 < l)) ∨ rbarB a b c d node now = true) :
    Calls Try.prog 17 #[.pointer (some ⟨g, 0, none⟩), .int .i64 node, .int .i64 now, .int .i64 l] w fun e w' => e = .returned (.bool false) ∧ w = w' := by
  by_cases hn : node < 0
  · clear hb
    go_enter Try.func17, Try.ntmps17
    go_wp2_with (fail)
    go_ret
    exact ⟨rfl, rfl⟩
  have hd : decide (node < 0) = false := by simp; omega
  have HH := Lib.hid hb; clear hb
  by_cases ha : 0 ≤ now ∧ now ≤ 1073741824
  · obtain ⟨ha, ha'⟩ := ha
    by_cases hl : 0 ≤ l ∧ l ≤ 1073741824
    · obtain ⟨hl, hl'⟩ := hl
      have HB : Hid (rbarB a b c d node now = true) := by
        rcases HH.out with hb | hb | hb
        · omega
        · omega
        · exact Lib.hid hb
      go_enter Try.func17, Try.ntmps17
      go_wp2_with (fail)
      refine (small_yes _ _ ha ha').mono ?_
      rintro e w1 ⟨rfl, rfl⟩
      go_wp2_with (fail)
      refine (small_yes _ _ hl hl').mono ?_
      rintro e w1 ⟨rfl, rfl⟩
      go_wp2_with (fail)
      refine (rbarred_yes _ _ _ _ _ _ _ _ h HB.out).mono ?_
      rintro e w1 ⟨rfl, rfl⟩
      go_wp2_with (fail)
      go_ret
      exact ⟨rfl, rfl⟩
    · have HL := Lib.hid hl; clear hl
      go_enter Try.func17, Try.ntmps17
      go_wp2_with (fail)
      refine (small_yes _ _ ha ha').mono ?_
      rintro e w1 ⟨rfl, rfl⟩
      go_wp2_with (fail)
      refine (small_no _ _ (by have := HL.out; omega)).mono ?_
      rintro e w1 ⟨rfl, rfl⟩
      go_wp2_with (fail)
      go_ret
      exact ⟨rfl, rfl⟩
  · have HL := Lib.hid ha; clear ha
    go_enter Try.func17, Try.ntmps17
    go_wp2_with (fail)
    refine (small_no _ _ (by have := HL.out; omega)).mono ?_
    rintro e w1 ⟨rfl, rfl⟩
    go_wp2_with (fail)
    go_ret
    exact ⟨rfl, rfl⟩

set_option maxHeartbeats 400000 in
theorem rlost_yes (g : Nat) (a b : Bool) (c d now l : Int) (w : World) (h : Rr w g a b c d) (ha : 0 ≤ now) (ha' : now ≤ 1073741824) (hl : 0 ≤ l) (hl' : l ≤ 1073741824) :
    Calls Try.prog 19 #[.pointer (some ⟨g, 0, none⟩), .int .i64 now, .int .i64 l] w fun e w' => e = .returned (.tuple #[]) ∧ Rr w' g true true c (max d (now + l)) ∧ w.grownBy w' (some g) := by
  go_enter Try.func19, Try.ntmps19
  go_wp2_with (fail)
  refine (small_yes _ _ ha ha').mono ?_
  rintro e w1 ⟨rfl, rfl⟩
  go_wp2_with (fail)
  refine (small_yes _ _ hl hl').mono ?_
  rintro e w1 ⟨rfl, rfl⟩
  have hs := ((h.set0 true).set1 true)
  have ht := hs.set3 (now + l)
  have k2 := (grownBy_setCell (p := ⟨g, 1, none⟩) (grownBy_setCell (p := ⟨g, 0, none⟩) (World.grownBy.refl w (some g)) rfl (.bool true)) rfl (.bool true))
  have k3 := grownBy_setCell (p := ⟨g, 3, none⟩) k2 rfl (.int .i64 (now + l))
  obtain ⟨h0, h1, h2, h3, f0, f1, f2, f3⟩ := h
  go_wp2_with (fail)
  · go_end0
    rw [Int.max_eq_right (by omega)]
    exact ⟨rfl, ht, k3⟩
  · go_end0
    rw [Int.max_eq_left (by omega)]
    exact ⟨rfl, hs, k2⟩

set_option maxHeartbeats 400000 in
theorem rlost_no (g : Nat) (now l : Int) (w : World) (h : (now < 0 ∨ 1073741824 < now) ∨ (l < 0 ∨ 1073741824 < l)) :
    Calls Try.prog 19 #[.pointer (some ⟨g, 0, none⟩), .int .i64 now, .int .i64 l] w fun e w' => e = .returned (.tuple #[]) ∧ w = w' := by
  by_cases ha : 0 ≤ now ∧ now ≤ 1073741824
  · obtain ⟨ha, ha'⟩ := ha
    have HL := Lib.hid h; clear h
    go_enter Try.func19, Try.ntmps19
    go_wp2_with (fail)
    refine (small_yes _ _ ha ha').mono ?_
    rintro e w1 ⟨rfl, rfl⟩
    go_wp2_with (fail)
    refine (small_no _ _ (by have := HL.out; omega)).mono ?_
    rintro e w1 ⟨rfl, rfl⟩
    go_wp2_with (fail)
    refine bodyPost_ret (results_none rfl _ _ _) rfl ?_
    exact ⟨rfl, rfl⟩
  · have HL := Lib.hid ha; clear ha
    clear h
    go_enter Try.func19, Try.ntmps19
    go_wp2_with (fail)
    refine (small_no _ _ (by have := HL.out; omega)).mono ?_
    rintro e w1 ⟨rfl, rfl⟩
    go_wp2_with (fail)
    refine bodyPost_ret (results_none rfl _ _ _) rfl ?_
    exact ⟨rfl, rfl⟩

set_option maxHeartbeats 400000 in
theorem rhold_no (a l r : Int) (w : World) (h : (a < 0 ∨ 1073741824 < a) ∨ (l < 0 ∨ 1073741824 < l) ∨ (r < 0 ∨ 500 < r)) :
    Calls Try.prog 22 #[.int .i64 a, .int .i64 l, .int .i64 r] w fun e w' => e = .returned (.tuple #[.int .i64 0, .int .i64 1]) ∧ w = w' := by
  by_cases ha : 0 ≤ a ∧ a ≤ 1073741824
  · obtain ⟨ha, ha'⟩ := ha
    by_cases hl : 0 ≤ l ∧ l ≤ 1073741824
    · obtain ⟨hl, hl'⟩ := hl
      have hr : r < 0 ∨ 500 < r := by omega
      clear h
      by_cases h0 : r < 0
      · clear hr
        go_enter Try.func22, Try.ntmps22
        go_wp2_with (fail)
        refine (small_yes _ _ ha ha').mono ?_
        rintro e w1 ⟨rfl, rfl⟩
        go_wp2_with (fail)
        refine (small_yes _ _ hl hl').mono ?_
        rintro e w1 ⟨rfl, rfl⟩
        go_wp2_with (fail)
        go_ret2
        exact ⟨rfl, rfl⟩
      · have h1 : 500 < r := by omega
        have h2 : decide (500 < r) = true := by simp; omega
        have h3 : decide (r < 0) = false := by simp; omega
        clear hr
        go_enter Try.func22, Try.ntmps22
        go_wp2_with (fail)
        refine (small_yes _ _ ha ha').mono ?_
        rintro e w1 ⟨rfl, rfl⟩
        go_wp2_with (fail)
        refine (small_yes _ _ hl hl').mono ?_
        rintro e w1 ⟨rfl, rfl⟩
        go_wp2_with (fail)
        go_ret2
        exact ⟨rfl, rfl⟩
    · have HL := Lib.hid hl; clear hl
      clear h
      go_enter Try.func22, Try.ntmps22
      go_wp2_with (fail)
      refine (small_yes _ _ ha ha').mono ?_
      rintro e w1 ⟨rfl, rfl⟩
      go_wp2_with (fail)
      refine (small_no _ _ (by have := HL.out; omega)).mono ?_
      rintro e w1 ⟨rfl, rfl⟩
      go_wp2_with (fail)
      go_ret2
      exact ⟨rfl, rfl⟩
  · have HL := Lib.hid ha; clear ha
    clear h
    go_enter Try.func22, Try.ntmps22
    go_wp2_with (fail)
    refine (small_no _ _ (by have := HL.out; omega)).mono ?_
    rintro e w1 ⟨rfl, rfl⟩
    go_wp2_with (fail)
    go_ret2
    exact ⟨rfl, rfl⟩

set_option maxHeartbeats 400000 in
theorem rbar_yes (a l : Int) (w : World) (ha : 0 ≤ a) (ha' : a ≤ 1073741824) (hl : 0 ≤ l) (hl' : l ≤ 1073741824) :
    Calls Try.prog 24 #[.int .i64 a, .int .i64 l] w fun e w' => e = .returned (.tuple #[.int .i64 (a + l), .int .i64 0]) ∧ w = w' := by
  go_enter Try.func24, Try.ntmps24
  go_wp2_with (fail)
  refine (small_yes _ _ ha ha').mono ?_
  rintro e w1 ⟨rfl, rfl⟩
  go_wp2_with (fail)
  refine (small_yes _ _ hl hl').mono ?_
  rintro e w1 ⟨rfl, rfl⟩
  go_wp2_with (fail)
  go_ret2
  exact ⟨rfl, rfl⟩

set_option maxHeartbeats 400000 in
theorem rbar_no (a l : Int) (w : World) (h : (a < 0 ∨ 1073741824 < a) ∨ (l < 0 ∨ 1073741824 < l)) :
    Calls Try.prog 24 #[.int .i64 a, .int .i64 l] w fun e w' => e = .returned (.tuple #[.int .i64 0, .int .i64 1]) ∧ w = w' := by
  by_cases ha : 0 ≤ a ∧ a ≤ 1073741824
  · obtain ⟨ha, ha'⟩ := ha
    have HL := Lib.hid h; clear h
    go_enter Try.func24, Try.ntmps24
    go_wp2_with (fail)
    refine (small_yes _ _ ha ha').mono ?_
    rintro e w1 ⟨rfl, rfl⟩
    go_wp2_with (fail)
    refine (small_no _ _ (by have := HL.out; omega)).mono ?_
    rintro e w1 ⟨rfl, rfl⟩
    go_wp2_with (fail)
    go_ret2
    exact ⟨rfl, rfl⟩
  · have HL := Lib.hid ha; clear ha
    clear h
    go_enter Try.func24, Try.ntmps24
    go_wp2_with (fail)
    refine (small_no _ _ (by have := HL.out; omega)).mono ?_
    rintro e w1 ⟨rfl, rfl⟩
    go_wp2_with (fail)
    go_ret2
    exact ⟨rfl, rfl⟩

/-- New, told by what it leaves. -/
theorem new_any (r : Int) (w : World) (hr : 0 ≤ r) (hr' : r ≤ 500) :
    Calls Try.prog 12 #[.int .i64 r] w fun e w' => e = .returned (.tuple #[.pointer (some ⟨w.heap.size, 0, none⟩), .int .i64 0]) ∧ Gr w' w.heap.size 0 0 0 ∧ Below w.heap.size w w' ∧ w'.heap.size = w.heap.size + 1 :=
  (new_yes r w hr hr').mono fun _ _ ⟨he, hw⟩ => ⟨he, hw ▸ gr_new w, hw ▸ (Below.refl _ _).alloc (Nat.le_refl _) _, by rw [hw]; simp⟩

theorem below_grown {a w w1 : World} {g : Nat} (h : Below a.heap.size a w) (hg : w.grownBy w1 (some g)) (hl : a.heap.size ≤ g) : Below a.heap.size a w1 :=
  h.grown hg h.size (by rintro k hk; injection hk with hk; omega)

theorem below_trans {a b c : World} (h : Below a.heap.size a b) (k : Below b.heap.size b c) : Below a.heap.size a c := h.trans (k.mono h.size)

set_option maxHeartbeats 1000000 in
theorem known_any (w : World) :
    Calls Try.prog 14 #[] w fun e w' => e = .returned (.bool true) ∧ Below w.heap.size w w' := by
  go_enter Try.func14, Try.ntmps14
  go_wp2_with (fail)
  refine (hold_yes _ _ _ _ (by omega) (by omega) (by omega) (by omega) (by omega) (by omega)).mono ?_
  rintro e w1 ⟨rfl, hw1⟩
  go_wp2_with (fail)
  refine (new_any _ _ (by omega) (by omega)).mono ?_
  rintro e w2 ⟨rfl, g2, hw2, hz⟩
  have l1 := hw1.size
  generalize w1.heap.size = g at *
  have l2 : g < w2.heap.size := by omega
  go_wp2_with (fail)
  refine (ask_yes _ _ _ _ _ _ _ _ l2 g2 (by omega) (by omega) (by omega) (by omega) (by omega) (by simp [barB]; try omega)).mono ?_
  rintro e w3 ⟨rfl, g3, hw3⟩
  have l3 : g < w3.heap.size := by have := hw3.size; omega
  go_wp2_with (fail)
  refine (ask_no _ _ _ _ _ _ _ _ l3 g3 (by simp [barB]; try omega)).mono ?_
  rintro e w4 ⟨rfl, hw4⟩
  have g4 := g3.below hw4 l3
  have l4 : g < w4.heap.size := by have := hw4.size; omega
  go_wp2_with (fail)
  refine (ask_yes _ _ _ _ _ _ _ _ l4 g4 (by omega) (by omega) (by omega) (by omega) (by omega) (by simp [barB]; try omega)).mono ?_
  rintro e w5 ⟨rfl, g5, hw5⟩
  have hb : Below w.heap.size w w2 := hw1.trans (hw2.mono l1)
  have hb5 : Below w.heap.size w w5 := below_grown (below_trans (below_grown hb hw3 l1) hw4) hw5 l1
  clear g2 g3 g4 g5 hw1 hw2 hw3 hw4 hw5 hz l1 l2 l3 l4 hb
  go_wp2_with (fail)
  go_ret
  exact ⟨rfl, hb5⟩

end Go.Proofs.Ytjokjbihkejagaa
