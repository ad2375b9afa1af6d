/- Chapter 11: the walk of LeaseFair. -/
import Derived.Test.YtjokjbihkejagaaLo
import Derived.Deep.CutBlock
import Derived.IntWalk
import Derived.Deep.DeepCutAuto
import Derived.Deep.RegionHeld3
namespace Go.Proofs.Ytjokjbihkejagaa
open Go.RowKit Go.ChangeShapes Go.WideShapes

theorem info61 : (Try.prog.info? 61).map (fun i => (i.zero, i.size, i.bytes)) = some (some (.agg #[.int .i64 0, .int .i64 0]), 2, 16) := by kernel_rfl

/-- readings of a clock that goes at one rate -/
def OnLine (rate start : Int) (x : Rdg) : Prop := ∃ t : Int, 0 ≤ t ∧ t ≤ 1000 ∧ x = (1000 * t, start + rate * t)
def AllOn (rate start : Int) (l : List Rdg) : Prop := ∀ j, j < l.length → OnLine rate start (rd l j)

theorem on_ok {rate start : Int} (s0 : 0 ≤ start) (s1 : start ≤ 1000) (q0 : 0 ≤ rate) (q1 : rate ≤ 1500) {x : Rdg} (h : OnLine rate start x) : okR x ∧ 0 ≤ rate * 0 ∧ x.2 ≤ 1501000 := by
  obtain ⟨t, t0, t1, rfl⟩ := h
  obtain ⟨m0, m1⟩ := mul_bd 1500 1000 q0 q1 t0 t1
  refine ⟨⟨⟨?_, ?_⟩, ?_, ?_⟩, by simp, ?_⟩ <;> simp <;> omega

theorem on_pair {rho rate start : Int} (h1 : 1000 - rho ≤ rate) (h2 : rate ≤ 1000 + rho) {x y : Rdg} (hx : OnLine rate start x) (hy : OnLine rate start y) : pairOk rho x y := by
  obtain ⟨t, _, _, rfl⟩ := hx
  obtain ⟨u, _, _, rfl⟩ := hy
  intro h
  simp only at h ⊢
  have hd : 0 ≤ u - t := by omega
  have e1 : 1000 * u - 1000 * t = 1000 * (u - t) := by omega
  have e2 : start + rate * u - (start + rate * t) = rate * (u - t) := by rw [Int.mul_sub]; omega
  rw [e1, e2]
  have a1 : (1000 - rho) * (u - t) ≤ rate * (u - t) := Int.mul_le_mul_of_nonneg_right h1 hd
  have a2 : rate * (u - t) ≤ (1000 + rho) * (u - t) := Int.mul_le_mul_of_nonneg_right h2 hd
  have e3 : (1000 - rho) * (1000 * (u - t)) = 1000 * ((1000 - rho) * (u - t)) := by rw [← Int.mul_assoc, ← Int.mul_assoc, Int.mul_comm (1000 - rho)]
  have e4 : (1000 + rho) * (1000 * (u - t)) = 1000 * ((1000 + rho) * (u - t)) := by rw [← Int.mul_assoc, ← Int.mul_assoc, Int.mul_comm (1000 + rho)]
  rw [e3, e4]
  omega

theorem line_fair {rho rate start : Int} (r0 : 0 ≤ rho) (r1 : rho ≤ 500) (s0 : 0 ≤ start) (s1 : start ≤ 1000) (h1 : 1000 - rho ≤ rate) (h2 : rate ≤ 1000 + rho) {l : List Rdg} (h : AllOn rate start l) : FairP l rho :=
  ⟨⟨r0, r1⟩, fun j hj => (on_ok s0 s1 (by omega) (by omega) (h j hj)).1, fun i hi j hj => on_pair h1 h2 (h i hi) (h j hj)⟩

theorem line_tail {rate start : Int} {l : List Rdg} (h : AllOn rate start l) : AllOn rate start (l.drop 1) := fun j hj => by
  have := h (1 + j) (by simp at hj; omega)
  simpa [rd, Nat.add_comm] using this

theorem jump_not {rho : Int} {l : List Rdg} (h : 0 < l.length) (d : Int) (hd : 0 < d) : ¬ FairP (l ++ [((rd l 0).1, (rd l 0).2 + d)]) rho := fun hf => by
  have t := hf.2.2 0 (by simp) l.length (by simp)
  have e0 : rd (l ++ [((rd l 0).1, (rd l 0).2 + d)]) 0 = rd l 0 := by simp [rd, h]
  have e1 : rd (l ++ [((rd l 0).1, (rd l 0).2 + d)]) l.length = ((rd l 0).1, (rd l 0).2 + d) := by simp [rd]
  rw [e0, e1] at t
  have := (t (by simp)).2
  simp at this
  omega

theorem on_snoc {rate start : Int} {l : List Rdg} (h : AllOn rate start l) {x : Rdg} (hx : OnLine rate start x) : AllOn rate start (l ++ [x]) := fun j hj => by
  simp at hj
  by_cases e : j = l.length
  · subst e; simpa [rd] using hx
  · have := h j (by omega)
    simpa [rd, List.getElem?_append_left (show j < l.length by omega)] using this

theorem rcells_app (l m : List Rdg) : rcells (l ++ m) = rcells l ++ rcells m := by simp [rcells]
theorem rcells_len (l : List Rdg) : (rcells l).length = l.length * 2 := by
  induction l with
  | nil => rfl
  | cons x l ih => simp only [rcells, List.flatMap_cons] at ih ⊢; simp [ih]; omega

/-- Readings that a row of the program's owns lie in memory. -/
theorem lies_own61 {w : World} {base g n cap : Nat} {l : List Rdg} (h : w.ownsRow base 61 2 (.slice (some ⟨g, 0, none⟩) n cap) n (rcells l)) : Lies w g 0 l := fun j hj => by
  obtain ⟨h0, h1⟩ := rcells_get l j hj
  have c0 := h.cells (g := g) rfl _ _ h0
  have c1 := h.cells (g := g) rfl _ _ h1
  have ad : ∀ k, (⟨g, 0, none⟩ : Addr).add k = ⟨g, 0 + k, none⟩ := fun k => by unfold Addr.add; split <;> simp_all
  rw [ad] at c0 c1
  exact ⟨c0, by rw [Nat.add_assoc]; exact c1⟩

theorem own_form {w : World} {base : Nat} {v : Value} {n : Nat} {xs : List Value} (h : w.ownsRow base 61 2 v n xs) (hn : 0 < n) :
    ∃ g cap, v = .slice (some ⟨g, 0, none⟩) n cap ∧ base ≤ g ∧ g < w.heap.size ∧ n ≤ cap ∧ cap ≤ maxLen := by
  rcases h.2 with ⟨_, h0⟩ | ⟨g, cap, cur, hv, hb, hg, h1, h2, _⟩
  · omega
  · refine ⟨g, cap, hv, hb, ?_, h1, h2⟩
    exact (Array.getElem?_eq_some_iff.1 hg).1

theorem lies_tail {w : World} {g : Nat} {l : List Rdg} (h : Lies w g 0 l) : Lies w g 2 (l.drop 1) := fun j hj => by
  have := h (1 + j) (by simp at hj; omega)
  have e : rd (l.drop 1) j = rd l (1 + j) := by simp [rd, Nat.add_comm]
  have e2 : 0 + (1 + j) * 2 = 2 + j * 2 := by omega
  rw [e]
  rw [e2] at this
  exact this

theorem rcells_one (l : List Rdg) : ∀ u ∈ rcells l, u.oneCell' = true := by
  intro u hu
  simp only [rcells, List.mem_flatMap] at hu
  obtain ⟨x, _, hx⟩ := hu
  simp at hx
  rcases hx with rfl | rfl <;> rfl

def FairRel (w : World) (rate start : Int) (len : Nat) (v i : Value) (wr : World) : Prop :=
  ∃ (k : Nat) (l : List Rdg), k ≤ len ∧ k ≤ 10 ∧ i = .int .i64 k ∧ l.length = k ∧ AllOn rate start l ∧ wr.ownsRow w.heap.size 61 2 v k (rcells l) ∧ Below w.heap.size w wr ∧ (k = 0 → v = .slice none 0 0)

def CutRel (w : World) (l : List Rdg) (n : Nat) (y : Rdg) (jj : Int) (v : Value) (wx : World) : Prop :=
  ∃ g cap, v = .slice (some ⟨g, 0, none⟩) (n + 1) cap ∧ g < wx.heap.size ∧ Lies wx g 0 (l ++ [(y.1, y.2 + 1 + jj)]) ∧ Below w.heap.size w wx

set_option maxRecDepth 100000 in
set_option maxHeartbeats 16000000 in
theorem fairlaw_walk (b o len cap : Nat) (xs : Nat → Int) (a0 a1 a2 a4 : Int) (w : World) (w0 : (Lit.int .i64 a0).wf = true) (w1 : (Lit.int .i64 a1).wf = true) (w2 : (Lit.int .i64 a2).wf = true) (w4 : (Lit.int .i64 a4).wf = true)
    (hb : b < w.heap.size) (hl : len ≤ 9223372036854775807) (hx : ∀ j, j < len → w.cell? ⟨b, o + j, none⟩ = some (.int .i64 (xs j)) ∧ (Lit.int .i64 (xs j)).wf = true) :
    Calls Try.prog 8 #[.int .i64 a0, .int .i64 a1, .int .i64 a2, .slice (some ⟨b, o, none⟩) len cap, .int .i64 a4] w fun e w' => e = .returned (.bool true) ∧ Below w.heap.size w w' := by
  obtain ⟨i0, hi0, hz0, hz1, hz2⟩ := info_parts info61
  obtain ⟨l0, u0⟩ := wf_bd w0
  obtain ⟨l1, u1⟩ := wf_bd w1
  obtain ⟨l2, u2⟩ := wf_bd w2
  obtain ⟨l4, u4⟩ := wf_bd w4
  clear w0 w1 w2 w4
  have HX := Lib.hid hx; clear hx
  go_enter Try.func8, Try.ntmps8
  go_wp2_with (fail)
  refine (within_any a0 _ _ _ l0 u0 (by omega) (by omega) (by omega)).mono ?_
  obtain ⟨b0, b1⟩ := within_bd a0 (show (0 : Int) ≤ 500 by omega)
  generalize (0 : Int) + a0 % (500 - 0 + 1) = rho at *
  rintro e w' ⟨rfl, rfl⟩
  go_wp2_with (fail)
  refine (within_any a1 _ _ _ l1 u1 (by omega) (by omega) (by omega)).mono ?_
  obtain ⟨c0, c1⟩ := within_bd a1 (show (0 : Int) ≤ 2 * rho by omega)
  generalize (0 : Int) + a1 % (2 * rho - 0 + 1) = one at *
  rintro e w' ⟨rfl, rfl⟩
  go_wp2_with (fail)
  refine (within_any a2 _ _ _ l2 u2 (by omega) (by omega) (by omega)).mono ?_
  obtain ⟨d0, d1⟩ := within_bd a2 (show (0 : Int) ≤ 1000 by omega)
  generalize (0 : Int) + a2 % (1000 - 0 + 1) = start at *
  rintro e w' ⟨rfl, rfl⟩
  obtain ⟨rate, hrate⟩ : ∃ rate, rate = 1000 + one - rho := ⟨_, rfl⟩
  have q0 : 1000 - rho ≤ rate := by omega
  have q1 : rate ≤ 1000 + rho := by omega
  go_wp2_with (fail)
  rw [← hrate]
  clear hrate c0 c1 l0 u0 l1 u1 l2 u2
  go_loopw [11, 12] (fun v i wr => FairRel w rate start len v i wr) (fun _ i _ => 10 - (intOf i).toNat)
  case atStart => exact ⟨0, [], by omega, by omega, rfl, rfl, fun j hj => absurd hj (Nat.not_lt_zero _), World.ownsRow_nil _ _ _ _, Below.refl _ _, fun _ => rfl⟩
  case round =>
    obtain ⟨k, l, hk, hk', rfl, hlk, hon, hown, hbw, hnil⟩ := hrel
    have HV := Lib.hid hnil; clear hnil
    have HN := Lib.hid hlk; clear hlk
    have HO := Lib.hid hon; clear hon
    by_cases hlt : k < len ∧ k < 10
    · obtain ⟨hlt, hlt'⟩ := hlt
      obtain ⟨hc, hwf⟩ := HX.out k hlt
      have hc0 := (hbw.cell (p := ⟨b, o + k, none⟩) hb).trans hc
      obtain ⟨x0, x1⟩ := wf_bd hwf
      clear hc hwf
      generalize xs k = x at *
      go_wp2_with (fail)
      refine (within_any x _ _ _ x0 x1 (by omega) (by omega) (by omega)).mono ?_
      obtain ⟨t0, t1⟩ := within_bd x (show (0 : Int) ≤ 1000 by omega)
      generalize (0 : Int) + x % (1000 - 0 + 1) = t at *
      rintro e w' ⟨rfl, rfl⟩
      clear x0 x1 hc0
      obtain ⟨m0, m1⟩ := mul_bd 1500 1000 (show 0 ≤ rate by omega) (show rate ≤ 1500 by omega) t0 t1
      go_wp2_with (at_builtin; refine wpList_append_lies _ rfl _ _ _ rfl w.heap.size 61 i0 _ 2 16 Try.underlying50 hi0 hz0 hz1 hz2 rfl (by omega) u11 k (rcells l) rfl (hown.alloc _) ⟨wr.heap.size, 0, none⟩ 1 1 [.int .i64 (1000 * t), .int .i64 (start + rate * t)] rfl rfl (World.news_of_block (cs := #[.int .i64 (1000 * t), .int .i64 (start + rate * t)]) (t := 61) (fr := (0, 0)) (heap_alloc_new wr _)) (by simp [Value.oneCell']) (by omega) (by unfold maxLen; omega) (by omega) (by have := hbw.size; simp; omega) (wr.heap.size + 1) (by simp) ?_; intro gg cap' w1 hown1 hgrow hat hlt2)
      have hb2 : Below w.heap.size w w1 := (hbw.alloc hbw.size _).grown hgrow (by have := hbw.size; simp; omega) (fun j hj => (hown.lt j hj).1)
      have hrel2 : FairRel w rate start len (.slice (some ⟨gg, 0, none⟩) (k + 1) cap') (.int .i64 ((k : Int) + 1)) w1 :=
        ⟨k + 1, l ++ [(1000 * t, start + rate * t)], by omega, by omega, by go_num, by simp [HN.out], on_snoc HO.out ⟨t, t0, t1, rfl⟩, by rw [rcells_app]; exact hown1, hb2, fun h => by omega⟩
      exact ⟨hrel2, by simp [intOf]; omega⟩
    · by_cases hlt1 : k < len
      · have hk10 : k = 10 := by omega
        subst hk10
        clear hlt
        obtain ⟨g, gc, rfl, hg1, hg2, hg3, hg4⟩ := own_form hown (by omega)
        have HL := Lib.hid (lies_own61 hown)
        go_wp2_with (fail)
        refine (fair_n _ _ _ _ HN.out l rho _ hg2 (by rw [HN.out]; omega) HL.out).mono ?_
        rw [← fairB_yes (line_fair b0 b1 d0 d1 q0 q1 HO.out)]
        rintro e w1 ⟨rfl, b2⟩
        have c2 := below_trans hbw b2
        have hown2 := hown.kept (grownBy_below b2 none) (.inr (by simp [Value.ownBlock]))
        have hg5 : g < w1.heap.size := Nat.lt_of_lt_of_le hg2 b2.size
        have HL2 := Lib.hid (lies_tail (lies_own61 hown2))
        clear hbw b2 hown HL
        go_wp2_with (fail)
        refine (fair_n _ _ _ _ (show (l.drop 1).length = 9 by rw [List.length_drop, HN.out]) (l.drop 1) rho _ hg5 (by rw [List.length_drop, HN.out]; omega) HL2.out).mono ?_
        rw [← fairB_yes (line_fair b0 b1 d0 d1 q0 q1 (line_tail HO.out))]
        rintro e w2 ⟨rfl, b3⟩
        have c3 := below_trans c2 b3
        have hown3 := hown2.kept (grownBy_below b3 none) (.inr (by simp [Value.ownBlock]))
        have hg6 : g < w2.heap.size := Nat.lt_of_lt_of_le hg5 b3.size
        clear c2 b3 hown2 HL2
        go_upto_region 14 with (fail)
        have hL3 := lies_own61 hown3 0 (by rw [HN.out]; omega)
        have hon := on_ok d0 d1 (by omega) (by omega) (HO.out 0 (by rw [HN.out]; omega))
        obtain ⟨⟨⟨y1, y2⟩, y3, y4⟩, _, y5⟩ := hon
        obtain ⟨hc0, hc1⟩ := hL3
        obtain ⟨jb0, jb1⟩ := within_bd a4 (show (0 : Int) ≤ 100 by omega)
        generalize hjj : (0 : Int) + a4 % (100 - 0 + 1) = jj at jb0 jb1
        have HJ := Lib.hid hjj; clear hjj
        obtain ⟨y, hy⟩ : ∃ y, rd l 0 = y := ⟨_, rfl⟩
        rw [hy] at hc0 hc1 y1 y2 y3 y4 y5
        have HY := Lib.hid hy; clear hy
        go_cut [14] (fun v wx => CutRel w l (10) y jj v wx)
        case first =>
          have hn20 : (rcells l).length = (10) * 2 := by rw [rcells_len, HN.out]
          have HN20 := Lib.hid hn20; clear hn20
          have own0 : ((w2.drew).alloc (.cells #[] 61)).ownsRow w.heap.size 61 2 (.slice (some ⟨w2.heap.size, 0, none⟩) 0 0) 0 [] := World.ownsRow_made (w2.drew) #[] 0 (by have := c3.size; simpa using this) (by simp [maxLen]) rfl
          have hown4 := (hown3.drew).alloc (.cells #[] 61)
          have hws := c3.size
          have wr1 : IntKind.i64.wrap (y.2 + 1) = y.2 + 1 := IntWalk.i64_in _ (by omega)
          have wr2 : IntKind.i64.wrap (y.2 + 1 + jj) = y.2 + 1 + jj := IntWalk.i64_in _ (by omega)
          have hk0' : (0 : Int) < ((10 : Nat) : Int) := by omega
          go_region_held3 (fun w' => w'.cell? ⟨g, 0, none⟩ = some (.int .i64 y.1) ∧ w'.cell? ⟨g, 1, none⟩ = some (.int .i64 y.2))
            (first
              | go_keep
              | (go_split_ands; refine ⟨?_, ?_⟩ <;> (rw [hgrow2.cell_far _ (by have := hgrow.size; simp at this; simp; omega) (by simp [Value.ownBlock] at hat ⊢; omega)]; assumption))
              | (go_split_ands; refine ⟨?_, ?_⟩ <;> (rw [hgrow.cell_far _ (by simp; omega) (by simp [Value.ownBlock]; omega)]; assumption)))
            (first
              | (go_at_call 10; refine (within_any a4 _ _ _ l4 u4 (by omega) (by omega) (by omega)).mono ?_; rw [HJ.out]; rintro e w' ⟨rfl, rfl⟩)
              | (have hown6 := hown5.alloc (.cells #[.int .i64 y.1, .int .i64 (y.2 + 1 + jj)] 61); refine step_append_lies _ (by rfl) _ _ _ (by rfl) w.heap.size 61 i0 _ 2 16 Try.underlying50 hi0 hz0 hz1 hz2 rfl (by omega) (.slice (some ⟨g1, 0, none⟩) (0 + (10)) cap1) (0 + (10)) ([] ++ rcells l) (by first | rfl | simp [go_sem]) hown6 ⟨wa.heap.size, 0, none⟩ 1 1 [.int .i64 y.1, .int .i64 (y.2 + 1 + jj)] (by rfl) (by rfl) (World.news_of_block (cs := #[.int .i64 y.1, .int .i64 (y.2 + 1 + jj)]) (t := 61) (fr := (0, 0)) (heap_alloc_new wa _)) (by simp [Value.oneCell']) (by omega) (by simp [maxLen]; try omega) (by omega) (by have := (hown5.lt g1 rfl).1; simp; omega) (wa.heap.size + 1) (by simp) ?_; intro g2 cap2 wb hown7 hgrow2 hat2 hlt7)
              | (refine step_append_lies _ (by rfl) _ _ _ (by rfl) w.heap.size 61 i0 _ 2 16 Try.underlying50 hi0 hz0 hz1 hz2 rfl (by omega) (.slice (some ⟨w2.heap.size, 0, none⟩) 0 0) 0 [] (by rfl) own0 ⟨g, 0, none⟩ (10) gc (rcells l) (by rfl) HN20.out (hown4.cells rfl) (rcells_one l) (by omega) (by simp [maxLen]; try omega) (by omega) (by simp; omega) (w2.heap.size + 1) (by simp) ?_; intro g1 cap1 wa hown5 hgrow hat hlt5))
          have hcutrel : CutRel w l (10) y jj (.slice (some ⟨g2, 0, none⟩) ((10) + 1) cap2) wb := by
            refine ⟨g2, cap2, rfl, hlt7, ?_, ?_⟩
            · rw [List.nil_append, show rcells l ++ [Value.int IntKind.i64 y.1, Value.int IntKind.i64 (y.2 + 1 + jj)] = rcells (l ++ [(y.1, y.2 + 1 + jj)]) by rw [rcells_app]; rfl] at hown7
              simp only [Nat.zero_add] at hown7
              exact lies_own61 hown7
            · refine ((((c3.alloc hws _).drew).grown hgrow (by simp; omega) ?_).alloc ?_ _).grown hgrow2 ?_ ?_
              · intro j hj; simp [Value.ownBlock] at hj; omega
              · have := hgrow.size; simp at this; omega
              · have := hgrow.size; simp at this; simp; omega
              · intro j hj; exact (hown5.lt j hj).1
          clear hown7 hgrow2 hat2 hlt7 hown6 hown5 hgrow hat hlt5 hown4 own0 hown3
          go_wp2_with (fail)
          go_meet
          exact hcutrel
        case rest =>
          obtain ⟨g2, cap2, rfl, hlt2, hl2, hb2⟩ := hcut
          have hno : ¬ FairP (l ++ [(y.1, y.2 + 1 + jj)]) rho := by
            have := jump_not (l := l) (rho := rho) (by rw [HN.out]; omega) (1 + jj) (by omega)
            rw [HY.out, ← Int.add_assoc] at this
            exact this
          have HL3 := Lib.hid hl2
          clear hl2 hown3 hc0 hc1
          go_wp2_with (fail)
          refine (fair_n _ _ _ _ (show (l ++ [(y.1, y.2 + 1 + jj)]).length = (10) + 1 by simp [HN.out]) (l ++ [(y.1, y.2 + 1 + jj)]) rho _ hlt2 (by have h9 := HN.out; rw [List.length_append]; simp only [List.length_cons, List.length_nil]; omega) HL3.out).mono ?_
          rw [← fairB_no hno]
          rintro e w5 ⟨rfl, b5⟩
          have c5 := below_trans hb2 b5
          clear hb2 b5 HL3 hno
          go_wp2_with (fail)
          refine (known_any _).mono ?_
          rintro e w6 ⟨rfl, b6⟩
          go_wp2_with (fail)
          go_ret
          exact ⟨rfl, below_trans c5 b6⟩
      · obtain rfl : k = len := by omega
        clear hlt hlt1
        by_cases hk0 : k = 0
        · subst hk0
          obtain rfl : u11 = .slice none 0 0 := HV.out rfl
          obtain rfl : l = [] := List.length_eq_zero_iff.1 HN.out
          clear hown
          go_wp2_with (fail)
          refine (fair_nil rho _).mono ?_
          rw [← fairB_yes (line_fair b0 b1 d0 d1 q0 q1 HO.out)]
          rintro e w1 ⟨rfl, b2⟩
          have c2 := below_trans hbw b2
          clear hbw b2
          go_wp2_with (fail)
          refine (known_any _).mono ?_
          rintro e w6 ⟨rfl, b6⟩
          go_wp2_with (fail)
          go_ret
          exact ⟨rfl, below_trans c2 b6⟩
        · by_cases hk1 : k = 1
          · subst hk1
            clear hk0
            obtain ⟨g, gc, rfl, hg1, hg2, hg3, hg4⟩ := own_form hown (by omega)
            have HL := Lib.hid (lies_own61 hown)
            go_wp2_with (fail)
            refine (fair_n _ _ _ _ HN.out l rho _ hg2 (by rw [HN.out]; omega) HL.out).mono ?_
            rw [← fairB_yes (line_fair b0 b1 d0 d1 q0 q1 HO.out)]
            rintro e w1 ⟨rfl, b2⟩
            have c2 := below_trans hbw b2
            have hown2 := hown.kept (grownBy_below b2 none) (.inr (by simp [Value.ownBlock]))
            have hg5 : g < w1.heap.size := Nat.lt_of_lt_of_le hg2 b2.size
            obtain ⟨w2, rfl⟩ : ∃ w2 : World, w2 = w1 := ⟨_, rfl⟩
            have c3 := c2
            have hown3 := hown2
            have hg6 := hg5
            clear hbw b2 hown HL c2 hown2
            go_upto_region 14 with (fail)
            have hL3 := lies_own61 hown3 0 (by rw [HN.out]; omega)
            have hon := on_ok d0 d1 (by omega) (by omega) (HO.out 0 (by rw [HN.out]; omega))
            obtain ⟨⟨⟨y1, y2⟩, y3, y4⟩, _, y5⟩ := hon
            obtain ⟨hc0, hc1⟩ := hL3
            obtain ⟨jb0, jb1⟩ := within_bd a4 (show (0 : Int) ≤ 100 by omega)
            generalize hjj : (0 : Int) + a4 % (100 - 0 + 1) = jj at jb0 jb1
            have HJ := Lib.hid hjj; clear hjj
            obtain ⟨y, hy⟩ : ∃ y, rd l 0 = y := ⟨_, rfl⟩
            rw [hy] at hc0 hc1 y1 y2 y3 y4 y5
            have HY := Lib.hid hy; clear hy
            go_cut [14] (fun v wx => CutRel w l (1) y jj v wx)
            case first =>
              have hn20 : (rcells l).length = (1) * 2 := by rw [rcells_len, HN.out]
              have HN20 := Lib.hid hn20; clear hn20
              have own0 : ((w2.drew).alloc (.cells #[] 61)).ownsRow w.heap.size 61 2 (.slice (some ⟨w2.heap.size, 0, none⟩) 0 0) 0 [] := World.ownsRow_made (w2.drew) #[] 0 (by have := c3.size; simpa using this) (by simp [maxLen]) rfl
              have hown4 := (hown3.drew).alloc (.cells #[] 61)
              have hws := c3.size
              have wr1 : IntKind.i64.wrap (y.2 + 1) = y.2 + 1 := IntWalk.i64_in _ (by omega)
              have wr2 : IntKind.i64.wrap (y.2 + 1 + jj) = y.2 + 1 + jj := IntWalk.i64_in _ (by omega)
              have hk0' : (0 : Int) < ((1 : Nat) : Int) := by omega
              go_region_held3 (fun w' => w'.cell? ⟨g, 0, none⟩ = some (.int .i64 y.1) ∧ w'.cell? ⟨g, 1, none⟩ = some (.int .i64 y.2))
                (first
                  | go_keep
                  | (go_split_ands; refine ⟨?_, ?_⟩ <;> (rw [hgrow2.cell_far _ (by have := hgrow.size; simp at this; simp; omega) (by simp [Value.ownBlock] at hat ⊢; omega)]; assumption))
                  | (go_split_ands; refine ⟨?_, ?_⟩ <;> (rw [hgrow.cell_far _ (by simp; omega) (by simp [Value.ownBlock]; omega)]; assumption)))
                (first
                  | (go_at_call 10; refine (within_any a4 _ _ _ l4 u4 (by omega) (by omega) (by omega)).mono ?_; rw [HJ.out]; rintro e w' ⟨rfl, rfl⟩)
                  | (have hown6 := hown5.alloc (.cells #[.int .i64 y.1, .int .i64 (y.2 + 1 + jj)] 61); refine step_append_lies _ (by rfl) _ _ _ (by rfl) w.heap.size 61 i0 _ 2 16 Try.underlying50 hi0 hz0 hz1 hz2 rfl (by omega) (.slice (some ⟨g1, 0, none⟩) (0 + (1)) cap1) (0 + (1)) ([] ++ rcells l) (by first | rfl | simp [go_sem]) hown6 ⟨wa.heap.size, 0, none⟩ 1 1 [.int .i64 y.1, .int .i64 (y.2 + 1 + jj)] (by rfl) (by rfl) (World.news_of_block (cs := #[.int .i64 y.1, .int .i64 (y.2 + 1 + jj)]) (t := 61) (fr := (0, 0)) (heap_alloc_new wa _)) (by simp [Value.oneCell']) (by omega) (by simp [maxLen]; try omega) (by omega) (by have := (hown5.lt g1 rfl).1; simp; omega) (wa.heap.size + 1) (by simp) ?_; intro g2 cap2 wb hown7 hgrow2 hat2 hlt7)
                  | (refine step_append_lies _ (by rfl) _ _ _ (by rfl) w.heap.size 61 i0 _ 2 16 Try.underlying50 hi0 hz0 hz1 hz2 rfl (by omega) (.slice (some ⟨w2.heap.size, 0, none⟩) 0 0) 0 [] (by rfl) own0 ⟨g, 0, none⟩ (1) gc (rcells l) (by rfl) HN20.out (hown4.cells rfl) (rcells_one l) (by omega) (by simp [maxLen]; try omega) (by omega) (by simp; omega) (w2.heap.size + 1) (by simp) ?_; intro g1 cap1 wa hown5 hgrow hat hlt5))
              have hcutrel : CutRel w l (1) y jj (.slice (some ⟨g2, 0, none⟩) ((1) + 1) cap2) wb := by
                refine ⟨g2, cap2, rfl, hlt7, ?_, ?_⟩
                · rw [List.nil_append, show rcells l ++ [Value.int IntKind.i64 y.1, Value.int IntKind.i64 (y.2 + 1 + jj)] = rcells (l ++ [(y.1, y.2 + 1 + jj)]) by rw [rcells_app]; rfl] at hown7
                  simp only [Nat.zero_add] at hown7
                  exact lies_own61 hown7
                · refine ((((c3.alloc hws _).drew).grown hgrow (by simp; omega) ?_).alloc ?_ _).grown hgrow2 ?_ ?_
                  · intro j hj; simp [Value.ownBlock] at hj; omega
                  · have := hgrow.size; simp at this; omega
                  · have := hgrow.size; simp at this; simp; omega
                  · intro j hj; exact (hown5.lt j hj).1
              clear hown7 hgrow2 hat2 hlt7 hown6 hown5 hgrow hat hlt5 hown4 own0 hown3
              go_wp2_with (fail)
              go_meet
              exact hcutrel
            case rest =>
              obtain ⟨g2, cap2, rfl, hlt2, hl2, hb2⟩ := hcut
              have hno : ¬ FairP (l ++ [(y.1, y.2 + 1 + jj)]) rho := by
                have := jump_not (l := l) (rho := rho) (by rw [HN.out]; omega) (1 + jj) (by omega)
                rw [HY.out, ← Int.add_assoc] at this
                exact this
              have HL3 := Lib.hid hl2
              clear hl2 hown3 hc0 hc1
              go_wp2_with (fail)
              refine (fair_n _ _ _ _ (show (l ++ [(y.1, y.2 + 1 + jj)]).length = (1) + 1 by simp [HN.out]) (l ++ [(y.1, y.2 + 1 + jj)]) rho _ hlt2 (by have h9 := HN.out; rw [List.length_append]; simp only [List.length_cons, List.length_nil]; omega) HL3.out).mono ?_
              rw [← fairB_no hno]
              rintro e w5 ⟨rfl, b5⟩
              have c5 := below_trans hb2 b5
              clear hb2 b5 HL3 hno
              go_wp2_with (fail)
              refine (known_any _).mono ?_
              rintro e w6 ⟨rfl, b6⟩
              go_wp2_with (fail)
              go_ret
              exact ⟨rfl, below_trans c5 b6⟩
          · have hk2 : 1 < k := by omega
            have hk3 : decide (1 < k) = true := by simpa using hk2
            have hk4 : decide ((1 : Int) < (k : Int)) = true := by simp; omega
            have hk5 : ((k : Int) == 0) = false := by simp; omega
            have hk6 : 0 < k := by omega
            have hk7 : decide (0 < k) = true := by simpa using hk6
            clear hk0 hk1
            obtain ⟨g, gc, rfl, hg1, hg2, hg3, hg4⟩ := own_form hown (by omega)
            have HL := Lib.hid (lies_own61 hown)
            go_wp2_with (fail)
            refine (fair_n _ _ _ _ HN.out l rho _ hg2 (by rw [HN.out]; omega) HL.out).mono ?_
            rw [← fairB_yes (line_fair b0 b1 d0 d1 q0 q1 HO.out)]
            rintro e w1 ⟨rfl, b2⟩
            have c2 := below_trans hbw b2
            have hown2 := hown.kept (grownBy_below b2 none) (.inr (by simp [Value.ownBlock]))
            have hg5 : g < w1.heap.size := Nat.lt_of_lt_of_le hg2 b2.size
            have HL2 := Lib.hid (lies_tail (lies_own61 hown2))
            clear hbw b2 hown HL
            go_wp2_with (fail)
            refine (fair_n _ _ _ _ (show (l.drop 1).length = k - 1 by rw [List.length_drop, HN.out]) (l.drop 1) rho _ hg5 (by rw [List.length_drop, HN.out]; omega) HL2.out).mono ?_
            rw [← fairB_yes (line_fair b0 b1 d0 d1 q0 q1 (line_tail HO.out))]
            rintro e w2 ⟨rfl, b3⟩
            have c3 := below_trans c2 b3
            have hown3 := hown2.kept (grownBy_below b3 none) (.inr (by simp [Value.ownBlock]))
            have hg6 : g < w2.heap.size := Nat.lt_of_lt_of_le hg5 b3.size
            clear c2 b3 hown2 HL2
            go_upto_region 14 with (fail)
            have hL3 := lies_own61 hown3 0 (by rw [HN.out]; omega)
            have hon := on_ok d0 d1 (by omega) (by omega) (HO.out 0 (by rw [HN.out]; omega))
            obtain ⟨⟨⟨y1, y2⟩, y3, y4⟩, _, y5⟩ := hon
            obtain ⟨hc0, hc1⟩ := hL3
            obtain ⟨jb0, jb1⟩ := within_bd a4 (show (0 : Int) ≤ 100 by omega)
            generalize hjj : (0 : Int) + a4 % (100 - 0 + 1) = jj at jb0 jb1
            have HJ := Lib.hid hjj; clear hjj
            obtain ⟨y, hy⟩ : ∃ y, rd l 0 = y := ⟨_, rfl⟩
            rw [hy] at hc0 hc1 y1 y2 y3 y4 y5
            have HY := Lib.hid hy; clear hy
            go_cut [14] (fun v wx => CutRel w l (k) y jj v wx)
            case first =>
              have hn20 : (rcells l).length = (k) * 2 := by rw [rcells_len, HN.out]
              have HN20 := Lib.hid hn20; clear hn20
              have own0 : ((w2.drew).alloc (.cells #[] 61)).ownsRow w.heap.size 61 2 (.slice (some ⟨w2.heap.size, 0, none⟩) 0 0) 0 [] := World.ownsRow_made (w2.drew) #[] 0 (by have := c3.size; simpa using this) (by simp [maxLen]) rfl
              have hown4 := (hown3.drew).alloc (.cells #[] 61)
              have hws := c3.size
              have wr1 : IntKind.i64.wrap (y.2 + 1) = y.2 + 1 := IntWalk.i64_in _ (by omega)
              have wr2 : IntKind.i64.wrap (y.2 + 1 + jj) = y.2 + 1 + jj := IntWalk.i64_in _ (by omega)
              have hk0' : (0 : Int) < ((k : Nat) : Int) := by omega
              go_region_held3 (fun w' => w'.cell? ⟨g, 0, none⟩ = some (.int .i64 y.1) ∧ w'.cell? ⟨g, 1, none⟩ = some (.int .i64 y.2))
                (first
                  | go_keep
                  | (go_split_ands; refine ⟨?_, ?_⟩ <;> (rw [hgrow2.cell_far _ (by have := hgrow.size; simp at this; simp; omega) (by simp [Value.ownBlock] at hat ⊢; omega)]; assumption))
                  | (go_split_ands; refine ⟨?_, ?_⟩ <;> (rw [hgrow.cell_far _ (by simp; omega) (by simp [Value.ownBlock]; omega)]; assumption)))
                (first
                  | (go_at_call 10; refine (within_any a4 _ _ _ l4 u4 (by omega) (by omega) (by omega)).mono ?_; rw [HJ.out]; rintro e w' ⟨rfl, rfl⟩)
                  | (have hown6 := hown5.alloc (.cells #[.int .i64 y.1, .int .i64 (y.2 + 1 + jj)] 61); refine step_append_lies _ (by rfl) _ _ _ (by rfl) w.heap.size 61 i0 _ 2 16 Try.underlying50 hi0 hz0 hz1 hz2 rfl (by omega) (.slice (some ⟨g1, 0, none⟩) (0 + (k)) cap1) (0 + (k)) ([] ++ rcells l) (by first | rfl | simp [go_sem]) hown6 ⟨wa.heap.size, 0, none⟩ 1 1 [.int .i64 y.1, .int .i64 (y.2 + 1 + jj)] (by rfl) (by rfl) (World.news_of_block (cs := #[.int .i64 y.1, .int .i64 (y.2 + 1 + jj)]) (t := 61) (fr := (0, 0)) (heap_alloc_new wa _)) (by simp [Value.oneCell']) (by omega) (by simp [maxLen]; try omega) (by omega) (by have := (hown5.lt g1 rfl).1; simp; omega) (wa.heap.size + 1) (by simp) ?_; intro g2 cap2 wb hown7 hgrow2 hat2 hlt7)
                  | (refine step_append_lies _ (by rfl) _ _ _ (by rfl) w.heap.size 61 i0 _ 2 16 Try.underlying50 hi0 hz0 hz1 hz2 rfl (by omega) (.slice (some ⟨w2.heap.size, 0, none⟩) 0 0) 0 [] (by rfl) own0 ⟨g, 0, none⟩ (k) gc (rcells l) (by rfl) HN20.out (hown4.cells rfl) (rcells_one l) (by omega) (by simp [maxLen]; try omega) (by omega) (by simp; omega) (w2.heap.size + 1) (by simp) ?_; intro g1 cap1 wa hown5 hgrow hat hlt5))
              have hcutrel : CutRel w l (k) y jj (.slice (some ⟨g2, 0, none⟩) ((k) + 1) cap2) wb := by
                refine ⟨g2, cap2, rfl, hlt7, ?_, ?_⟩
                · rw [List.nil_append, show rcells l ++ [Value.int IntKind.i64 y.1, Value.int IntKind.i64 (y.2 + 1 + jj)] = rcells (l ++ [(y.1, y.2 + 1 + jj)]) by rw [rcells_app]; rfl] at hown7
                  simp only [Nat.zero_add] at hown7
                  exact lies_own61 hown7
                · refine ((((c3.alloc hws _).drew).grown hgrow (by simp; omega) ?_).alloc ?_ _).grown hgrow2 ?_ ?_
                  · intro j hj; simp [Value.ownBlock] at hj; omega
                  · have := hgrow.size; simp at this; omega
                  · have := hgrow.size; simp at this; simp; omega
                  · intro j hj; exact (hown5.lt j hj).1
              clear hown7 hgrow2 hat2 hlt7 hown6 hown5 hgrow hat hlt5 hown4 own0 hown3
              go_wp2_with (fail)
              go_meet
              exact hcutrel
            case rest =>
              obtain ⟨g2, cap2, rfl, hlt2, hl2, hb2⟩ := hcut
              have hno : ¬ FairP (l ++ [(y.1, y.2 + 1 + jj)]) rho := by
                have := jump_not (l := l) (rho := rho) (by rw [HN.out]; omega) (1 + jj) (by omega)
                rw [HY.out, ← Int.add_assoc] at this
                exact this
              have HL3 := Lib.hid hl2
              clear hl2 hown3 hc0 hc1
              go_wp2_with (fail)
              refine (fair_n _ _ _ _ (show (l ++ [(y.1, y.2 + 1 + jj)]).length = (k) + 1 by simp [HN.out]) (l ++ [(y.1, y.2 + 1 + jj)]) rho _ hlt2 (by have h9 := HN.out; rw [List.length_append]; simp only [List.length_cons, List.length_nil]; omega) HL3.out).mono ?_
              rw [← fairB_no hno]
              rintro e w5 ⟨rfl, b5⟩
              have c5 := below_trans hb2 b5
              clear hb2 b5 HL3 hno
              go_wp2_with (fail)
              refine (known_any _).mono ?_
              rintro e w6 ⟨rfl, b6⟩
              go_wp2_with (fail)
              go_ret
              exact ⟨rfl, below_trans c5 b6⟩

set_option maxRecDepth 100000 in
set_option maxHeartbeats 4000000 in
theorem fairlaw_none (a : Option Addr) (cap : Nat) (a0 a1 a2 a4 : Int) (w : World) (w0 : (Lit.int .i64 a0).wf = true) (w1 : (Lit.int .i64 a1).wf = true) (w2 : (Lit.int .i64 a2).wf = true) :
    Calls Try.prog 8 #[.int .i64 a0, .int .i64 a1, .int .i64 a2, .slice a 0 cap, .int .i64 a4] w fun e w' => e = .returned (.bool true) ∧ Below w.heap.size w w' := by
  obtain ⟨l0, u0⟩ := wf_bd w0
  obtain ⟨l1, u1⟩ := wf_bd w1
  obtain ⟨l2, u2⟩ := wf_bd w2
  clear w0 w1 w2
  go_enter Try.func8, Try.ntmps8
  go_wp2_with (fail)
  refine (within_any a0 _ _ _ l0 u0 (by omega) (by omega) (by omega)).mono ?_
  obtain ⟨b0, b1⟩ := within_bd a0 (show (0 : Int) ≤ 500 by omega)
  generalize (0 : Int) + a0 % (500 - 0 + 1) = rho at *
  rintro e w' ⟨rfl, rfl⟩
  go_wp2_with (fail)
  refine (within_any a1 _ _ _ l1 u1 (by omega) (by omega) (by omega)).mono ?_
  obtain ⟨c0, c1⟩ := within_bd a1 (show (0 : Int) ≤ 2 * rho by omega)
  generalize (0 : Int) + a1 % (2 * rho - 0 + 1) = one at *
  rintro e w' ⟨rfl, rfl⟩
  go_wp2_with (fail)
  refine (within_any a2 _ _ _ l2 u2 (by omega) (by omega) (by omega)).mono ?_
  obtain ⟨d0, d1⟩ := within_bd a2 (show (0 : Int) ≤ 1000 by omega)
  generalize (0 : Int) + a2 % (1000 - 0 + 1) = start at *
  rintro e w' ⟨rfl, rfl⟩
  clear l0 u0 l1 u1 l2 u2
  go_wp2_with (fail)
  go_loopw [11, 12] (fun v i wr => v = .slice none 0 0 ∧ i = .int .i64 0 ∧ w = wr) (fun _ i _ => 0)
  case atStart => exact ⟨rfl, rfl, rfl⟩
  case round =>
    obtain ⟨rfl, rfl, rfl⟩ := hrel
    go_wp2_with (fail)
    refine (fair_nil rho _).mono ?_
    rw [← fairB_yes (l := []) (rho := rho) ⟨⟨b0, b1⟩, fun j hj => absurd hj (Nat.not_lt_zero _), fun i hi => absurd hi (Nat.not_lt_zero _)⟩]
    rintro e w1 ⟨rfl, b2⟩
    go_wp2_with (fail)
    refine (known_any _).mono ?_
    rintro e w6 ⟨rfl, b6⟩
    go_wp2_with (fail)
    go_ret
    exact ⟨rfl, below_trans b2 b6⟩

/-- A slice of numbers that came in. -/
theorem open_nums {H : Type} {enc : TypeId × Value → H} {P : Program} {W : World} {base : Nat} {spare : Nat → Bool} {held : Bool} {t e : TypeId} {a : Option Addr} {len cap : Nat} {d : DataW H} {p : List MemPlace}
    (ht : P.underlying t = some (.slice e)) (he : P.underlying e = some (.int .i64)) (hC : P.cellsOf e = 1) (h : DataW.Trod enc P W base spare held t (.slice a len cap) d p) :
    len ≤ cap ∧ cap ≤ maxLen ∧ ((a = none ∧ len = 0 ∧ cap = 0) ∨ ∃ x, a = some x ∧ (0 < len → x.spot = none ∧ x.block < W.heap.size) ∧
      ∃ xs : Nat → Int, ∀ j, j < len → W.cell? ⟨x.block, x.off + j, none⟩ = some (.int .i64 (xs j)) ∧ (Lit.int .i64 (xs j)).wf = true) := by
  obtain ⟨fuel, hf⟩ := h
  rcases open_ints ht he hC hf with ⟨hcs, _⟩ | ⟨x, l, c, zs, hcs, _, hl, hm, hz, _, hcell, hwf⟩
  · simp [Value.cells] at hcs
    obtain ⟨rfl, rfl, rfl⟩ := hcs
    exact ⟨Nat.le_refl _, Nat.zero_le _, .inl ⟨rfl, rfl, rfl⟩⟩
  · simp [Value.cells] at hcs
    obtain ⟨rfl, rfl, rfl⟩ := hcs
    have hlz : len ≤ zs.length := by rw [hz]; split <;> omega
    refine ⟨hl, hm, .inr ⟨x, rfl, fun hp => ?_, fun j => zs.getD j 0, fun j hj => ?_⟩⟩
    · have hc := cell_lt (hcell 0 (by omega))
      simp [Addr.add] at hc
      exact ⟨hc.2, hc.1⟩
    · have hc := hcell j (by omega)
      have hsp := (cell_lt hc).2
      refine ⟨?_, ?_⟩
      · unfold Addr.add at hc hsp
        split at hc
        · rename_i hz0
          rw [if_pos hz0] at hsp
          obtain ⟨xb, xo, xsp⟩ := x
          simp only at hsp
          subst hsp
          rw [hz0]
          rw [hz0] at hc
          exact hc
        · exact hc
      · have hjl : j < zs.length := by omega
        have : zs.getD j 0 = zs[j] := by simp [hjl]
        simp only [this]
        exact hwf _ (List.getElem_mem hjl)

theorem fairlaw_row {H : Type} {enc : TypeId × Value → H} {base : Nat} {spare : Nat → Bool} {held : Bool} {d : DataW H} {p : List MemPlace} (a0 a1 a2 : Int) (a : Option Addr) (len cap : Nat) (a4 : Int) (w : World)
    (w0 : (Lit.int .i64 a0).wf = true) (w1 : (Lit.int .i64 a1).wf = true) (w2 : (Lit.int .i64 a2).wf = true) (h : DataW.Trod enc Try.prog w base spare held 33 (.slice a len cap) d p) (w4 : (Lit.int .i64 a4).wf = true) :
    Calls Try.prog 8 #[.int .i64 a0, .int .i64 a1, .int .i64 a2, .slice a len cap, .int .i64 a4] w fun e w' => e = .returned (.bool true) ∧ Below w.heap.size w w' := by
  obtain ⟨hl, hc, hx⟩ := open_nums Try.underlying33 Try.underlying3 (by kernel_rfl) h
  rcases hx with ⟨rfl, rfl, rfl⟩ | ⟨x, rfl, hsp, xs, hxs⟩
  · exact fairlaw_none none 0 a0 a1 a2 a4 w w0 w1 w2
  · by_cases h0 : len = 0
    · subst h0
      exact fairlaw_none (some x) cap a0 a1 a2 a4 w w0 w1 w2
    · obtain ⟨sp, hb⟩ := hsp (by omega)
      obtain ⟨b, o, s⟩ := x
      simp only at sp hb hxs
      subst sp
      exact fairlaw_walk b o len cap xs a0 a1 a2 a4 w w0 w1 w2 w4 hb (by unfold maxLen at hc; omega) hxs

end Go.Proofs.Ytjokjbihkejagaa
