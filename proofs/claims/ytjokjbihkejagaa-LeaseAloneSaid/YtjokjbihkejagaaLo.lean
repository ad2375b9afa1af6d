/- Chapter 11: the walk of LeaseTells. -/
import Derived.Test.YtjokjbihkejagaaLn
import Derived.Test.YtjokjbihkejagaaLk
import Derived.Test.YtjokjbihkejagaaLj
namespace Go.Proofs.Ytjokjbihkejagaa
open Go.RowKit Go.ChangeShapes Go.WideShapes

/-- what Hold and Bar tell -/
noncomputable def holdV (a l r : Int) : Int := @ite _ (okN a l ∧ 0 ≤ r ∧ r ≤ 500) (Classical.propDecidable _) (a + l * (1000 - r) / (1000 + r)) 0
noncomputable def holdE (a l r : Int) : Int := @ite _ (okN a l ∧ 0 ≤ r ∧ r ≤ 500) (Classical.propDecidable _) 0 1
noncomputable def barV (a l : Int) : Int := @ite _ (okN a l) (Classical.propDecidable _) (a + l) 0
noncomputable def barE (a l : Int) : Int := @ite _ (okN a l) (Classical.propDecidable _) 0 1

theorem hold_v (a l r : Int) (w : World) : Calls Try.prog 11 #[.int .i64 a, .int .i64 l, .int .i64 r] w fun e w' => e = .returned (.tuple #[.int .i64 (holdV a l r), .int .i64 (holdE a l r)]) ∧ Below w.heap.size w w' := by
  unfold holdV holdE
  by_cases h : okN a l ∧ 0 ≤ r ∧ r ≤ 500
  · rw [if_pos h, if_pos h]
    exact hold_yes a l r w h.1.1.1 h.1.1.2 h.1.2.1 h.1.2.2 h.2.1 h.2.2
  · rw [if_neg h, if_neg h]
    exact hold_no a l r w (by unfold okN at h; omega)
theorem rhold_v (a l r : Int) (w : World) : Calls Try.prog 22 #[.int .i64 a, .int .i64 l, .int .i64 r] w fun e w' => e = .returned (.tuple #[.int .i64 (holdV a l r), .int .i64 (holdE a l r)]) ∧ w = w' := by
  unfold holdV holdE
  by_cases h : okN a l ∧ 0 ≤ r ∧ r ≤ 500
  · rw [if_pos h, if_pos h]
    exact rhold_yes a l r w h.1.1.1 h.1.1.2 h.1.2.1 h.1.2.2 h.2.1 h.2.2
  · rw [if_neg h, if_neg h]
    exact rhold_no a l r w (by unfold okN at h; omega)
theorem bar_v (a l : Int) (w : World) : Calls Try.prog 23 #[.int .i64 a, .int .i64 l] w fun e w' => e = .returned (.tuple #[.int .i64 (barV a l), .int .i64 (barE a l)]) ∧ Below w.heap.size w w' := by
  unfold barV barE
  by_cases h : okN a l
  · rw [if_pos h, if_pos h]
    exact bar_yes a l w h.1.1 h.1.2 h.2.1 h.2.2
  · rw [if_neg h, if_neg h]
    exact bar_no a l w (okN_not h)
theorem rbar_v (a l : Int) (w : World) : Calls Try.prog 24 #[.int .i64 a, .int .i64 l] w fun e w' => e = .returned (.tuple #[.int .i64 (barV a l), .int .i64 (barE a l)]) ∧ w = w' := by
  unfold barV barE
  by_cases h : okN a l
  · rw [if_pos h, if_pos h]
    exact rbar_yes a l w h.1.1 h.1.2 h.2.1 h.2.2
  · rw [if_neg h, if_neg h]
    exact rbar_no a l w (okN_not h)

/-- Readings that a row owns lie in memory. -/
theorem rcells_get (l : List Rdg) (j : Nat) (h : j < l.length) : (rcells l)[j * 2]? = some (.int .i64 (rd l j).1) ∧ (rcells l)[j * 2 + 1]? = some (.int .i64 (rd l j).2) := by
  induction l generalizing j with
  | nil => simp at h
  | cons x l ih =>
    cases j with
    | zero => simp [rcells, rd]
    | succ j =>
      have := ih j (by simpa using h)
      have e1 : (j + 1) * 2 = j * 2 + 1 + 1 := by omega
      simp only [rcells, List.flatMap_cons, e1] at this ⊢
      simpa [rd] using this

theorem lies_own {w : World} {base g n cap : Nat} {l : List Rdg} (h : w.ownsRow base 70 2 (.slice (some ⟨g, 0, none⟩) n cap) n (rcells l)) : Lies w g 0 l := fun j hj => by
  obtain ⟨h0, h1⟩ := rcells_get l j hj
  have c0 := h.cells (g := g) rfl _ _ h0
  have c1 := h.cells (g := g) rfl _ _ h1
  have ad : ∀ k, (⟨g, 0, none⟩ : Addr).add k = ⟨g, 0 + k, none⟩ := fun k => by unfold Addr.add; split <;> simp_all
  rw [ad] at c0 c1
  exact ⟨c0, by rw [Nat.add_assoc]; exact c1⟩

theorem fair_n (b o cap n : Nat) {m : List Rdg} (hn : m.length = n) (m' : List Rdg) (rho : Int) (w : World) (hb : b < w.heap.size) (hl : m'.length ≤ 20) (hL : Lies w b o m') (e : m = m' := by rfl) :
    Calls Try.prog 25 #[.slice (some ⟨b, o, none⟩) n cap, .int .i64 rho] w fun e w' => e = .returned (.bool (fairB m' rho)) ∧ Below w.heap.size w w' := by
  subst e; subst hn
  exact fair_any b o cap m rho w hb (by omega) hL
theorem in_n (b o cap n : Nat) {m : List Rdg} (hn : m.length = n) (m' : List Rdg) (w : World) (hb : b < w.heap.size) (hl : m'.length ≤ 20) (hL : Lies w b o m') (e : m = m' := by rfl) :
    Calls Try.prog 27 #[.slice (some ⟨b, o, none⟩) n cap] w fun e w' => ∃ v, e = .returned v ∧ w'.ownsRow w.heap.size 70 2 v m'.length (rcells m') ∧ Below w.heap.size w w' := by
  subst e; subst hn
  exact in_any b o cap m w hb hl hL

set_option maxHeartbeats 1000000 in
theorem fair_zero (a : Option Addr) (cap : Nat) (rho : Int) (w : World) :
    Calls Try.prog 25 #[.slice a 0 cap, .int .i64 rho] w fun e w' => e = .returned (.bool (fairB [] rho)) ∧ Below w.heap.size w w' := by
  by_cases hr : 0 ≤ rho ∧ rho ≤ 500
  · obtain ⟨r0, r1⟩ := hr
    go_enter Try.func25, Try.ntmps25
    go_wp2_with (go_at_call 29; refine (drifts_yes _ _ r0 r1).mono ?_; rintro e w' ⟨rfl, rfl⟩)
    go_loopw [18] (fun i wr => i = .int .i64 0 ∧ w = wr) (fun i _ => 0)
    case atStart => exact ⟨rfl, rfl⟩
    case round =>
      obtain ⟨rfl, rfl⟩ := hrel
      go_wp2_with (fail)
      go_loopw [32] (fun i wr => i = .int .i64 0 ∧ w = wr) (fun i _ => 0)
      case atStart => exact ⟨rfl, rfl⟩
      case round =>
        obtain ⟨rfl, rfl⟩ := hrel
        go_wp2_with (fail)
        go_ret
        exact ⟨ret_bool (fairB_yes ⟨⟨r0, r1⟩, fun j hj => absurd hj (Nat.not_lt_zero _), fun i hi => absurd hi (Nat.not_lt_zero _)⟩), Below.refl _ _⟩
  · have hr' : rho < 0 ∨ 500 < rho := by omega
    have HR := Lib.hid hr'; clear hr'
    go_enter Try.func25, Try.ntmps25
    go_wp2_with (go_at_call 29; refine (drifts_no _ _ HR.out).mono ?_; rintro e w' ⟨rfl, rfl⟩)
    go_ret
    exact ⟨ret_bool (fairB_no fun h => hr h.1), Below.refl _ _⟩

set_option maxRecDepth 100000 in
set_option maxHeartbeats 2000000 in
theorem tells_walk (b o cap : Nat) (l : List Rdg) (rho asked len : Int) (w : World) (hb : b < w.heap.size) (h0 : 0 < l.length) (hl : l.length ≤ cap) (hc : cap ≤ 9223372036854775807) (hL : Lies w b o l) :
    Calls Try.prog 7 #[.slice (some ⟨b, o, none⟩) l.length cap, .int .i64 rho, .int .i64 asked, .int .i64 len] w fun e w' => e = .returned (.bool true) ∧ Below w.heap.size w w' := by
  have HL := Lib.hid hL; clear hL
  obtain ⟨m, hm⟩ : ∃ m : List Rdg, m = l.take 20 := ⟨_, rfl⟩
  have hm20 : m.length ≤ 20 := by rw [hm]; simp; omega
  have hm0 : 0 < m.length := by rw [hm]; simp; omega
  have hLm : Lies w b o m := fun j hj => by
    have hj' : j < l.length ∧ j < 20 := by rw [hm] at hj; simp at hj; omega
    have e : rd m j = rd l j := by rw [hm]; simp [rd, List.getElem?_take, hj'.2]
    rw [e]
    exact HL.out j hj'.1
  by_cases h20 : 20 < l.length
  · have hlen : m.length = 20 := by rw [hm]; simp; omega
    have HLm := Lib.hid hLm; clear hLm
    have HM := Lib.hid hlen; clear hlen
    clear hm
    go_enter Try.func7, Try.ntmps7
    go_wp2_with (fail)
    refine (hold_v _ _ _ _).mono ?_
    rintro e w1 ⟨rfl, b1⟩
    go_wp2_with (fail)
    refine (rhold_v _ _ _ _).mono ?_
    rintro e w2 ⟨rfl, rfl⟩
    go_wp2_with (fail)
    refine (bar_v _ _ _).mono ?_
    rintro e w2 ⟨rfl, b2⟩
    go_wp2_with (fail)
    refine (rbar_v _ _ _).mono ?_
    rintro e w3 ⟨rfl, rfl⟩
    have c2 := below_trans b1 b2
    have hb2 : b < w2.heap.size := Nat.lt_of_lt_of_le hb c2.size
    have hL2 := Lib.hid (HLm.out.below c2 hb)
    clear b1 b2
    go_wp2_with (fail)
    refine (fair_n _ _ _ _ HM.out m rho _ hb2 hm20 hL2.out).mono ?_
    rintro e w3 ⟨rfl, b3⟩
    have c3 := below_trans c2 b3
    have hb3 : b < w3.heap.size := Nat.lt_of_lt_of_le hb c3.size
    have hL3 := Lib.hid (HLm.out.below c3 hb)
    clear c2 b3 hb2 hL2
    go_wp2_with (fail)
    refine (in_n _ _ _ _ HM.out m _ hb3 hm20 hL3.out).mono ?_
    rintro e w4 ⟨v, rfl, hown, b4⟩
    have c4 := below_trans c3 b4
    obtain ⟨g, gc, rfl, hg1, hg2⟩ := hown.form hm0
    have hL4 := Lib.hid (lies_own hown)
    clear c3 b4 hb3 hL3 hown
    go_wp2_with (fail)
    refine (rfair_any _ _ _ m rho _ hg2 (by omega) hL4.out).mono ?_
    rintro e w5 ⟨rfl, b5⟩
    have c5 := below_trans c4 b5
    clear c4 b5 hL4
    generalize fairB m rho = q
    go_wp2_with (fail)
    refine (known_any _).mono ?_
    rintro e w6 ⟨rfl, b6⟩
    go_wp2_with (fail)
    go_ret
    exact ⟨rfl, below_trans c5 b6⟩
  · have hlen : m = l := by rw [hm]; exact List.take_of_length_le (by omega)
    have hlen2 : m.length = l.length := by rw [hlen]
    have HLm := Lib.hid hLm; clear hLm
    have HM := Lib.hid hlen2; clear hlen hlen2
    clear hm
    go_enter Try.func7, Try.ntmps7
    go_wp2_with (fail)
    refine (hold_v _ _ _ _).mono ?_
    rintro e w1 ⟨rfl, b1⟩
    go_wp2_with (fail)
    refine (rhold_v _ _ _ _).mono ?_
    rintro e w2 ⟨rfl, rfl⟩
    go_wp2_with (fail)
    refine (bar_v _ _ _).mono ?_
    rintro e w2 ⟨rfl, b2⟩
    go_wp2_with (fail)
    refine (rbar_v _ _ _).mono ?_
    rintro e w3 ⟨rfl, rfl⟩
    have c2 := below_trans b1 b2
    have hb2 : b < w2.heap.size := Nat.lt_of_lt_of_le hb c2.size
    have hL2 := Lib.hid (HLm.out.below c2 hb)
    clear b1 b2
    go_wp2_with (fail)
    refine (fair_n _ _ _ _ HM.out m rho _ hb2 hm20 hL2.out).mono ?_
    rintro e w3 ⟨rfl, b3⟩
    have c3 := below_trans c2 b3
    have hb3 : b < w3.heap.size := Nat.lt_of_lt_of_le hb c3.size
    have hL3 := Lib.hid (HLm.out.below c3 hb)
    clear c2 b3 hb2 hL2
    go_wp2_with (fail)
    refine (in_n _ _ _ _ HM.out m _ hb3 hm20 hL3.out).mono ?_
    rintro e w4 ⟨v, rfl, hown, b4⟩
    have c4 := below_trans c3 b4
    obtain ⟨g, gc, rfl, hg1, hg2⟩ := hown.form hm0
    have hL4 := Lib.hid (lies_own hown)
    clear c3 b4 hb3 hL3 hown
    go_wp2_with (fail)
    refine (rfair_any _ _ _ m rho _ hg2 (by omega) hL4.out).mono ?_
    rintro e w5 ⟨rfl, b5⟩
    have c5 := below_trans c4 b5
    clear c4 b5 hL4
    generalize fairB m rho = q
    go_wp2_with (fail)
    refine (known_any _).mono ?_
    rintro e w6 ⟨rfl, b6⟩
    go_wp2_with (fail)
    go_ret
    exact ⟨rfl, below_trans c5 b6⟩

set_option maxRecDepth 100000 in
set_option maxHeartbeats 2000000 in
theorem tells_none (a : Option Addr) (cap : Nat) (ha : a = none → cap = 0) (rho asked len : Int) (w : World) :
    Calls Try.prog 7 #[.slice a 0 cap, .int .i64 rho, .int .i64 asked, .int .i64 len] w fun e w' => e = .returned (.bool true) ∧ Below w.heap.size w w' := by
  go_enter Try.func7, Try.ntmps7
  go_wp2_with (fail)
  refine (hold_v _ _ _ _).mono ?_
  rintro e w1 ⟨rfl, b1⟩
  go_wp2_with (fail)
  refine (rhold_v _ _ _ _).mono ?_
  rintro e w2 ⟨rfl, rfl⟩
  go_wp2_with (fail)
  refine (bar_v _ _ _).mono ?_
  rintro e w2 ⟨rfl, b2⟩
  go_wp2_with (fail)
  refine (rbar_v _ _ _).mono ?_
  rintro e w3 ⟨rfl, rfl⟩
  have c2 := below_trans b1 b2
  clear b1 b2
  go_wp2_with (fail)
  refine (fair_zero a cap rho _).mono ?_
  rintro e w3 ⟨rfl, b3⟩
  have c3 := below_trans c2 b3
  clear c2 b3
  go_wp2_with (fail)
  refine (in_none _ _ _).mono ?_
  rintro e w4 ⟨rfl, rfl⟩
  go_wp2_with (fail)
  refine (rfair_nil _ _).mono ?_
  rintro e w5 ⟨rfl, b5⟩
  have c5 := below_trans c3 b5
  clear c3 b5
  generalize fairB [] rho = q
  go_wp2_with (fail)
  refine (known_any _).mono ?_
  rintro e w6 ⟨rfl, b6⟩
  go_wp2_with (fail)
  go_ret
  exact ⟨rfl, below_trans c5 b6⟩

theorem tells_row {H : Type} {enc : TypeId × Value → H} {base : Nat} {spare : Nat → Bool} {held : Bool} {d : DataW H} {p : List MemPlace} (a : Option Addr) (len cap : Nat) (rho asked l : Int) (w : World)
    (h : DataW.Trod enc Try.prog w base spare held 50 (.slice a len cap) d p) (_w1 : (Lit.int .i64 rho).wf = true) (_w2 : (Lit.int .i64 asked).wf = true) (_w3 : (Lit.int .i64 l).wf = true) :
    Calls Try.prog 7 #[.slice a len cap, .int .i64 rho, .int .i64 asked, .int .i64 l] w fun e w' => e = .returned (.bool true) ∧ Below w.heap.size w w' := by
  obtain ⟨hl, hc, hx⟩ := open_recs Try.underlying50 Try.underlying61 (by kernel_rfl) (by kernel_rfl) (by decide) (fun j f hj => by
      have hj' : j < 2 := (Array.getElem?_eq_some_iff.1 hj).1
      obtain rfl | rfl : j = 0 ∨ j = 1 := by omega
      all_goals (simp at hj; subst hj; exact Try.underlying3)) h
  rcases hx with ⟨rfl, rfl, rfl⟩ | ⟨x, rfl, hsp, xs, hxs⟩
  · exact tells_none none 0 (fun _ => rfl) rho asked l w
  · by_cases h0 : len = 0
    · subst h0
      exact tells_none (some x) cap (fun h => by cases h) rho asked l w
    · obtain ⟨sp, hb⟩ := hsp (by omega)
      obtain ⟨b, o, s⟩ := x
      simp only at sp hb hxs
      subst sp
      have hll : ((List.range len).map fun i => (xs i 0, xs i 1)).length = len := by simp
      have key := tells_walk b o cap ((List.range len).map fun i => (xs i 0, xs i 1)) rho asked l w hb (by omega) (by omega) (by unfold maxLen at hc; omega) (fun j hj => by
        rw [hll] at hj
        have e : rd ((List.range len).map fun i => (xs i 0, xs i 1)) j = (xs j 0, xs j 1) := by simp [rd, hj]
        rw [e]
        exact ⟨(hxs j hj 0 (by decide)).1, (hxs j hj 1 (by decide)).1⟩)
      rw [hll] at key
      exact key

end Go.Proofs.Ytjokjbihkejagaa
