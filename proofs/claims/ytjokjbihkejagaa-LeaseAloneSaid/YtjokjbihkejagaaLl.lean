/- Chapter 11: the walk of LeasePlays. -/
import Derived.Test.YtjokjbihkejagaaLk
import Derived.Test.YtjokjbihkejagaaLh
import Derived.Deep.RegionHeld3
import Derived.Deep.DeepCutAuto
import Derived.Deep.CutBlock
namespace Go.Proofs.Ytjokjbihkejagaa
open Go.RowKit

/-- Rows of four numbers lie in memory. -/
def Lies4 (w : World) (b o len : Nat) (xs : Nat → Nat → Int) : Prop := ∀ i, i < len → ∀ j, j < 4 → w.cell? ⟨b, o + (i * 4 + j), none⟩ = some (.int .i64 (xs i j)) ∧ (Lit.int .i64 (xs i j)).wf = true

theorem kept4 {w w' : World} {X g : Nat} {a b c d : Value} (h : w.cell? ⟨X, 0, none⟩ = some a ∧ w.cell? ⟨X, 1, none⟩ = some b ∧ w.cell? ⟨X, 2, none⟩ = some c ∧ w.cell? ⟨X, 3, none⟩ = some d ∧ X < w.heap.size) (hg : w.grownBy w' (some g)) (hne : g ≠ X) :
    w'.cell? ⟨X, 0, none⟩ = some a ∧ w'.cell? ⟨X, 1, none⟩ = some b ∧ w'.cell? ⟨X, 2, none⟩ = some c ∧ w'.cell? ⟨X, 3, none⟩ = some d ∧ X < w'.heap.size :=
  have hn : (some X : Option Nat) ≠ some g := fun e => hne (by injection e with e; exact e.symm)
  have hX := h.2.2.2.2
  ⟨(hg.cell_far ⟨X, 0, none⟩ hX hn).trans h.1, (hg.cell_far ⟨X, 1, none⟩ hX hn).trans h.2.1, (hg.cell_far ⟨X, 2, none⟩ hX hn).trans h.2.2.1, (hg.cell_far ⟨X, 3, none⟩ hX hn).trans h.2.2.2.1, Nat.lt_of_lt_of_le hX hg.size⟩

def PlayRel (w : World) (g r len : Nat) (i : Value) (wr : World) : Prop :=
  ∃ (k : Nat) (whom gn till : Int) (a b : Bool) (c d : Int), k ≤ len ∧ k ≤ 100 ∧ i = .int .i64 k ∧ Gr wr g whom gn till ∧ Rr wr r a b c d ∧ Alike whom gn till a b c d ∧ Below w.heap.size w wr ∧ r < wr.heap.size

theorem ask_q (g : Nat) (whom gn till node now l : Int) {q : Bool} (w : World) (hg : g < w.heap.size) (h : Gr w g whom gn till) (hq : askB whom gn till node now l = q) :
    Calls Try.prog 13 #[.pointer (some ⟨g, 0, none⟩), .int .i64 node, .int .i64 now, .int .i64 l] w fun e w' => e = .returned (.bool q) ∧
      Gr w' g (if q then 1 else whom) (if q then node else gn) (if q then max till (now + l) else till) ∧ w.grownBy w' (some g) := by
  have := ask_any g whom gn till node now l w hg h
  rw [hq] at this
  exact this
theorem rask_q (g : Nat) (a b : Bool) (c d node now l : Int) {q : Bool} (w : World) (h : Rr w g a b c d) (hq : raskB a b c d node now l = q) :
    Calls Try.prog 17 #[.pointer (some ⟨g, 0, none⟩), .int .i64 node, .int .i64 now, .int .i64 l] w fun e w' => e = .returned (.bool q) ∧
      Rr w' g (if q then true else a) (if q then false else b) (if q then node else c) (if q then max d (now + l) else d) ∧ w.grownBy w' (some g) := by
  have := rask_any g a b c d node now l w h
  rw [hq] at this
  exact this

theorem quiet_left {P : Program} {f : FuncId} {args : Array Value} {w : World} {n : Nat} {v : Value}
    (h : Calls P f args (w.drewN n) fun e w' => e = .returned v ∧ w.drewN n = w') : Calls P f args (w.drewN n) fun e w' => e = .returned v ∧ ∃ m, w' = w.drewN m :=
  h.mono fun _ _ ⟨he, hm⟩ => ⟨he, n, hm.symm⟩
theorem Gr.drewN {w : World} {g : Nat} {a b c : Int} (h : Gr w g a b c) (n : Nat) : Gr (w.drewN n) g a b c := ⟨h.c0, h.c1, h.c2, h.f0, h.f1, h.f2⟩
theorem Rr.drewN {w : World} {g : Nat} {a b : Bool} {c d : Int} (h : Rr w g a b c d) (n : Nat) : Rr (w.drewN n) g a b c d := ⟨h.c0, h.c1, h.c2, h.c3, h.f0, h.f1, h.f2, h.f3⟩
theorem barred_q (g : Nat) (whom gn till node now : Int) {q : Bool} (w : World) (h : Gr w g whom gn till) (hb : barB whom gn till node now = q) :
    Calls Try.prog 15 #[.pointer (some ⟨g, 0, none⟩), .int .i64 node, .int .i64 now] w fun e w' => e = .returned (.bool q) ∧ w = w' :=
  (barred_any g whom gn till node now w h).mono fun _ _ ⟨he, hw⟩ => ⟨by rw [he, hb], hw⟩
theorem rbarred_q (g : Nat) (a b : Bool) (c d node now : Int) {q : Bool} (w : World) (h : Rr w g a b c d) (hb : rbarB a b c d node now = q) :
    Calls Try.prog 20 #[.pointer (some ⟨g, 0, none⟩), .int .i64 node, .int .i64 now] w fun e w' => e = .returned (.bool q) ∧ w = w' :=
  (rbarred_any g a b c d node now w h).mono fun _ _ ⟨he, hw⟩ => ⟨by rw [he, hb], hw⟩

def MidRel (w : World) (g r X : Nat) (kind node now n : Int) (wx : World) : Prop :=
  ∃ (whom gn till : Int) (a b : Bool) (c d : Int), Gr wx g whom gn till ∧ Rr wx r a b c d ∧ Alike whom gn till a b c d ∧ Below w.heap.size w wx ∧ r < wx.heap.size ∧
    (wx.cell? ⟨X, 0, none⟩ = some (.int .i64 kind) ∧ wx.cell? ⟨X, 1, none⟩ = some (.int .i64 node) ∧ wx.cell? ⟨X, 2, none⟩ = some (.int .i64 now) ∧ wx.cell? ⟨X, 3, none⟩ = some (.int .i64 n) ∧ X < wx.heap.size) ∧ g ≠ X ∧ r ≠ X

set_option maxRecDepth 100000 in
set_option maxHeartbeats 4000000 in
theorem plays_walk (b o len cap : Nat) (xs : Nat → Nat → Int) (rho : Int) (w : World) (hb : b < w.heap.size) (hl : len ≤ 9223372036854775807) (hL : Lies4 w b o len xs) (hr : 0 ≤ rho) (hr' : rho ≤ 500) :
    Calls Try.prog 5 #[.int .i64 rho, .slice (some ⟨b, o, none⟩) len cap] w fun e w' => e = .returned (.bool true) ∧ Below w.heap.size w w' := by
  have HL := Lib.hid hL; clear hL
  have hd0 : decide (rho < 0) = false := by simpa using hr
  have hd1 : decide (500 < rho) = false := by simpa using hr'
  go_enter Try.func5, Try.ntmps5
  go_wp2_with (fail)
  refine (new_any _ _ hr hr').mono ?_
  rintro e w1 ⟨rfl, k1, b1, hz1⟩
  obtain ⟨g, hg⟩ : ∃ g : Nat, g = w.heap.size := ⟨_, rfl⟩
  rw [← hg] at hz1 k1
  rw [← hg]
  have s1 : w.heap.size ≤ g := by omega
  have s2 : g < w1.heap.size := by omega
  have s3 : w1.heap.size = g + 1 := hz1
  clear hg hz1
  go_wp2_with (fail)
  refine (rnew_any _).mono ?_
  rintro e w2 ⟨rfl, q2, b2, hz2⟩
  obtain ⟨r, hr2⟩ : ∃ r : Nat, r = w1.heap.size := ⟨_, rfl⟩
  rw [← hr2] at hz2 q2
  rw [← hr2]
  have s4 : g < r := by omega
  have s5 : r < w2.heap.size := by omega
  have k2 := k1.below b2 s2
  have c2 := below_trans b1 b2
  clear hr2 hz2 s3 s2 b1 b2 k1
  go_wp2_with (fail)
  go_loopw [8] (fun i wr => PlayRel w g r len i wr) (fun i _ => 100 - (intOf i).toNat)
  case atStart => exact ⟨0, 0, 0, 0, false, false, 0, 0, by omega, by omega, rfl, k2, q2, ⟨rfl, .inl ⟨rfl, rfl⟩⟩, c2, s5⟩
  case round =>
    clear k2 q2 c2 s5
    obtain ⟨k, whom, gn, till, a, b', c, d, hk, hk', rfl, gk, rk, hal, hbw, s5⟩ := hrel
    have HA := Lib.hid hal; clear hal
    by_cases hlt : k < len ∧ k < 100
    · obtain ⟨hlt, hlt'⟩ := hlt
      have hc0 := (hbw.cell (p := ⟨b, o + (k * 4 + 0), none⟩) hb).trans (HL.out k hlt 0 (by omega)).1
      have hc1 := (hbw.cell (p := ⟨b, o + (k * 4 + 1), none⟩) hb).trans (HL.out k hlt 1 (by omega)).1
      have hc2 := (hbw.cell (p := ⟨b, o + (k * 4 + 2), none⟩) hb).trans (HL.out k hlt 2 (by omega)).1
      have hc3 := (hbw.cell (p := ⟨b, o + (k * 4 + 3), none⟩) hb).trans (HL.out k hlt 3 (by omega)).1
      simp only [← Nat.add_assoc, Nat.add_zero] at hc0 hc1 hc2 hc3
      generalize xs k 0 = kind at *
      generalize xs k 1 = node at *
      generalize xs k 2 = now at *
      generalize xs k 3 = n at *
      go_upto_block 2 with (fail)
      obtain ⟨X, hX⟩ : ∃ X : Nat, X = wr.heap.size := ⟨_, rfl⟩
      obtain ⟨W, hW⟩ : ∃ W : World, W = wr.alloc (Obj.cells #[Value.int IntKind.i64 kind, Value.int IntKind.i64 node, Value.int IntKind.i64 now, Value.int IntKind.i64 n] 39) := ⟨_, rfl⟩
      rw [← hW, ← hX]
      have hx0 : W.cell? ⟨X, 0, none⟩ = some (.int .i64 kind) := by rw [hW, hX]; simp
      have hx1 : W.cell? ⟨X, 1, none⟩ = some (.int .i64 node) := by rw [hW, hX]; simp
      have hx2 : W.cell? ⟨X, 2, none⟩ = some (.int .i64 now) := by rw [hW, hX]; simp
      have hx3 : W.cell? ⟨X, 3, none⟩ = some (.int .i64 n) := by rw [hW, hX]; simp
      have hXs : X < W.heap.size := by rw [hW, hX]; simp
      have hgk : Gr W g whom gn till := gk.below (w := wr) (by rw [hW]; exact (Below.refl _ _).alloc (Nat.le_refl _) _) (by omega)
      have hrk : Rr W r a b' c d := rk.below (w := wr) (by rw [hW]; exact (Below.refl _ _).alloc (Nat.le_refl _) _) (by omega)
      have hbW : Below w.heap.size w W := by rw [hW]; exact hbw.alloc hbw.size _
      have hgX : g ≠ X := by omega
      have hrX : r ≠ X := by omega
      have hrW : r < W.heap.size := by omega
      have hgW : g < W.heap.size := by omega
      have hgr : g ≠ r := by omega
      have hS0 := And.intro hx0 (And.intro hx1 (And.intro hx2 (And.intro hx3 hXs)))
      have hgk' : Gr W.drew g whom gn till := ⟨hgk.c0, hgk.c1, hgk.c2, hgk.f0, hgk.f1, hgk.f2⟩
      have hrk' : Rr W.drew r a b' c d := ⟨hrk.c0, hrk.c1, hrk.c2, hrk.c3, hrk.f0, hrk.f1, hrk.f2, hrk.f3⟩
      have hgW' : g < W.drew.heap.size := hgW
      have hrW' : r < W.drew.heap.size := hrW
      clear hc0 hc1 hc2 hc3 hX hW hbw gk rk s5 wr
      go_cut [] (fun wx => MidRel w g r X kind node now n wx)
      case first =>
        by_cases hk1 : kind = 1
        · subst hk1
          obtain ⟨q, hq⟩ : ∃ q, askB whom gn till node now n = q := ⟨_, rfl⟩
          have hq' : raskB a b' c d node now n = q := by rw [← alike_ask HA.out, hq]
          have hal2 := alike_asked HA.out node now n q
          have HQ := Lib.hid hq; clear hq
          have HQ' := Lib.hid hq'; clear hq'
          cases q
          all_goals
            simp only [Bool.false_eq_true, if_false, if_true] at hal2
            have HA2 := Lib.hid hal2; clear hal2
            go_wp2_with (fail)
            go_region_held3 (fun w' => w'.cell? ⟨X, 0, none⟩ = some (.int .i64 1) ∧ w'.cell? ⟨X, 1, none⟩ = some (.int .i64 node) ∧ w'.cell? ⟨X, 2, none⟩ = some (.int .i64 now) ∧ w'.cell? ⟨X, 3, none⟩ = some (.int .i64 n) ∧ X < w'.heap.size)
              (first | (simp; assumption) | (refine kept4 ?_ hw1 hgX; assumption) | (refine kept4 ?_ hw2 hrX; assumption))
              (first
                | (go_at_call 13; refine (ask_q g whom gn till node now n _ hgW' hgk' HQ.out).mono ?_; rintro e w' ⟨rfl, k1, hw1⟩; have hrk2 := hrk'.grown hw1 hrW' (Ne.symm hgr))
                | (go_at_call 17; refine (rask_q r a b' c d node now n _ hrk2 HQ'.out).mono ?_; rintro e w' ⟨rfl, q1, hw2⟩))
            rename_i hS
            simp only [Bool.false_eq_true, if_false, if_true] at k1 q1
            have hmid : MidRel w g r X 1 node now n _ := ⟨_, _, _, _, _, _, _, k1.grown hw2 (Nat.lt_of_lt_of_le hgW' hw1.size) hgr, q1, HA2.out, below_grown (below_grown (hbW.drew) hw1 (by omega)) hw2 (by omega), Nat.lt_of_lt_of_le (Nat.lt_of_lt_of_le hrW' hw1.size) hw2.size, hS, hgX, hrX⟩
            clear hS k1 q1 hrk2 hw1 hw2 hgk' hrk' hgk hrk hS0 hx0 hx1 hx2 hx3 
            go_wp2_with (fail)
            go_meet
            exact hmid
        · by_cases hk2 : kind = 2
          · subst hk2
            have hal2 := alike_lost HA.out now n (okNB now n)
            have HA2 := Lib.hid hal2; clear hal2
            clear hk1
            go_wp2_with (fail)
            refine (lost_any g whom gn till now n _ hgW hgk).mono ?_
            rintro e w1 ⟨rfl, k1, hw1⟩
            have hrk2 := hrk.grown hw1 hrW (Ne.symm hgr)
            have hS1 := kept4 hS0 hw1 hgX
            obtain ⟨y0, y1, y2, y3, y4⟩ := id hS1
            go_wp2_with (fail)
            refine (rlost_any r a b' c d now n _ hrk2).mono ?_
            rintro e w2 ⟨rfl, q1, hw2⟩
            have hS2 := kept4 hS1 hw2 hrX
            have hmid : MidRel w g r X 2 node now n _ := ⟨_, _, _, _, _, _, _, k1.grown hw2 (Nat.lt_of_lt_of_le hgW hw1.size) hgr, q1, HA2.out, below_grown (below_grown hbW hw1 (by omega)) hw2 (by omega), Nat.lt_of_lt_of_le (Nat.lt_of_lt_of_le hrW hw1.size) hw2.size, hS2, hgX, hrX⟩
            clear hS2 hS1 y0 y1 y2 y3 y4 k1 q1 hrk2 hw1 hw2 hgk' hrk' hgk hrk hS0 hx0 hx1 hx2 hx3 
            go_wp2_with (fail)
            go_meet
            exact hmid
          · have hmid : MidRel w g r X kind node now n _ := ⟨_, _, _, _, _, _, _, hgk, hrk, HA.out, hbW, hrW, hS0, hgX, hrX⟩
            have e1 : (kind == 1) = false := by simpa using hk1
            have e2 : (kind == 2) = false := by simpa using hk2
            clear hk1 hk2 hgk' hrk' hgk hrk hS0 
            go_wp2_with (fail)
            go_meet
            exact hmid
      case rest =>
        clear hgk' hrk' hgk hrk hS0 hx0 hx1 hx2 hx3 hbW HA hXs hrW hgW hgW' hrW' hgX hrX
        clear whom gn till a b' c d
        obtain ⟨whom, gn, till, a, b', c, d, gk, rk, hal, hbw, s5, ⟨hx0, hx1, hx2, hx3, hXs⟩, hgX, hrX⟩ := hcut
        obtain ⟨q, hq⟩ : ∃ q, barB whom gn till node now = q := ⟨_, rfl⟩
        have hq' : rbarB a b' c d node now = q := by rw [← alike_bar hal, hq]
        have HQ := Lib.hid hq; clear hq
        have HQ' := Lib.hid hq'; clear hq'
        have htd : till = d := hal.1
        subst htd
        have HA := Lib.hid hal; clear hal
        have rc3 := rk.c3
        cases q
        all_goals
          go_wp2_with (fail)
          go_quiet ((first
            | (go_at_call 15; exact quiet_left (barred_q g whom gn till node now _ (gk.drewN _) HQ.out))
            | (go_at_call 20; exact quiet_left (rbarred_q r a b' c till node now _ (rk.drewN _) HQ'.out))
            | (go_at_call 21; exact quiet_left (until_any g whom gn till _ (gk.drewN _)))))
          have hrel2 : PlayRel w g r len (.int .i64 ((k + 1 : Nat) : Int)) (wc.drewN nq) := ⟨k + 1, _, _, _, _, _, _, _, by omega, by omega, rfl, gk.drewN nq, rk.drewN nq, HA.out, below_drewN hbw nq, s5⟩
          clear gk rk HA hbw hx0 hx1 hx2 hx3 rc3
          go_wp2_with (fail)
          go_roundw
          case rel => simpa using hrel2
          case measure => simp [intOf]; omega
    · clear gk rk HA
      by_cases hlt2 : k < len
      · have h100 : k = 100 := by omega
        subst h100
        go_wp2_with (fail)
        refine (known_any _).mono ?_
        rintro e w3 ⟨rfl, hw3⟩
        go_wp2_with (fail)
        go_ret
        exact ⟨rfl, below_trans hbw hw3⟩
      · have hkl : k = len := by omega
        subst hkl
        go_wp2_with (fail)
        refine (known_any _).mono ?_
        rintro e w3 ⟨rfl, hw3⟩
        go_wp2_with (fail)
        go_ret
        exact ⟨rfl, below_trans hbw hw3⟩

set_option maxRecDepth 100000 in
set_option maxHeartbeats 4000000 in
theorem plays_none (a : Option Addr) (cap : Nat) (rho : Int) (w : World) (hr : 0 ≤ rho) (hr' : rho ≤ 500) :
    Calls Try.prog 5 #[.int .i64 rho, .slice a 0 cap] w fun e w' => e = .returned (.bool true) ∧ Below w.heap.size w w' := by
  have hd0 : decide (rho < 0) = false := by simpa using hr
  have hd1 : decide (500 < rho) = false := by simpa using hr'
  go_enter Try.func5, Try.ntmps5
  go_wp2_with (fail)
  refine (new_any _ _ hr hr').mono ?_
  rintro e w1 ⟨rfl, k1, b1, hz1⟩
  go_wp2_with (fail)
  refine (rnew_any _).mono ?_
  rintro e w2 ⟨rfl, q2, b2, hz2⟩
  have c2 := below_trans b1 b2
  clear k1 q2 b1 b2 hz1 hz2
  go_wp2_with (fail)
  go_loopw [8] (fun i wr => i = .int .i64 0 ∧ w2 = wr) (fun i _ => 0)
  case atStart => exact ⟨rfl, rfl⟩
  case round =>
    obtain ⟨rfl, rfl⟩ := hrel
    go_wp2_with (fail)
    refine (known_any _).mono ?_
    rintro e w3 ⟨rfl, hw3⟩
    go_wp2_with (fail)
    go_ret
    exact ⟨rfl, below_trans c2 hw3⟩

set_option maxRecDepth 100000 in
set_option maxHeartbeats 4000000 in
theorem plays_no (a : Option Addr) (len cap : Nat) (rho : Int) (w : World) (h : rho < 0 ∨ 500 < rho) :
    Calls Try.prog 5 #[.int .i64 rho, .slice a len cap] w fun e w' => e = .returned (.bool true) ∧ Below w.heap.size w w' := by
  have HH := Lib.hid h; clear h
  by_cases h0 : rho < 0
  · go_enter Try.func5, Try.ntmps5
    go_wp2_with (fail)
    refine (new_no _ _ HH.out).mono ?_
    rintro e w1 ⟨rfl, rfl⟩
    go_wp2_with (fail)
    refine (known_any _).mono ?_
    rintro e w3 ⟨rfl, hw3⟩
    go_wp2_with (fail)
    go_ret
    exact ⟨rfl, hw3⟩
  · have h1 : 500 < rho := by have := HH.out; omega
    have hd1 : decide (500 < rho) = true := by simpa using h1
    have hd0 : decide (rho < 0) = false := by simpa using h0
    go_enter Try.func5, Try.ntmps5
    go_wp2_with (fail)
    refine (new_no _ _ HH.out).mono ?_
    rintro e w1 ⟨rfl, rfl⟩
    go_wp2_with (fail)
    refine (known_any _).mono ?_
    rintro e w3 ⟨rfl, hw3⟩
    go_wp2_with (fail)
    go_ret
    exact ⟨rfl, hw3⟩

end Go.Proofs.Ytjokjbihkejagaa
