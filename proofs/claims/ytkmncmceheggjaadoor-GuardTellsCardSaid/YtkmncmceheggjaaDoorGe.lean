/- Chapter 12: Check. -/
import Derived.Test.YtkmncmceheggjaaDoorGd
import Derived.WalkMore
import Derived.Deep.AppendLies
import Derived.OwnWalk
import Derived.BigQuiet
import Derived.Deep.QuietTactic
namespace Go.Proofs.YtkmncmceheggjaaDoor
open Go.RowKit
set_option linter.unusedVariables false
set_option linter.unusedSimpArgs false

/-- what is told of the words that are left, with what is open -/
def ckGo (names : List ByteArray) (n : Nat) : List Wd → List Int → Int × Int
  | [], k => if 0 < k.length then (10, n) else (0, 0)
  | x :: l, k =>
    if kindI x.2 = 0 then (12, x.1) else if kindI x.2 = 2 ∧ hasB names x.2 = false then (20, x.1) else if 17 < k.length then (22, x.1) else if k.length = 0 then (11, x.1)
    else if kindI x.2 = 3 then ckGo names n l (1 :: k) else if kindI x.2 = 4 then ckGo names n l (2 :: k) else ckGo names n l (closeL k)
def checkP (names : List ByteArray) (s : List UInt8) : Int × Int := if 120 < s.length then (3, 0) else ckGo names s.length (wordsL s) [1]

theorem kindI_of (s : List UInt8) : kindI s = 0 ∨ kindI s = 1 ∨ kindI s = 2 ∨ kindI s = 3 ∨ kindI s = 4 := by
  unfold kindI; repeat' split
  all_goals simp
theorem closeL_len (k : List Int) : (closeL k).length ≤ k.length := by
  induction k with
  | nil => simp [closeL]
  | cons a k ih => simp only [closeL]; split <;> simp <;> omega
theorem closeL_bd {k : List Int} (h : ∀ a ∈ k, 1 ≤ a ∧ a ≤ 2) : ∀ a ∈ closeL k, 1 ≤ a ∧ a ≤ 2 := by
  induction k with
  | nil => simp [closeL]
  | cons a k ih =>
    simp only [closeL]
    split
    · intro b hb
      have := h a (by simp)
      rcases List.mem_cons.1 hb with rfl | hb
      · omega
      · exact h b (List.mem_cons_of_mem _ hb)
    · exact ih fun b hb => h b (List.mem_cons_of_mem _ hb)
theorem ckGo_cons (names : List ByteArray) (n : Nat) (x : Wd) (l : List Wd) (k : List Int) : ckGo names n (x :: l) k =
    if kindI x.2 = 0 then (12, (x.1 : Int)) else if kindI x.2 = 2 ∧ hasB names x.2 = false then (20, (x.1 : Int)) else if 17 < k.length then (22, (x.1 : Int)) else if k.length = 0 then (11, (x.1 : Int))
    else if kindI x.2 = 3 then ckGo names n l (1 :: k) else if kindI x.2 = 4 then ckGo names n l (2 :: k) else ckGo names n l (closeL k) := rfl

theorem grownBy_below {a w : World} (h : Below a.heap.size a w) (row : Option Nat) : a.grownBy w row := ⟨h.os, h.tape, h.output, h.size, fun i hi _ => h.block i hi⟩
theorem wgo_each (s : List UInt8) : ∀ i o, ∀ x ∈ wgo s i o, x.2.length ≤ s.length + (match o with | some y => y.2.length | none => 0) := by
  induction s with
  | nil => intro i o x hx; cases o <;> simp [wgo] at hx; subst hx; simp
  | cons c l ih =>
    intro i o x hx
    cases o with
    | none =>
      simp only [wgo] at hx
      split at hx
      · have := ih _ _ x hx; simp at this ⊢; omega
      · have := ih _ _ x hx; simp at this ⊢; omega
    | some y =>
      simp only [wgo] at hx
      split at hx
      · rcases List.mem_cons.1 hx with rfl | hx
        · simp
        · have := ih _ _ x hx; simp at this ⊢; omega
      · have := ih _ _ x hx; simp at this ⊢; omega
theorem words_each (s : List UInt8) (x : Wd) (h : x ∈ wordsL s) : x.2.length ≤ s.length := by
  have := wgo_each s 0 none x h; simpa using this

/-- the words as they lie -/
def WordsAt (w : World) (b : Nat) (l : List Wd) : Prop := ∀ j, j < l.length → w.cell? ⟨b, j * 2, none⟩ = some (.string (S (l.getD j (0, [])).2)) ∧ w.cell? ⟨b, j * 2 + 1, none⟩ = some (.int .i64 ((l.getD j (0, [])).1 : Int))
theorem wcells_at (l : List Wd) : ∀ j, j < l.length → (wcells l)[j * 2]? = some (.string (S (l.getD j (0, [])).2)) ∧ (wcells l)[j * 2 + 1]? = some (.int .i64 ((l.getD j (0, [])).1 : Int)) := by
  induction l with
  | nil => intro j hj; simp at hj
  | cons x l ih =>
    intro j hj
    cases j with
    | zero => simp [wcells]
    | succ j =>
      have := ih j (by simpa using hj)
      have e : wcells (x :: l) = Value.string (S x.2) :: Value.int .i64 (x.1 : Int) :: wcells l := rfl
      rw [e, show (j + 1) * 2 = j * 2 + 1 + 1 by omega, List.getElem?_cons_succ, List.getElem?_cons_succ, List.getElem?_cons_succ, List.getElem?_cons_succ]
      simpa using this
theorem words_lie {w : World} {base : Nat} {e : TypeId} {v : Value} {l : List Wd} (h : w.ownsRow base e 2 v l.length (wcells l)) (h0 : 0 < l.length) : ∃ b cap, v = .slice (some ⟨b, 0, none⟩) l.length cap ∧ base ≤ b ∧ b < w.heap.size ∧ WordsAt w b l := by
  obtain ⟨b, cap, rfl, h1, h2⟩ := h.form h0
  exact ⟨b, cap, rfl, h1, h2, fun j hj => ⟨(h.cellAt _ (by omega)).trans (wcells_at l j hj).1, (h.cellAt _ (by omega)).trans (wcells_at l j hj).2⟩⟩
theorem WordsAt.grown {w w' : World} {b : Nat} {l : List Wd} (h : WordsAt w b l) (hb : b < w.heap.size) {row : Option Nat} (hg : w.grownBy w' row) (hne : some b ≠ row) : WordsAt w' b l := fun j hj =>
  ⟨(hg.cell_far ⟨b, _, none⟩ hb hne).trans (h j hj).1, (hg.cell_far ⟨b, _, none⟩ hb hne).trans (h j hj).2⟩

theorem infoI : (Tryd.prog.info? 3).map (fun i => (i.zero, i.size, i.bytes)) = some (some (.int .i64 0), 1, 8) := by kernel_rfl

theorem ret_pair {a b : Int} {p : Int × Int} (h : (a, b) = p) : Ending.returned (.tuple #[.int .i64 a, .int .i64 b]) = .returned (.tuple #[.int .i64 p.1, .int .i64 p.2]) := by rw [← h]

theorem below_drewN {B : Nat} {a w : World} (h : Below B a w) (n : Nat) : Below B a (w.drewN n) := ⟨h.os, h.tape, h.output, h.size, h.block⟩
theorem strs_below {w w' : World} {a : Option Addr} {n : Nat} {l : List ByteArray} (hb : Below w.heap.size w w') (h : Strs w a n l) : Strs w' a n l := h.below hb
def CkRel (names : List ByteArray) (s : ByteArray) (w : World) (b : Nat) (o i : Value) (wr : World) : Prop :=
  ∃ (j : Nat) (k : List Int) (g cap : Nat), o = .slice (some ⟨g, 0, none⟩) k.length cap ∧ i = .int .i64 j ∧ j ≤ (wordsL s.toList).length ∧ wr.ownsRow w.heap.size 3 1 o k.length (icells k) ∧ (0 < (wordsL s.toList).length → g ≠ b ∧ b < wr.heap.size) ∧ WordsAt wr b (wordsL s.toList) ∧ Below w.heap.size w wr ∧
    ckGo names s.size ((wordsL s.toList).drop j) k = ckGo names s.size (wordsL s.toList) [1] ∧ (∀ a ∈ k, 1 ≤ a ∧ a ≤ 2) ∧ k.length ≤ j + 1

set_option maxRecDepth 100000 in
set_option maxHeartbeats 4000000 in
theorem check_any (s : ByteArray) (a : Option Addr) (n cap : Nat) (names : List ByteArray) (w : World) (hn : n ≤ 9223372036854775807) (hS : Strs w a n names) :
    Calls Tryd.prog 13 #[.string s, .slice a n cap] w fun e w' => e = .returned (.tuple #[.int .i64 (checkP names s.toList).1, .int .i64 (checkP names s.toList).2]) ∧ Below w.heap.size w w' := by
  have hlen := bytes_len s
  by_cases hs : 120 < s.size
  · have e : checkP names s.toList = (3, 0) := by unfold checkP; rw [hlen, if_pos hs]
    have hI : decide ((120 : Int) < (s.size : Int)) = true := by simp; omega
    rw [e]
    clear e hlen
    go_enter Tryd.func13, Tryd.ntmps13
    go_wp2
    go_ret2
    exact ⟨rfl, Below.refl _ _⟩
  have e : checkP names s.toList = ckGo names s.size (wordsL s.toList) [1] := by unfold checkP; rw [hlen, if_neg hs]
  rw [e]
  have hwl := words_len s.toList
  have hwe := fun x h => words_each s.toList x h
  rw [hlen] at hwl hwe
  have HWE := Lib.hid hwe; clear hwe
  clear e hlen
  have HS := Lib.hid hS; clear hS
  obtain ⟨i0, hi0, hz0, hz1, hz2⟩ := info_parts infoI
  go_enter Tryd.func13, Tryd.ntmps13
  go_wp2_with (fail)
  refine (words_any s _ (by omega)).mono ?_
  rintro e w1 ⟨wv, rfl, hwv, b1⟩
  have hL1 := Lib.hid (World.ownsRow_lit w #[.int .i64 1] 1 (Nat.le_refl _) (by simp [maxLen]) rfl : (w.alloc (.cells #[.int .i64 1] 3)).ownsRow w.heap.size 3 1 (.slice (some ⟨w.heap.size, 0, none⟩) 1 1) 1 [.int .i64 1])
  have hB1 : Below w.heap.size w w1 := ((Below.refl _ _).alloc (Nat.le_refl _) _).trans (b1.mono (by simp))
  have hO1 : w1.ownsRow w.heap.size 3 1 (.slice (some ⟨w.heap.size, 0, none⟩) 1 1) 1 [.int .i64 1] := World.ownsRow.kept hL1.out (grownBy_below b1 none) (.inr (by simp [Value.ownBlock]))
  obtain ⟨b, av, cv, rfl, hb0, hb1⟩ : ∃ b av cv, wv = .slice av (wordsL s.toList).length cv ∧ (0 < (wordsL s.toList).length → av = some ⟨b, 0, none⟩ ∧ w.heap.size ≠ b ∧ b < w1.heap.size) ∧ WordsAt w1 b (wordsL s.toList) := by
    rcases Nat.eq_zero_or_pos (wordsL s.toList).length with h0 | h0
    · rw [h0] at hwv ⊢
      rcases hwv.2 with ⟨rfl, _⟩ | ⟨g, cap, cur, rfl, _⟩
      · exact ⟨0, _, _, rfl, fun h => absurd h (by omega), fun j hj => absurd hj (by omega)⟩
      · exact ⟨0, _, _, rfl, fun h => absurd h (by omega), fun j hj => absurd hj (by omega)⟩
    · obtain ⟨b, c, rfl, h1, h2, h3⟩ := words_lie hwv h0
      simp at h1
      exact ⟨b, _, _, rfl, fun _ => ⟨rfl, by omega, h2⟩, h3⟩
  clear hwv hL1 b1
  have HB0 := Lib.hid hb0; clear hb0
  have HW1 := Lib.hid hb1; clear hb1
  go_wp2_with (fail)
  go_loopw [6, 17] (CkRel names s w b) (fun o i wr => (wordsL s.toList).length - (intOf i).toNat)
  case atStart => exact ⟨0, [1], w.heap.size, 1, rfl, rfl, by omega, hO1, fun h => (HB0.out h).2, HW1.out, hB1, rfl, by simp, by simp⟩
  case round =>
    clear hO1 hB1
    obtain ⟨j, k, g, cp, rfl, rfl, hj, hown, hgb, hwa, hbw, hck, hkb, hkl⟩ := hrel
    have HC := Lib.hid hck; clear hck
    have HKB := Lib.hid hkb; clear hkb
    have HGB := Lib.hid hgb; clear hgb
    have HWA := Lib.hid hwa; clear hwa
    by_cases hlt : j < (wordsL s.toList).length
    · obtain ⟨rfl, _, _⟩ := HB0.out (by omega)
      obtain ⟨hgb1, hbs⟩ := HGB.out (by omega)
      obtain ⟨hc0, hc1⟩ := HWA.out j hlt
      have hck := HC.out
      rw [List.drop_eq_getElem_cons hlt, ckGo_cons] at hck
      have hge : (wordsL s.toList).getD j (0, []) = (wordsL s.toList)[j] := by simp [hlt]
      rw [hge] at hc0 hc1
      clear hge
      obtain ⟨x, hx⟩ : ∃ x, x = (wordsL s.toList)[j] := ⟨_, rfl⟩
      have hxl := HWE.out x (by rw [hx]; exact List.getElem_mem hlt)
      rw [← hx] at hc0 hc1 hck
      clear hx HC
      have HC := Lib.hid hck; clear hck
      go_wp2_with (fail)
      refine (kind_any _ _ (by rw [S_size]; omega)).mono ?_
      rintro e w2 ⟨rfl, b2⟩
      rw [S_toList]
      have hAl := heap_alloc_new wr (.cells #[.string (S x.2), .int .i64 (x.1 : Int)] 49)
      have hz2' := b2.size
      have hzb := hbw.size
      have hA0 : w2.cell? ⟨wr.heap.size, 0, none⟩ = some (.string (S x.2)) := by rw [b2.cell (by simp)]; simp
      have hA1 : w2.cell? ⟨wr.heap.size, 1, none⟩ = some (.int .i64 (x.1 : Int)) := by rw [b2.cell (by simp)]; simp
      have gb2 := grownBy_below ((Below.refl _ wr).alloc (Nat.le_refl _) (.cells #[.string (S x.2), .int .i64 (x.1 : Int)] 49) |>.trans (b2.mono (by simp))) none
      have hown2 := hown.kept gb2 (.inr (by simp [Value.ownBlock]))
      have hbw2 : Below w.heap.size w w2 := (hbw.alloc hzb _).trans (b2.mono (by simp; omega))
      have HWA2 := Lib.hid (HWA.out.grown hbs gb2 (by simp))
      have hbs2 : b < w2.heap.size := by simp at hz2'; omega
      clear hown HWA hc0 hc1 gb2 hAl
      obtain ⟨A, hA⟩ : ∃ A, A = wr.heap.size := ⟨_, rfl⟩
      rw [← hA] at hA0 hA1
      rw [← hA]
      clear b2 hbw hzb hz2' hbs
      clear hA
      have HS2 := Lib.hid (strs_below hbw2 HS.out)
      rcases kindI_of x.2 with hq | hq | hq | hq | hq
      all_goals rw [hq]
      all_goals have hck := HC.out
      all_goals simp only [hq] at hck
      all_goals clear HC
      · have HC := Lib.hid hck; clear hck
        go_wp2
        go_quiet (fail)
        go_wp2
        go_ret2
        exact ⟨ret_pair (by rw [← HC.out]; simp <;> (intros; omega)), below_drewN hbw2 _⟩
      · have HC := Lib.hid hck; clear hck
        cases k with
        | nil =>
          simp only [List.length_nil] at hown2 ⊢
          go_wp2
          go_quiet (fail)
          go_wp2
          go_ret2
          exact ⟨ret_pair (by rw [← HC.out]; simp <;> (intros; omega)), below_drewN hbw2 _⟩
        | cons a0 k =>
          simp only [List.length_cons] at hown2 hkl ⊢
          have hwk : IntKind.i64.wrap (k.length : Int) = (k.length : Int) := by rw [IntKind.wrap_i64]; omega
          have h0B : ((k.length : Int) + 1 == 0) = false := by simp; omega
          by_cases hd : 16 < k.length
          · have hdB : decide ((16 : Int) < (k.length : Int)) = true := by simp; omega
            go_wp2
            go_quiet (fail)
            go_wp2
            go_ret2
            exact ⟨ret_pair (by rw [← HC.out]; simp[hd] <;> (intros; omega)), below_drewN hbw2 _⟩
          · have hdB : decide ((16 : Int) < (k.length : Int)) = false := by simp; omega
            go_wp2_with (fail)
            refine (close_any g cp w.heap.size (a0 :: k) _ hown2 HKB.out).mono ?_
            rintro e w3 ⟨rfl, hown3, hg3⟩
            have hbw3 : Below w.heap.size w w3 := hbw2.grown hg3 (by have := hbw2.size; omega) (fun i hi => by have := (hown2.lt i hi).1; omega)
            have HWA3 := Lib.hid (HWA2.out.grown hbs2 hg3 (by simpa using fun h => hgb1 h.symm))
            have hz3 := hg3.size
            go_wp2
            go_roundw
            case rel =>
              refine ⟨j + 1, closeL (a0 :: k), g, cp, rfl, rfl, by omega, hown3, fun _ => ⟨hgb1, by omega⟩, HWA3.out, hbw3, ?_, closeL_bd HKB.out, ?_⟩
              · rw [← HC.out]; simp [hd] <;> (intros; omega)
              · have := closeL_len (a0 :: k); simp at this; omega
            case measure => simp [intOf]; omega
      · have HC := Lib.hid hck; clear hck
        cases hc : hasB names x.2 with
        | false =>
          go_wp2_with (go_at_call 28; refine (contains_strs _ _ _ names _ _ hn HS2.out).mono ?_; rintro e w' ⟨rfl, rfl⟩; rw [S_toList, hc])
          go_quiet (fail)
          go_wp2
          go_ret2
          exact ⟨ret_pair (by rw [← HC.out]; simp[hc] <;> (intros; omega)), below_drewN hbw2 _⟩
        | true =>
          cases k with
          | nil =>
            simp only [List.length_nil] at hown2 ⊢
            go_wp2_with (go_at_call 28; refine (contains_strs _ _ _ names _ _ hn HS2.out).mono ?_; rintro e w' ⟨rfl, rfl⟩; rw [S_toList, hc])
            go_quiet (fail)
            go_wp2
            go_ret2
            exact ⟨ret_pair (by rw [← HC.out]; simp[hc] <;> (intros; omega)), below_drewN hbw2 _⟩
          | cons a0 k =>
            simp only [List.length_cons] at hown2 hkl ⊢
            have hwk : IntKind.i64.wrap (k.length : Int) = (k.length : Int) := by rw [IntKind.wrap_i64]; omega
            have h0B : ((k.length : Int) + 1 == 0) = false := by simp; omega
            by_cases hd : 16 < k.length
            · have hdB : decide ((16 : Int) < (k.length : Int)) = true := by simp; omega
              go_wp2_with (go_at_call 28; refine (contains_strs _ _ _ names _ _ hn HS2.out).mono ?_; rintro e w' ⟨rfl, rfl⟩; rw [S_toList, hc])
              go_quiet (fail)
              go_wp2
              go_ret2
              exact ⟨ret_pair (by rw [← HC.out]; simp[hd, hc] <;> (intros; omega)), below_drewN hbw2 _⟩
            · have hdB : decide ((16 : Int) < (k.length : Int)) = false := by simp; omega
              go_wp2_with (go_at_call 28; refine (contains_strs _ _ _ names _ _ hn HS2.out).mono ?_; rintro e w' ⟨rfl, rfl⟩; rw [S_toList, hc])
              refine (close_any g cp w.heap.size (a0 :: k) _ hown2 HKB.out).mono ?_
              rintro e w3 ⟨rfl, hown3, hg3⟩
              have hbw3 : Below w.heap.size w w3 := hbw2.grown hg3 (by have := hbw2.size; omega) (fun i hi => by have := (hown2.lt i hi).1; omega)
              have HWA3 := Lib.hid (HWA2.out.grown hbs2 hg3 (by simpa using fun h => hgb1 h.symm))
              have hz3 := hg3.size
              go_wp2
              go_roundw
              case rel =>
                refine ⟨j + 1, closeL (a0 :: k), g, cp, rfl, rfl, by omega, hown3, fun _ => ⟨hgb1, by omega⟩, HWA3.out, hbw3, ?_, closeL_bd HKB.out, ?_⟩
                · rw [← HC.out]; simp [hd, hc] <;> (intros; omega)
                · have := closeL_len (a0 :: k); simp at this; omega
              case measure => simp [intOf]; omega
      · have HC := Lib.hid hck; clear hck
        cases k with
        | nil =>
          simp only [List.length_nil] at hown2 ⊢
          go_wp2
          go_quiet (fail)
          go_wp2
          go_ret2
          exact ⟨ret_pair (by rw [← HC.out]; simp <;> (intros; omega)), below_drewN hbw2 _⟩
        | cons a0 k =>
          simp only [List.length_cons] at hown2 hkl ⊢
          have hwk : IntKind.i64.wrap (k.length : Int) = (k.length : Int) := by rw [IntKind.wrap_i64]; omega
          have h0B : ((k.length : Int) + 1 == 0) = false := by simp; omega
          by_cases hd : 16 < k.length
          · have hdB : decide ((16 : Int) < (k.length : Int)) = true := by simp; omega
            go_wp2
            go_quiet (fail)
            go_wp2
            go_ret2
            exact ⟨ret_pair (by rw [← HC.out]; simp[hd] <;> (intros; omega)), below_drewN hbw2 _⟩
          · have hdB : decide ((16 : Int) < (k.length : Int)) = false := by simp; omega
            go_wp2_with (at_builtin; refine wpList_append_lies _ rfl _ _ _ rfl w.heap.size 3 i0 _ 1 8 (by kernel_rfl) hi0 hz0 hz1 hz2 rfl (by omega) (.slice (some ⟨g, 0, none⟩) (k.length + 1) cp) (k.length + 1) (icells (a0 :: k)) rfl (hown2.alloc _) ⟨w2.heap.size, 0, none⟩ 1 1 [.int .i64 1] rfl rfl (World.news_of_block (cs := #[.int .i64 1]) (t := 3) (fr := (0, 0)) (heap_alloc_new w2 _)) (by simp [Value.oneCell']) (by omega) (by unfold maxLen; omega) (by omega) (by have := hbw2.size; simp; omega) (w2.heap.size + 1) (by simp) ?_; intro gg cap' w3 hown3 hgrow hat hlt3)
            have hbw3 : Below w.heap.size w w3 := (hbw2.alloc hbw2.size _).grown hgrow (by have := hbw2.size; simp; omega) (fun i hi => (hown2.lt i hi).1)
            have hgg : gg ≠ b := by
              rcases hat with h | h
              · simp [Value.ownBlock] at h; omega
              · omega
            have hz3 := hgrow.size
            simp only [World.size_alloc] at hz3
            have HWA3 := Lib.hid ((HWA2.out.grown hbs2 (grownBy_below ((Below.refl _ w2).alloc (Nat.le_refl _) _) none) (by simp)).grown (by simp; omega) hgrow (by simpa [Value.ownBlock] using fun h => hgb1 h.symm))
            rw [← icells_cons] at hown3
            go_roundw
            case rel =>
              refine ⟨j + 1, 1 :: a0 :: k, gg, cap', rfl, rfl, by omega, hown3, fun _ => ⟨hgg, by omega⟩, HWA3.out, hbw3, ?_, ?_, ?_⟩
              · rw [← HC.out]; simp [hd] <;> (intros; omega)
              · intro c hc
                rcases List.mem_cons.1 hc with rfl | hc
                · omega
                · exact HKB.out c hc
              · simp; omega
            case measure => simp [intOf]; omega
      · have HC := Lib.hid hck; clear hck
        cases k with
        | nil =>
          simp only [List.length_nil] at hown2 ⊢
          go_wp2
          go_quiet (fail)
          go_wp2
          go_ret2
          exact ⟨ret_pair (by rw [← HC.out]; simp <;> (intros; omega)), below_drewN hbw2 _⟩
        | cons a0 k =>
          simp only [List.length_cons] at hown2 hkl ⊢
          have hwk : IntKind.i64.wrap (k.length : Int) = (k.length : Int) := by rw [IntKind.wrap_i64]; omega
          have h0B : ((k.length : Int) + 1 == 0) = false := by simp; omega
          by_cases hd : 16 < k.length
          · have hdB : decide ((16 : Int) < (k.length : Int)) = true := by simp; omega
            go_wp2
            go_quiet (fail)
            go_wp2
            go_ret2
            exact ⟨ret_pair (by rw [← HC.out]; simp[hd] <;> (intros; omega)), below_drewN hbw2 _⟩
          · have hdB : decide ((16 : Int) < (k.length : Int)) = false := by simp; omega
            go_wp2_with (at_builtin; refine wpList_append_lies _ rfl _ _ _ rfl w.heap.size 3 i0 _ 1 8 (by kernel_rfl) hi0 hz0 hz1 hz2 rfl (by omega) (.slice (some ⟨g, 0, none⟩) (k.length + 1) cp) (k.length + 1) (icells (a0 :: k)) rfl (hown2.alloc _) ⟨w2.heap.size, 0, none⟩ 1 1 [.int .i64 2] rfl rfl (World.news_of_block (cs := #[.int .i64 2]) (t := 3) (fr := (0, 0)) (heap_alloc_new w2 _)) (by simp [Value.oneCell']) (by omega) (by unfold maxLen; omega) (by omega) (by have := hbw2.size; simp; omega) (w2.heap.size + 1) (by simp) ?_; intro gg cap' w3 hown3 hgrow hat hlt3)
            have hbw3 : Below w.heap.size w w3 := (hbw2.alloc hbw2.size _).grown hgrow (by have := hbw2.size; simp; omega) (fun i hi => (hown2.lt i hi).1)
            have hgg : gg ≠ b := by
              rcases hat with h | h
              · simp [Value.ownBlock] at h; omega
              · omega
            have hz3 := hgrow.size
            simp only [World.size_alloc] at hz3
            have HWA3 := Lib.hid ((HWA2.out.grown hbs2 (grownBy_below ((Below.refl _ w2).alloc (Nat.le_refl _) _) none) (by simp)).grown (by simp; omega) hgrow (by simpa [Value.ownBlock] using fun h => hgb1 h.symm))
            rw [← icells_cons] at hown3
            go_roundw
            case rel =>
              refine ⟨j + 1, 2 :: a0 :: k, gg, cap', rfl, rfl, by omega, hown3, fun _ => ⟨hgg, by omega⟩, HWA3.out, hbw3, ?_, ?_, ?_⟩
              · rw [← HC.out]; simp [hd] <;> (intros; omega)
              · intro c hc
                rcases List.mem_cons.1 hc with rfl | hc
                · omega
                · exact HKB.out c hc
              · simp; omega
            case measure => simp [intOf]; omega
    · obtain rfl : j = (wordsL s.toList).length := by omega
      have hck := HC.out
      rw [List.drop_length] at hck
      clear HC hlt
      have HC := Lib.hid hck; clear hck
      cases k with
      | nil =>
        simp only [List.length_nil] at hown ⊢
        go_wp2
        go_ret2
        exact ⟨ret_pair HC.out, hbw⟩
      | cons a0 k =>
        simp only [List.length_cons] at hown hkl ⊢
        have hkp : decide ((0 : Int) < ((k.length + 1 : Nat) : Int)) = true := by simp
        go_wp2
        go_ret2
        exact ⟨ret_pair (by rw [← HC.out]; simp [ckGo]), hbw⟩

end Go.Proofs.YtkmncmceheggjaaDoor
