/- Chapter 12: Eval. -/
import Derived.Test.YtkmncmceheggjaaDoorGh
import Derived.Test.YtkmncmceheggjaaDoorGi
import Derived.Test.YtkmncmceheggjaaDoorGt
import Derived.Test.YtkmncmceheggjaaDoorSh
import Derived.Test.YtkmncmceheggjaaDoorGk
import Derived.Maps.AppendAt
import Derived.Lib.SmallJoins
namespace Go.Proofs.YtkmncmceheggjaaDoor
open Go.RowKit Go.Shelf
set_option linter.unusedVariables false
set_option linter.unusedSimpArgs false
attribute [local go_sem] Oper.semAt_some

def Ints (w : World) (a : Option Addr) (n : Nat) (l : List Int) : Prop := n = l.length ∧ (n = 0 ∨ ∃ b o, a = some ⟨b, o, none⟩ ∧ b < w.heap.size ∧ ∀ j, j < l.length → w.cell? ⟨b, o + j, none⟩ = some (.int .i64 (l.getD j 0)))
theorem Ints.below {w w' : World} {a : Option Addr} {n : Nat} {l : List Int} (h : Ints w a n l) (hb : Below w.heap.size w w') : Ints w' a n l := by
  obtain ⟨hn, h0 | ⟨b, o, ha, hlt, hs⟩⟩ := h
  · exact ⟨hn, .inl h0⟩
  · exact ⟨hn, .inr ⟨b, o, ha, Nat.lt_of_lt_of_le hlt hb.size, fun j hj => (hb.cell (p := ⟨b, _, none⟩) hlt).trans (hs j hj)⟩⟩

theorem atoi_any (s : List UInt8) (h : digB s = true) (w : World) :
    Calls Tryd.prog 24 #[.string (S s)] w fun e w' => e = .returned (.tuple #[.int .i64 (numI s), .nilIface]) ∧ Below w.heap.size w w' := by
  obtain ⟨h1, h2, _⟩ := atoi_num h
  refine (Tryd.strconv_Atoi (S s) (numI s) (by rw [S_size]; omega) (by simpa [S] using h1) w).mono ?_
  rintro e w' ⟨rfl, t, rfl⟩
  exact ⟨rfl, Joins.below_bytesWorld _ _ _ _ (Nat.le_refl _)⟩

theorem row_ne {W : World} {j : Nat} {cs : Array Value} {t e : TypeId} {fr : Nat × Nat} (h : W.heap[j]? = some (.cells cs t fr)) (hte : t ≠ e) {base size k : Nat} {v : Value} {xs : List Value} (hr : W.ownsRow base e size v k xs) : some j ≠ v.ownBlock := fun he => by
  rcases hr.2 with ⟨rfl, _⟩ | ⟨g, cap, cur, rfl, _, hh, _⟩
  · simp [Value.ownBlock] at he
  · have : j = g := by simpa [Value.ownBlock] using he
    subst this
    rw [hh] at h
    cases h
    exact hte rfl
theorem held_set {W : World} {Bst : Nat} {u a b c d : Value} {p q r s : Addr} (hp : p.block ≠ Bst) (hq : q.block ≠ Bst) (hr : r.block ≠ Bst) (hs : s.block ≠ Bst)
    (h : W.cell? p = some a ∧ W.cell? q = some b ∧ W.cell? r = some c ∧ W.cell? s = some d) :
    (W.setCell ⟨Bst, 0, none⟩ u).cell? p = some a ∧ (W.setCell ⟨Bst, 0, none⟩ u).cell? q = some b ∧ (W.setCell ⟨Bst, 0, none⟩ u).cell? r = some c ∧ (W.setCell ⟨Bst, 0, none⟩ u).cell? s = some d :=
  ⟨(World.cell?_of_block (Below.heap_setCell W _ u _ hp)).trans h.1, (World.cell?_of_block (Below.heap_setCell W _ u _ hq)).trans h.2.1, (World.cell?_of_block (Below.heap_setCell W _ u _ hr)).trans h.2.2.1, (World.cell?_of_block (Below.heap_setCell W _ u _ hs)).trans h.2.2.2⟩
theorem kind_dig {s : List UInt8} (h : kindI s = 1) : digB s = true := by
  unfold kindI at h
  repeat' split at h
  all_goals first | assumption | (exfalso; omega)
theorem own_none {w w' : World} {base : Nat} {e : TypeId} {size n m c : Nat} {a : Option Addr} {xs : List Value} (h : w.ownsRow base e size (.slice a m c) n xs) (hg : w.grownBy w' none) : w'.ownsRow base e size (.slice a m c) n xs :=
  h.kept hg (by cases a; exact .inl rfl; exact .inr (by simp [Value.ownBlock]))

set_option maxRecDepth 100000 in
set_option maxHeartbeats 4000000 in
theorem eval_any (s : ByteArray) (an : Option Addr) (nn capn : Nat) (names : List ByteArray) (av : Option Addr) (nv capv : Nat) (vals : List Int) (w : World) (hnn : nn ≤ 9223372036854775807) (hnv : nv ≤ 9223372036854775807) (hS : Strs w an nn names) (hV : Ints w av nv vals) :
    Calls Tryd.prog 11 #[.string s, .slice an nn capn, .slice av nv capv] w fun e w' => e = .returned (.tuple #[.int .i64 (evalP names vals s.toList).1, .int .i64 (evalP names vals s.toList).2]) ∧ Below w.heap.size w w' := by
  have HS := Lib.hid hS; clear hS
  have HV := Lib.hid hV; clear hV
  obtain ⟨i0, hi0, hj0, hj1, hj2⟩ := info_parts infoI
  have b0 : Below w.heap.size w ((w.alloc (.cells #[.slice an nn capn] 23)).alloc (.cells #[.slice av nv capv] 22)) := ((Below.refl _ _).alloc (Nat.le_refl _) _).alloc (by simp) _
  have HSb := Lib.hid (strs_below b0 HS.out)
  refine (callsIn_wide (n := 3)).1 ?_
  refine callsIn_of_wp_marks Tryd.func11 rfl trivial ?_ rfl
  simp only [Tryd.ntmps11, List.size_toArray, List.length_cons, List.length_nil, Nat.reduceAdd, Nat.reduceSub, Array.replicate_succ, Array.replicate_zero, List.push_toArray, List.append_toArray, List.nil_append, List.cons_append]
  have hl1 : nn = names.length := HS.out.1
  have hl2 : nv = vals.length := HV.out.1
  subst hl1 hl2
  by_cases hc : (checkP names s.toList).1 = 0
  · by_cases hv : vals.length < names.length
    · have e : evalP names vals s.toList = (0, 1) := by unfold evalP; rw [if_neg (by simpa using hc), if_pos hv]
      rw [e]
      clear e
      have HC := Lib.hid hc; clear hc
      gi_wp2_with (fail)
      refine ⟨trivial, ?_⟩
      gi_at_call 13
      refine (callsIn_wide.2 (check_any s an names.length capn names _ hnn HSb.out)).mono ?_
      rintro e w1 ⟨rfl, b1⟩
      have c0 : w1.cell? ⟨w.heap.size, 0, none⟩ = some (.slice an names.length capn) := by rw [b1.cell (by simp; omega)]; simp
      have c1 : w1.cell? ⟨w.heap.size + 1, 0, none⟩ = some (.slice av vals.length capv) := by rw [b1.cell (by simp)]; simp
      rw [HC.out]
      gi_wp2
      refine ⟨_, results_tmp2 rfl _ _ _, rfl, b0.trans (b1.mono (by simp; omega))⟩
    · have e : evalP names vals s.toList = ((evS names vals (wordsL s.toList)).headD 0, 0) := by unfold evalP; rw [if_neg (by simpa using hc), if_neg hv]
      rw [e]
      clear e
      have hcs : s.size ≤ 120 := by
        have h1 := hc
        unfold checkP at h1
        split at h1
        · cases h1
        · rw [bytes_len] at *; omega
      have hck := check_words hc vals
      have HK := Lib.hid hck; clear hck
      have HC := Lib.hid hc; clear hc
      have hvB : decide ((vals.length : Int) < (names.length : Int)) = false := by simp; omega
      gi_wp2_with (fail)
      refine ⟨trivial, ?_⟩
      gi_at_call 13
      refine (callsIn_wide.2 (check_any s an names.length capn names _ hnn HSb.out)).mono ?_
      rintro e w1 ⟨rfl, b1⟩
      have hs1 := b1.size
      simp at hs1
      have c0 : w1.cell? ⟨w.heap.size, 0, none⟩ = some (.slice an names.length capn) := by rw [b1.cell (by simp; omega)]; simp
      have c1 : w1.cell? ⟨w.heap.size + 1, 0, none⟩ = some (.slice av vals.length capv) := by rw [b1.cell (by simp)]; simp
      have b2 : Below w.heap.size w w1 := b0.trans (b1.mono (by simp; omega))
      clear b1 b0 HSb
      rw [HC.out]
      gi_wp2_with (fail)
      refine ⟨trivial, ?_⟩
      gi_at_call 22
      refine (callsIn_wide.2 (words_any s _ (by omega))).mono ?_
      rintro e w2 ⟨wv, rfl, hwv, b3⟩
      have hs2 := b3.size
      simp at hs2
      have hst : w2.heap[w1.heap.size]? = some (.cells #[.slice none 0 0] 22) := by rw [b3.block _ (by simp)]; exact heap_alloc_new w1 _
      have c02 : w2.cell? ⟨w.heap.size, 0, none⟩ = some (.slice an names.length capn) := by rw [b3.cell (by simp; omega), ← c0]; exact (((Below.refl w1.heap.size w1).alloc (Nat.le_refl _) _).cell (p := ⟨w.heap.size, 0, none⟩) (by show w.heap.size < _; omega))
      have c12 : w2.cell? ⟨w.heap.size + 1, 0, none⟩ = some (.slice av vals.length capv) := by rw [b3.cell (by simp; omega), ← c1]; exact (((Below.refl w1.heap.size w1).alloc (Nat.le_refl _) _).cell (p := ⟨w.heap.size + 1, 0, none⟩) (by show w.heap.size + 1 < _; omega))
      have b4 : Below w.heap.size w w2 := (b2.alloc b2.size _).trans (b3.mono (by simp; omega))
      obtain ⟨b, aw, cw, rfl, hb0, hb1⟩ : ∃ b aw cw, wv = .slice aw (wordsL s.toList).length cw ∧ (0 < (wordsL s.toList).length → aw = some ⟨b, 0, none⟩ ∧ w1.heap.size < b) ∧ b < w2.heap.size ∧ WordsAt w2 b (wordsL s.toList) := by
        rcases Nat.eq_zero_or_pos (wordsL s.toList).length with h0 | h0
        · rw [h0] at hwv ⊢
          rcases hwv.2 with ⟨rfl, _⟩ | ⟨g, cap, cur, rfl, _⟩
          · exact ⟨0, _, _, rfl, fun h => absurd h (by omega), by omega, fun j hj => absurd hj (by omega)⟩
          · exact ⟨0, _, _, rfl, fun h => absurd h (by omega), by omega, fun j hj => absurd hj (by omega)⟩
        · obtain ⟨b, c, rfl, h1, h2, h3⟩ := words_lie hwv h0
          simp at h1
          exact ⟨b, _, _, rfl, fun _ => ⟨rfl, by omega⟩, h2, h3⟩
      obtain ⟨hbs, hwa⟩ := hb1
      have HB0 := Lib.hid hb0; clear hb0
      have HWA := Lib.hid hwa; clear hwa hwv b3 b2 c0 c1
      obtain ⟨Bst, hBst⟩ : ∃ Bst, Bst = w1.heap.size := ⟨_, rfl⟩
      rw [← hBst] at hst HB0 hs1 hs2
      rw [← hBst]
      clear hBst w1
      gi_wp2_with (fail)
      refine ⟨trivial, (back_in _ _ _ _ _).mono ?_⟩
      rintro e w3 ⟨rfl, t, rfl⟩
      gi_wp2
      obtain ⟨W3, hW3⟩ : ∃ W3, W3 = w2.alloc (.cells #[.slice aw (wordsL s.toList).length cw] t) := ⟨_, rfl⟩
      have a3 : Below w2.heap.size w2 W3 := by rw [hW3]; exact (Below.refl _ _).alloc (Nat.le_refl _) _
      have hz3 : W3.heap.size = w2.heap.size + 1 := by rw [hW3]; simp
      have hBs : W3.cell? ⟨w2.heap.size, 0, none⟩ = some (.slice aw (wordsL s.toList).length cw) := by rw [hW3]; simp
      have hst3 : Boxed W3 Bst 22 (.slice none 0 0) := (a3.block _ (by omega)).trans hst
      have c03 := (a3.cell (p := ⟨w.heap.size, 0, none⟩) (by show w.heap.size < _; omega)).trans c02
      have c13 := (a3.cell (p := ⟨w.heap.size + 1, 0, none⟩) (by show w.heap.size + 1 < _; omega)).trans c12
      have b5 : Below w.heap.size w W3 := b4.trans (a3.mono (by omega))
      have HWA3 := Lib.hid (HWA.out.grown hbs (grownBy_below a3 none) (by simp))
      rw [← hW3]
      clear hW3 c02 c12 b4 HWA hst
      obtain ⟨Bs, hBse⟩ : ∃ Bs, Bs = w2.heap.size := ⟨_, rfl⟩
      rw [← hBse] at hbs hs2 hz3 hBs
      rw [← hBse]
      clear a3 hBse
      have hwl := words_len s.toList
      rw [bytes_len] at hwl
      have evO := evI_own names vals (wordsL s.toList) w W3.heap.size Bst (.slice an names.length capn) (.slice av vals.length capv) 22 (by omega)
      refine wpIn_rangeFunc_N rfl (by omega) (gf := 39) (lb := #[.pointer (some ⟨Bs, 0, none⟩)]) rfl trivial (enters_of Tryd.func39 (by kernel_rfl) rfl)
        (back_seq 2 (by omega) Bs aw cw b (wordsL s.toList) (by omega) W3 hBs (by omega) (fun h => ⟨(HB0.out h).1, by omega⟩) HWA3.out) (Below.refl _ _) Kept.trans (fun W o o' _ _ => Kept.put (by simp; omega)) (fun _ => rfl)
        (EvI names vals (wordsL s.toList) w W3.heap.size Bst (.slice an names.length capn) (.slice av vals.length capv) 22)
        (fun k a' W => ∃ Bx, W.heap[Bx]? = some (.cells #[.string (S (wdAt (wordsL s.toList) k).2), .int .i64 ((wdAt (wordsL s.toList) k).1 : Int)] 49 (0, 0)) ∧ W3.heap.size ≤ Bx ∧ a' = { tmps := #[.string s, .slice an names.length capn, .slice av vals.length capv, undef, .pointer (some ⟨w.heap.size, 0, none⟩), .pointer (some ⟨w.heap.size + 1, 0, none⟩), .int .i64 0, .int .i64 0, .int .i64 0, .int .i64 (checkP names s.toList).2, .pointer (some ⟨Bst, 0, none⟩), undef, .pointer (some ⟨Bx, 0, none⟩), undef, undef, undef, .tuple #[.int .i64 0, .int .i64 (checkP names s.toList).2], .string s, .slice an names.length capn, .tuple #[.int .i64 0, .int .i64 (checkP names s.toList).2], .int .i64 0, .int .i64 (checkP names s.toList).2, .int .i64 0, .bool false, undef, .slice av vals.length capv, .int .i64 (vals.length : Int), .slice an names.length capn, .int .i64 (names.length : Int), .bool false, .string s, .slice aw (wordsL s.toList).length cw, .func (.func 39) #[] #[.pointer (some ⟨Bs, 0, none⟩)], .int .i64 (((wordsL s.toList).length - 1 - k : Nat) : Int), .agg #[.string (S (wdAt (wordsL s.toList) k).2), .int .i64 ((wdAt (wordsL s.toList) k).1 : Int)], undef, undef, undef, undef, undef, undef, undef, undef, undef, undef, undef, undef, undef, undef, undef, undef, undef, undef, undef, undef, undef, undef, undef, undef, undef, undef, undef, undef, undef, undef, undef, undef, undef, undef, undef, undef, undef, undef, undef, undef, undef, undef, undef, undef, undef, undef, undef, undef, undef, undef, undef, undef, undef, undef, undef, undef, undef, undef, undef, undef, undef, undef, undef, undef, undef, undef], defers := [] } ∧ (EvI names vals (wordsL s.toList) w W3.heap.size Bst (.slice an names.length capn) (.slice av vals.length capv) 22) k W)
        evO (fun k a' s' A B' row hs hg hr => ?_) ⟨⟨_, hst3, ?_, trivial⟩, ⟨c03, c13⟩, b5, Nat.le_refl _⟩ ?assign ?body ?done
      · obtain ⟨Bx, h1, h2, h3, h4⟩ := hs
        refine ⟨Bx, (hg.block Bx (Array.getElem?_eq_some_iff.1 h1).1 (fun e => ?_)).trans h1, h2, h3, evO k A B' row h4 hg hr⟩
        obtain ⟨o, ho, hc⟩ := (hr Bx e.symm).2
        rw [h1] at ho
        cases ho
        cases hc
      · rw [show (wordsL s.toList).length - 0 = (wordsL s.toList).length from rfl, List.drop_length]
        exact World.ownsRow_nil _ _ _ _
      case assign =>
        intro l k W K hI hk hK
        have hBW := hI.2.2.2
        dsimp only [backE]
        gi_wp2
        refine hK _ _ ((KeepsOthers.alloc _ _).from _) (Kept.grown (grownBy_below ((Below.refl _ W).alloc (Nat.le_refl _) _) none) (by simp; omega)) ⟨W.heap.size, heap_alloc_new _ _, hBW, rfl, evO.alloc _ hI⟩
      case body =>
        rintro l k a' W ⟨Bx, hx, hBx, rfl, hI⟩ hk
        obtain ⟨⟨v, hv, hr, _⟩, ⟨c0, c1⟩, hbw, hB⟩ := hI
        have HI := Lib.hid (show (EvI names vals (wordsL s.toList) w W3.heap.size Bst (.slice an names.length capn) (.slice av vals.length capv) 22) k W from ⟨⟨v, hv, hr, trivial⟩, ⟨c0, c1⟩, hbw, hB⟩)
        have hdr : (wordsL s.toList).drop ((wordsL s.toList).length - (k + 1)) = wdAt (wordsL s.toList) k :: (wordsL s.toList).drop ((wordsL s.toList).length - k) := by
          rw [List.drop_eq_getElem_cons (by omega), show (wordsL s.toList).length - (k + 1) + 1 = (wordsL s.toList).length - k by omega]
          unfold wdAt
          rw [show (wordsL s.toList).length - 1 - k = (wordsL s.toList).length - (k + 1) by omega]
          simp [show (wordsL s.toList).length - (k + 1) < (wordsL s.toList).length by omega]
        have hok := okS_drop ((wordsL s.toList).length - (k + 1)) HK.out.1
        rw [hdr] at hok
        have hne : evS names vals ((wordsL s.toList).drop ((wordsL s.toList).length - (k + 1))) = evS names vals (wdAt (wordsL s.toList) k :: (wordsL s.toList).drop ((wordsL s.toList).length - k)) := by rw [hdr]
        simp only [evS] at hne
        have hxl : (wdAt (wordsL s.toList) k).2.length ≤ 120 := by
          have := words_each s.toList (wdAt (wordsL s.toList) k) (by unfold wdAt; simp [show (wordsL s.toList).length - 1 - k < (wordsL s.toList).length by omega])
          rw [bytes_len] at this
          omega
        have hstl := evS_len names vals ((wordsL s.toList).drop ((wordsL s.toList).length - k))
        rw [List.length_drop] at hstl
        obtain ⟨x, hxe⟩ : ∃ x, x = wdAt (wordsL s.toList) k := ⟨_, rfl⟩
        obtain ⟨st, hst⟩ : ∃ st, st = evS names vals ((wordsL s.toList).drop ((wordsL s.toList).length - k)) := ⟨_, rfl⟩
        simp only [okS] at hok
        rw [← hxe] at hx hok hne hxl
        rw [← hst] at hok hne hr hstl
        rw [← hxe]
        obtain ⟨_, hq0, hq2, hq3, hq4⟩ := hok
        have HQ := Lib.hid (And.intro hq2 (And.intro hq3 hq4))
        have HN := Lib.hid hne
        clear hne hdr hst hxe hq2 hq3 hq4
        obtain ⟨va, vc, rfl⟩ : ∃ va vc, v = .slice va st.length vc := by
          rcases hr.2 with ⟨rfl, h0⟩ | ⟨g, cap, cur, rfl, _⟩
          · rw [h0]; exact ⟨_, _, rfl⟩
          · exact ⟨_, _, rfl⟩
        have hvc := hv.cell
        have hx0 : W.cell? ⟨Bx, 0, none⟩ = some (.string (S x.2)) := by simp [World.cell?, hx]
        have hx1 : W.cell? ⟨Bx, 1, none⟩ = some (.int .i64 (x.1 : Int)) := by simp [World.cell?, hx]
        gi_wp2_with (fail)
        refine ⟨trivial, ?_⟩
        gi_at_call 23
        refine (CallsIn.inRound l (callsIn_wide.2 (kind_any (S x.2) _ (by rw [S_size]; omega)))).mono ?_
        rintro e w4 ⟨rfl, b4⟩
        rw [S_toList]
        have hxlt := (Array.getElem?_eq_some_iff.1 hx).1
        have t4 : Turned W3.heap.size Bst W w4 := (Turned.refl _ _ _).below b4
        have hv4 : Boxed w4 Bst 22 (.slice va st.length vc) := hv.kept (grownBy_below b4 none) (by simp)
        have hr4 := own_none hr (grownBy_below b4 none)
        have hvc4 := hv4.cell
        have hvf4 := hv4.frozen
        have hx04 := (b4.cell (p := ⟨Bx, 0, none⟩) hxlt).trans hx0
        have hx14 := (b4.cell (p := ⟨Bx, 1, none⟩) hxlt).trans hx1
        have hwlt := hbw.size
        have c04 := (b4.cell (p := ⟨w.heap.size, 0, none⟩) (by show w.heap.size < _; omega)).trans c0
        have c14 := (b4.cell (p := ⟨w.heap.size + 1, 0, none⟩) (by show w.heap.size + 1 < _; omega)).trans c1
        have hz4 := b4.size
        have hx4 := (b4.block Bx hxlt).trans hx
        clear hx hx0 hx1 hv hr hvc c0 c1
        have hbst : Bst < b := (HB0.out (by omega)).2
        rcases kindI_of x.2 with hq | hq | hq | hq | hq
        · exact absurd hq hq0
        · rw [hq]
          have hnx := HN.out
          rw [if_pos hq] at hnx
          clear HN
          have HN := Lib.hid hnx; clear hnx
          have HD := Lib.hid (kind_dig hq)
          gi_wp2_with (fail)
          refine ⟨trivial, ?_⟩
          gi_at_call 24
          refine (CallsIn.inRound l (callsIn_wide.2 (atoi_any x.2 HD.out _))).mono ?_
          rintro e w5 ⟨rfl, b6⟩
          have t5 := t4.below b6
          have hv5 : Boxed w5 Bst 22 (.slice va st.length vc) := hv4.kept (grownBy_below b6 none) (by simp)
          have hr5 := own_none hr4 (grownBy_below b6 none)
          have hvc5 := hv5.cell
          have hz5 := b6.size
          clear t4 hv4 hr4 hvc4 hvf4 hx04 hx14 c04 c14 b6
          gi_wp2_with (gi_at_builtin; refine wpListIn_append_own _ rfl _ _ 22 rfl W3.heap.size 3 i0 (.int .i64 0) 1 8 (by kernel_rfl) hi0 hj0 hj1 hj2 rfl (by decide) (.slice va st.length vc) st.length (icells st) rfl (hr5.alloc _) ⟨w5.heap.size, 0, none⟩ 1 1 [.int .i64 (numI x.2)] rfl rfl (cell_one_new _ _ _) (by simp [Value.oneCell']) (by unfold maxLen; omega) (by omega) (by simp; omega) ?_; intro v' w6 hown' hgrow hh; (have h8 := ownsRow_succ hown'); (obtain ⟨g', cap', rfl⟩ := h8); (have hne6 := Boxed.not_row (hv5.alloc (.cells #[.int .i64 (numI x.2)] 3)) (by decide) (hr5.alloc (.cells #[.int .i64 (numI x.2)] 3))); (have hv6 := (hv5.alloc (.cells #[.int .i64 (numI x.2)] 3)).kept hgrow hne6); (have hc6 := hv6.cell); (have hf6 := hv6.frozen); clear hh)
          have T := ((t5.alloc (.cells #[.int .i64 (numI x.2)] 3)).grown hgrow (hr5.alloc _)).box (.slice (some ⟨g', 0, none⟩) (st.length + 1) cap')
          have hr6 := ownsRow_setCell_below hown' (a := ⟨Bst, 0, none⟩) (by show Bst < _; omega) (.slice (some ⟨g', 0, none⟩) (st.length + 1) cap')
          exact ⟨T.keeps (by omega), T.kept hB (by simp; omega), evI_next HI.out (by omega) (by omega) T (Boxed.set _ hv6) (by rw [HN.out, icells_cons]; exact hr6)⟩
        · rw [hq]
          have hnx := HN.out
          rw [if_neg (by omega), if_pos hq] at hnx
          clear HN
          have HN := Lib.hid hnx; clear hnx
          have hix0 : 0 ≤ idxI names x.2 := by have := HQ.out.1 hq; simpa [hasB] using this
          have hix1 := (idxI_bd names x.2).2
          have hix2 := fun (wq : World) (hq : Strs wq an names.length names) => index_strs an names.length capn names (S x.2) wq hnn hq
          simp only [S_toList] at hix2
          obtain ⟨ix, hixe⟩ : ∃ ix : Nat, idxI names x.2 = ix := ⟨(idxI names x.2).toNat, by omega⟩
          rw [hixe] at HN hix0 hix1 hix2
          rw [Int.toNat_natCast] at HN
          have hixv : ix < vals.length := by omega
          obtain ⟨_, h0 | ⟨bv, ov, rfl, hbv, hcv⟩⟩ := HV.out
          · omega
          have hcv' := ((hbw.trans (b4.mono hwlt)).cell (p := ⟨bv, ov + ix, none⟩) hbv).trans (hcv ix hixv)
          clear hcv hixe
          obtain ⟨y, hy⟩ : ∃ y, y = vals.getD ix 0 := ⟨_, rfl⟩
          rw [← hy] at HN hcv'
          clear hy
          gi_wp2_with (fail)
          have hr4d : w4.drew.ownsRow W3.heap.size 3 1 (.slice va st.length vc) st.length (icells st) := own_none hr4 ⟨rfl, rfl, rfl, Nat.le_refl _, fun _ _ _ => rfl⟩
          have hv4d : Boxed w4.drew Bst 22 (.slice va st.length vc) := hv4
          have t4d : Turned W3.heap.size Bst W w4.drew := t4.below ⟨rfl, rfl, rfl, Nat.le_refl _, fun _ _ => rfl⟩
          have f1 : w4.drew.cell? ⟨Bst, 0, none⟩ = some (.slice va st.length vc) := hvc4
          have f2 : w4.drew.cell? ⟨w.heap.size, 0, none⟩ = some (.slice an names.length capn) := c04
          have f3 : w4.drew.cell? ⟨w.heap.size + 1, 0, none⟩ = some (.slice (some ⟨bv, ov, none⟩) vals.length capv) := c14
          have f4 : w4.drew.cell? ⟨Bx, 0, none⟩ = some (.string (S x.2)) := hx04
          have f5 : w4.drew.cell? ⟨bv, ov + ix, none⟩ = some (.int .i64 y) := hcv'
          have hix2 := hix2 w4.drew (strs_below (⟨rfl, rfl, rfl, Nat.le_refl _, fun _ _ => rfl⟩ : Below w4.heap.size w4 w4.drew) (strs_below (hbw.trans (b4.mono hwlt)) HS.out))
          have hx4d : w4.drew.heap[Bx]? = some (.cells #[.string (S x.2), .int .i64 (x.1 : Int)] 49 (0, 0)) := hx4
          have hzB : W3.heap.size ≤ w4.drew.heap.size := by show W3.heap.size ≤ w4.heap.size; omega
          have hz3a : Bs < W3.heap.size := by omega
          have hBst : Bst < W3.heap.size := by omega
          have hneS := Boxed.not_row hv4d (by decide) hr4d
          have b8 : Below w4.drew.heap.size w4.drew (w4.drew.alloc (.cells #[.int .i64 y] 3)) := (Below.refl _ _).alloc (Nat.le_refl _) _
          have hBxd : Bx < w4.drew.heap.size := by show Bx < w4.heap.size; omega
          have f1a : (w4.drew.alloc (.cells #[.int .i64 y] 3)).cell? ⟨Bst, 0, none⟩ = some (.slice va st.length vc) := (hv4d.alloc _).cell
          have f2a := (b8.cell (p := ⟨w.heap.size, 0, none⟩) (by show w.heap.size < w4.heap.size; omega)).trans f2
          have f3a := (b8.cell (p := ⟨w.heap.size + 1, 0, none⟩) (by show w.heap.size + 1 < w4.heap.size; omega)).trans f3
          have f4a := (b8.cell (p := ⟨Bx, 0, none⟩) hBxd).trans f4
          have hCw := And.intro f1 (And.intro f2 (And.intro f3 f4))
          have hCa := And.intro f1a (And.intro f2a (And.intro f3a f4a))
          clear hz3 hx4 hv4 hvc4 hvf4 hx04 hx14 c04 c14 b8 hcv'
          refine wpIn_region_T (C := fun W' => W'.cell? ⟨Bst, 0, none⟩ = some (.slice va st.length vc) ∧ W'.cell? ⟨w.heap.size, 0, none⟩ = some (.slice an names.length capn) ∧ W'.cell? ⟨w.heap.size + 1, 0, none⟩ = some (.slice (some ⟨bv, ov, none⟩) vals.length capv) ∧ W'.cell? ⟨Bx, 0, none⟩ = some (.string (S x.2))) (L := [9, 10].contains) (by kernel_rfl) (by kernel_rfl) (fun ⟨_, _, h⟩ => h) ?_
          refine wpAnyT_take (n := 7) (ts := [0, 1, 2, 3, 4]) (ls := [9, 10]) (by kernel_rfl) (i := 0) (v := ?vu0) rfl (by kernel_rfl) (by kernel_rfl) (by kernel_rfl) (by kernel_rfl) (by kernel_rfl) (fun _ _ _ h => h) hCw (Or.inl ⟨by rfl, ?hyu0⟩) ?restu0
          case hyu0 => (rintro W ⟨g1, g2, g3, g4⟩; go_simp; try with_reducible rfl)
          refine wpAnyT_take (n := 7) (ts := [0, 1, 2, 3, 4]) (ls := [9, 10]) (by kernel_rfl) (i := 1) (v := ?vu1) rfl (by kernel_rfl) (by kernel_rfl) (by kernel_rfl) (by kernel_rfl) (by kernel_rfl) (fun _ _ _ h => h) hCw (Or.inl ⟨by rfl, ?hyu1⟩) ?restu1
          case hyu1 => (rintro W ⟨g1, g2, g3, g4⟩; go_simp; try with_reducible rfl)
          refine wpAnyT_take (n := 7) (ts := [0, 1, 2, 3, 4]) (ls := [9, 10]) (by kernel_rfl) (i := 2) (v := ?vu2) rfl (by kernel_rfl) (by kernel_rfl) (by kernel_rfl) (by kernel_rfl) (by kernel_rfl) (fun _ _ _ h => h) hCw (Or.inl ⟨by rfl, ?hyu2⟩) ?restu2
          case hyu2 => (rintro W ⟨g1, g2, g3, g4⟩; go_simp; try with_reducible rfl)
          refine wpAnyT_take (n := 7) (ts := [0, 1, 2, 3, 4]) (ls := [9, 10]) (by kernel_rfl) (i := 3) (v := ?vu3) rfl (by kernel_rfl) (by kernel_rfl) (by kernel_rfl) (by kernel_rfl) (by kernel_rfl) (fun _ _ _ h => h) hCw (Or.inl ⟨by rfl, ?hyu3⟩) ?restu3
          case hyu3 => (rintro W ⟨g1, g2, g3, g4⟩; go_simp; try with_reducible rfl)
          refine wpAnyT_take (n := 7) (ts := [0, 1, 2, 3, 4]) (ls := [9, 10]) (by kernel_rfl) (i := 4) (v := ?vu4) rfl (by kernel_rfl) (by kernel_rfl) (by kernel_rfl) (by kernel_rfl) (by kernel_rfl) (fun _ _ _ h => h) hCw (Or.inl ⟨by rfl, ?hyu4⟩) ?restu4
          case hyu4 => (rintro W ⟨g1, g2, g3, g4⟩; go_simp; try with_reducible rfl)
          refine wpAnyT_only (i := 5) rfl (by kernel_rfl) (by rfl) ?callu
          case callu =>
            go_simp
            refine (hix2).mono ?_
            rintro e w' ⟨rfl, rfl⟩
            refine ⟨hCw, ?_⟩
            refine wpAnyT_only (i := 6) rfl (by kernel_rfl) (by rfl) ?_
            go_simp
            first | refine ⟨hCw, ?_⟩ | skip
            refine wpAnyT_only (i := 7) rfl (by kernel_rfl) (by rfl) ?_
            go_simp
            first | refine ⟨hCw, ?_⟩ | skip
            refine wpAnyT_only (i := 8) rfl (by kernel_rfl) (by rfl) ?_
            go_simp
            first | refine ⟨hCa, ?_⟩ | skip
            refine wpAnyT_only (i := 9) rfl (by kernel_rfl) (by rfl) ?_
            refine wp_append_lies _ _ _ _ (by rfl) W3.heap.size 3 i0 _ 1 8 (by kernel_rfl) hi0 hj0 hj1 hj2 rfl (by omega) (.slice va st.length vc) st.length (icells st) (by rfl) (hr4d.alloc _) ⟨w4.heap.size, 0, none⟩ 1 1 [.int .i64 y] (by rfl) (by rfl) (World.news_of_block (cs := #[.int .i64 y]) (t := 3) (fr := (0, 0)) (heap_alloc_new w4 _)) (by simp [Value.oneCell']) (by omega) (by unfold maxLen; omega) (by omega) (by simp; omega) (w4.heap.size + 1) (by simp) ?_
            intro gg cap' w6 hown6 hgrow hat hlt6
            have hv6 := (hv4d.alloc (.cells #[.int .i64 y] 3)).kept hgrow hneS
            have hc6 := hv6.cell
            have hf6 := hv6.frozen
            refine ⟨fun h => (by simp at h), ?_⟩
            refine wpAnyT_only (i := 10) rfl (by kernel_rfl) (by rfl) ?_
            go_simp
            refine wpAnyT_done (by kernel_rfl) ?_ _
            have T := ((t4d.alloc (.cells #[.int .i64 y] 3)).grown hgrow (hr4d.alloc _)).box (.slice (some ⟨gg, 0, none⟩) (st.length + 1) cap')
            have hr6 := ownsRow_setCell_below hown6 (a := ⟨Bst, 0, none⟩) (by show Bst < _; omega) (.slice (some ⟨gg, 0, none⟩) (st.length + 1) cap')
            exact ⟨T.keeps (by omega), T.kept hB (by simp; omega), evI_next HI.out (by omega) (by omega) T (Boxed.set _ hv6) (by rw [HN.out, icells_cons]; exact hr6)⟩
        · rw [hq]
          have hnx := HN.out
          rw [if_neg (by omega), if_neg (by omega), if_pos hq] at hnx
          clear HN
          have HN := Lib.hid hnx; clear hnx
          have h1l := HQ.out.2.1 hq
          obtain ⟨y, rest, rfl⟩ : ∃ y rest, st = y :: rest := by
            cases st with
            | nil => simp at h1l
            | cons y rest => exact ⟨y, rest, rfl⟩
          rcases hr4.2 with ⟨_, h0⟩ | ⟨g, cap, cur, hvg, hbg, _, hcap1, hcap2, _⟩
          · simp at h0
          obtain ⟨rfl, rfl⟩ : va = some ⟨g, 0, none⟩ ∧ vc = cap := by simpa using hvg
          simp only [List.length_cons] at hr4 hv4 hvc4 hcap1 hstl ⊢
          have ct := (hr4.cellAt rest.length (by omega)).trans (icells_top y rest)
          have cf := hr4.frozenAt rest.length
          have hwr : IntKind.i64.wrap (rest.length : Int) = (rest.length : Int) := by rw [IntKind.wrap_i64]; omega
          have hix2 : (rest.length : Int) < ((rest.length + 1 : Nat) : Int) := by omega
          have hix3 : rest.length < rest.length + 1 := by omega
          have hix4 : (rest.length : Int) < (rest.length : Int) + 1 := by omega
          have hr4d : w4.drew.ownsRow W3.heap.size 3 1 (.slice (some ⟨g, 0, none⟩) (rest.length + 1) vc) (rest.length + 1) (icells (y :: rest)) := own_none hr4 ⟨rfl, rfl, rfl, Nat.le_refl _, fun _ _ _ => rfl⟩
          have hv4d : Boxed w4.drew Bst 22 (.slice (some ⟨g, 0, none⟩) (rest.length + 1) vc) := hv4
          have t4d : Turned W3.heap.size Bst W w4.drew := t4.below ⟨rfl, rfl, rfl, Nat.le_refl _, fun _ _ => rfl⟩
          have f1 : w4.drew.cell? ⟨Bst, 0, none⟩ = some (.slice (some ⟨g, 0, none⟩) (rest.length + 1) vc) := hvc4
          have f2 : w4.drew.cell? ⟨g, rest.length, none⟩ = some (.int .i64 y) := ct
          have f3 : w4.drew.frozen? ⟨g, rest.length, none⟩ = false := cf
          obtain ⟨hs1, hs2'⟩ := hr4d.stored rest.length (.int .i64 (trI (y == 0)))
          rw [icells_set] at hs1
          have hgS : g ≠ Bst := fun e => Boxed.not_row hv4d (by decide) hr4d (by rw [e]; rfl)
          have hz3a : Bs < W3.heap.size := by omega
          clear hz3
          clear ct cf hr4 hv4 hvc4 hvf4 hx04 hx14 c04 c14
          gi_wp2_with (fail)
          refine wpIn_region_T (C := fun W' => W'.cell? ⟨Bst, 0, none⟩ = some (.slice (some ⟨g, 0, none⟩) (rest.length + 1) vc) ∧ W'.cell? ⟨g, rest.length, none⟩ = some (.int .i64 y)) (L := [11].contains) (by kernel_rfl) (by kernel_rfl) (fun ⟨_, _, h⟩ => h) ?_
          have hCw := And.intro f1 f2
          refine wpAnyT_take (n := 2) (ts := [0, 1, 2, 3, 4, 5, 6, 7, 8]) (ls := [11]) (by kernel_rfl) (i := 0) (v := ?vt0) rfl (by kernel_rfl) (by kernel_rfl) (by kernel_rfl) (by kernel_rfl) (by kernel_rfl) (fun _ _ _ h => h) hCw (Or.inl ⟨by rfl, ?hyt0⟩) ?restt0
          case hyt0 => (rintro W ⟨g1, g2⟩; go_simp; try with_reducible rfl)
          refine wpAnyT_take (n := 2) (ts := [0, 1, 2, 3, 4, 5, 6, 7, 8]) (ls := [11]) (by kernel_rfl) (i := 1) (v := ?vt1) rfl (by kernel_rfl) (by kernel_rfl) (by kernel_rfl) (by kernel_rfl) (by kernel_rfl) (fun _ _ _ h => h) hCw (Or.inl ⟨by rfl, ?hyt1⟩) ?restt1
          case hyt1 => (rintro W ⟨g1, g2⟩; go_simp; try with_reducible rfl)
          refine wpAnyT_take (n := 2) (ts := [0, 1, 2, 3, 4, 5, 6, 7, 8]) (ls := [11]) (by kernel_rfl) (i := 2) (v := ?vt2) rfl (by kernel_rfl) (by kernel_rfl) (by kernel_rfl) (by kernel_rfl) (by kernel_rfl) (fun _ _ _ h => h) hCw (Or.inl ⟨by rfl, ?hyt2⟩) ?restt2
          case hyt2 => (rintro W ⟨g1, g2⟩; go_simp; try with_reducible rfl)
          refine wpAnyT_take (n := 2) (ts := [0, 1, 2, 3, 4, 5, 6, 7, 8]) (ls := [11]) (by kernel_rfl) (i := 3) (v := ?vt3) rfl (by kernel_rfl) (by kernel_rfl) (by kernel_rfl) (by kernel_rfl) (by kernel_rfl) (fun _ _ _ h => h) hCw (Or.inl ⟨by rfl, ?hyt3⟩) ?restt3
          case hyt3 => (rintro W ⟨g1, g2⟩; go_simp; try with_reducible rfl)
          refine wpAnyT_take (n := 2) (ts := [0, 1, 2, 3, 4, 5, 6, 7, 8]) (ls := [11]) (by kernel_rfl) (i := 4) (v := ?vt4) rfl (by kernel_rfl) (by kernel_rfl) (by kernel_rfl) (by kernel_rfl) (by kernel_rfl) (fun _ _ _ h => h) hCw (Or.inl ⟨by rfl, ?hyt4⟩) ?restt4
          case hyt4 => (rintro W ⟨g1, g2⟩; go_simp; try with_reducible rfl)
          refine wpAnyT_take (n := 2) (ts := [0, 1, 2, 3, 4, 5, 6, 7, 8]) (ls := [11]) (by kernel_rfl) (i := 5) (v := ?vt5) rfl (by kernel_rfl) (by kernel_rfl) (by kernel_rfl) (by kernel_rfl) (by kernel_rfl) (fun _ _ _ h => h) hCw (Or.inl ⟨by rfl, ?hyt5⟩) ?restt5
          case hyt5 => (rintro W ⟨g1, g2⟩; go_simp; try with_reducible rfl)
          refine wpAnyT_take (n := 2) (ts := [0, 1, 2, 3, 4, 5, 6, 7, 8]) (ls := [11]) (by kernel_rfl) (i := 6) (v := ?vt6) rfl (by kernel_rfl) (by kernel_rfl) (by kernel_rfl) (by kernel_rfl) (by kernel_rfl) (fun _ _ _ h => h) hCw (Or.inl ⟨by rfl, ?hyt6⟩) ?restt6
          case hyt6 => (rintro W ⟨g1, g2⟩; go_simp; try with_reducible rfl)
          refine wpAnyT_take (n := 2) (ts := [0, 1, 2, 3, 4, 5, 6, 7, 8]) (ls := [11]) (by kernel_rfl) (i := 7) (v := ?vt7) rfl (by kernel_rfl) (by kernel_rfl) (by kernel_rfl) (by kernel_rfl) (by kernel_rfl) (fun _ _ _ h => h) hCw (Or.inl ⟨by rfl, ?hyt7⟩) ?restt7
          case hyt7 => (rintro W ⟨g1, g2⟩; go_simp; try with_reducible rfl)
          refine wpAnyT_take (n := 2) (ts := [0, 1, 2, 3, 4, 5, 6, 7, 8]) (ls := [11]) (by kernel_rfl) (i := 8) (v := ?vt8) rfl (by kernel_rfl) (by kernel_rfl) (by kernel_rfl) (by kernel_rfl) (by kernel_rfl) (fun _ _ _ h => h) hCw (Or.inl ⟨by rfl, ?hyt8⟩) ?restt8
          case hyt8 => (rintro W ⟨g1, g2⟩; go_simp; try with_reducible rfl)
          refine wpAnyT_only (i := 9) rfl (by kernel_rfl) (by rfl) ?callt
          case callt =>
            go_simp
            refine (truth_any _ _).mono ?_
            rintro e w' ⟨rfl, rfl⟩
            refine ⟨hCw, ?_⟩
            refine wpAnyT_only (i := 10) rfl (by kernel_rfl) (by rfl) ?_
            go_simp
            first | refine ⟨hCw, ?_⟩ | skip
            refine wpAnyT_only (i := 11) rfl (by kernel_rfl) (by rfl) ?_
            go_simp
            refine wpAnyT_done (by kernel_rfl) ?_ _
            have T := t4d.grown (v := .slice (some ⟨g, 0, none⟩) (rest.length + 1) vc) hs2' hr4d
            have hv9 := hv4d.kept hs2' (fun e => hgS (by simpa using e.symm))
            exact ⟨T.keeps (by omega), T.kept hB (by simp; omega), evI_next HI.out (by omega) (by omega) T hv9 (by rw [HN.out]; exact hs1)⟩
        · rw [hq]
          have hnx := HN.out
          rw [if_neg (by omega), if_neg (by omega), if_neg (by omega)] at hnx
          clear HN
          have HN := Lib.hid hnx; clear hnx
          have h1l := HQ.out.2.2 hq
          obtain ⟨y, z, rest, rfl⟩ : ∃ y z rest, st = y :: z :: rest := by
            cases st with
            | nil => simp at h1l
            | cons y st =>
              cases st with
              | nil => simp at h1l
              | cons z rest => exact ⟨y, z, rest, rfl⟩
          rcases hr4.2 with ⟨_, h0⟩ | ⟨g, cap, cur, hvg, hbg, _, hcap1, hcap2, _⟩
          · simp at h0
          obtain ⟨rfl, rfl⟩ : va = some ⟨g, 0, none⟩ ∧ vc = cap := by simpa using hvg
          simp only [List.length_cons] at hr4 hv4 hvc4 hcap1 hstl ⊢
          have hp1 := ownsRow_pop (rest := z :: rest) hr4
          simp only [List.length_cons] at hp1
          have hp2 := ownsRow_pop (rest := rest) hp1
          have ct := (hr4.cellAt (rest.length + 1) (by omega)).trans (icells_top y (z :: rest))
          have cs := (hp1.cellAt rest.length (by omega)).trans (icells_top z rest)
          have hwA : IntKind.i64.wrap ((rest.length : Int) + 1) = (rest.length : Int) + 1 := by rw [IntKind.wrap_i64]; omega
          have hwB : IntKind.i64.wrap (rest.length : Int) = (rest.length : Int) := by rw [IntKind.wrap_i64]; omega
          have hwC : IntKind.i64.wrap ((rest.length : Int) + 1 + 1 - 2) = (rest.length : Int) := by rw [IntKind.wrap_i64]; omega
          have hwD : IntKind.i64.wrap ((rest.length : Int) + 1 + 1 - 1) = (rest.length : Int) + 1 := by rw [IntKind.wrap_i64]; omega
          have hr4d : w4.drew.ownsRow W3.heap.size 3 1 (.slice (some ⟨g, 0, none⟩) rest.length vc) rest.length (icells rest) := own_none hp2 ⟨rfl, rfl, rfl, Nat.le_refl _, fun _ _ _ => rfl⟩
          have hv4d : Boxed w4.drew Bst 22 (.slice (some ⟨g, 0, none⟩) (rest.length + 1 + 1) vc) := hv4
          have t4d : Turned W3.heap.size Bst W w4.drew := t4.below ⟨rfl, rfl, rfl, Nat.le_refl _, fun _ _ => rfl⟩
          have f1 : w4.drew.cell? ⟨Bst, 0, none⟩ = some (.slice (some ⟨g, 0, none⟩) (rest.length + 1 + 1) vc) := hvc4
          have f2 : w4.drew.cell? ⟨Bx, 0, none⟩ = some (.string (S x.2)) := hx04
          have f3 : w4.drew.cell? ⟨g, rest.length + 1, none⟩ = some (.int .i64 y) := ct
          have f4 : w4.drew.cell? ⟨g, rest.length, none⟩ = some (.int .i64 z) := cs
          have hz3a : Bs < W3.heap.size := by omega
          have hBst : Bst < W3.heap.size := by omega
          have hzB : W3.heap.size ≤ w4.heap.size := by omega
          have hneS := Boxed.not_row hv4d (by decide) hr4d
          have hx4d : w4.drew.heap[Bx]? = some (.cells #[.string (S x.2), .int .i64 (x.1 : Int)] 49 (0, 0)) := hx4
          have hgl : g < w4.heap.size := by
            have := World.block_lt_of_cell? w4 _ ct
            exact this
          have hle1 : (rest.length : Int) ≤ (vc : Int) := by omega
          have hle0 : (0 : Int) ≤ (rest.length : Int) := by omega
          have hA0 : (0 : Int) ≤ (rest.length : Int) + 1 := by omega
          have hA1 : (rest.length : Int) < (rest.length : Int) + 1 := by omega
          have hA2 : (rest.length : Int) < (rest.length : Int) + 1 + 1 := by omega
          obtain ⟨vp, hvp⟩ : ∃ vp, appI x.2 y z = vp := ⟨_, rfl⟩
          have HVp := Lib.hid hvp
          have hap : ∀ W, Calls Tryd.prog 27 #[.string (S x.2), .int .i64 y, .int .i64 z] W fun e w' => e = .returned (.int .i64 vp) ∧ W = w' := fun W => by
            have := apply_any (S x.2) y z W
            rw [S_toList, HVp.out] at this
            exact this
          have b8 : Below w4.drew.heap.size w4.drew (w4.drew.alloc (.cells #[.int .i64 vp] 3)) := (Below.refl _ _).alloc (Nat.le_refl _) _
          have f1a : (w4.drew.alloc (.cells #[.int .i64 vp] 3)).cell? ⟨Bst, 0, none⟩ = some (.slice (some ⟨g, 0, none⟩) (rest.length + 1 + 1) vc) := (hv4d.alloc _).cell
          have f2a := (b8.cell (p := ⟨Bx, 0, none⟩) (by show Bx < w4.heap.size; omega)).trans f2
          have f3a := (b8.cell (p := ⟨g, rest.length + 1, none⟩) (by show g < w4.heap.size; omega)).trans f3
          have f4a := (b8.cell (p := ⟨g, rest.length, none⟩) (by show g < w4.heap.size; omega)).trans f4
          have hCw := And.intro f1 (And.intro f2 (And.intro f3 f4))
          have hCa := And.intro f1a (And.intro f2a (And.intro f3a f4a))
          clear hz3 hx4 hv4 hvc4 hvf4 hx04 hx14 c04 c14 b8 hvp hr4 hp1 hp2 ct cs
          gi_wp2_with (fail)
          refine wpIn_region_T (C := fun W' => W'.cell? ⟨Bst, 0, none⟩ = some (.slice (some ⟨g, 0, none⟩) (rest.length + 1 + 1) vc) ∧ W'.cell? ⟨Bx, 0, none⟩ = some (.string (S x.2)) ∧ W'.cell? ⟨g, rest.length + 1, none⟩ = some (.int .i64 y) ∧ W'.cell? ⟨g, rest.length, none⟩ = some (.int .i64 z)) (L := [18, 19].contains) (by kernel_rfl) (by kernel_rfl) (fun ⟨_, _, h⟩ => h) ?_
          refine wpAnyT_take (n := 8) (ts := [0, 1, 2, 3, 4, 5, 6, 7, 8, 9, 10, 11, 12, 13, 14, 15]) (ls := [18, 19]) (by kernel_rfl) (i := 0) (v := ?vr0) rfl (by kernel_rfl) (by kernel_rfl) (by kernel_rfl) (by kernel_rfl) (by kernel_rfl) (fun _ _ _ h => h) hCw (Or.inl ⟨by rfl, ?hyr0⟩) ?restr0
          case hyr0 => (rintro W ⟨g1, g2, g3, g4⟩; go_simp; try with_reducible rfl)
          refine wpAnyT_take (n := 8) (ts := [0, 1, 2, 3, 4, 5, 6, 7, 8, 9, 10, 11, 12, 13, 14, 15]) (ls := [18, 19]) (by kernel_rfl) (i := 1) (v := ?vr1) rfl (by kernel_rfl) (by kernel_rfl) (by kernel_rfl) (by kernel_rfl) (by kernel_rfl) (fun _ _ _ h => h) hCw (Or.inl ⟨by rfl, ?hyr1⟩) ?restr1
          case hyr1 => (rintro W ⟨g1, g2, g3, g4⟩; go_simp; try with_reducible rfl)
          refine wpAnyT_take (n := 8) (ts := [0, 1, 2, 3, 4, 5, 6, 7, 8, 9, 10, 11, 12, 13, 14, 15]) (ls := [18, 19]) (by kernel_rfl) (i := 2) (v := ?vr2) rfl (by kernel_rfl) (by kernel_rfl) (by kernel_rfl) (by kernel_rfl) (by kernel_rfl) (fun _ _ _ h => h) hCw (Or.inl ⟨by rfl, ?hyr2⟩) ?restr2
          case hyr2 => (rintro W ⟨g1, g2, g3, g4⟩; go_simp; try with_reducible rfl)
          refine wpAnyT_take (n := 8) (ts := [0, 1, 2, 3, 4, 5, 6, 7, 8, 9, 10, 11, 12, 13, 14, 15]) (ls := [18, 19]) (by kernel_rfl) (i := 3) (v := ?vr3) rfl (by kernel_rfl) (by kernel_rfl) (by kernel_rfl) (by kernel_rfl) (by kernel_rfl) (fun _ _ _ h => h) hCw (Or.inl ⟨by rfl, ?hyr3⟩) ?restr3
          case hyr3 => (rintro W ⟨g1, g2, g3, g4⟩; go_simp; try with_reducible rfl)
          refine wpAnyT_take (n := 8) (ts := [0, 1, 2, 3, 4, 5, 6, 7, 8, 9, 10, 11, 12, 13, 14, 15]) (ls := [18, 19]) (by kernel_rfl) (i := 4) (v := ?vr4) rfl (by kernel_rfl) (by kernel_rfl) (by kernel_rfl) (by kernel_rfl) (by kernel_rfl) (fun _ _ _ h => h) hCw (Or.inl ⟨by rfl, ?hyr4⟩) ?restr4
          case hyr4 => (rintro W ⟨g1, g2, g3, g4⟩; go_simp; try with_reducible rfl)
          refine wpAnyT_take (n := 8) (ts := [0, 1, 2, 3, 4, 5, 6, 7, 8, 9, 10, 11, 12, 13, 14, 15]) (ls := [18, 19]) (by kernel_rfl) (i := 5) (v := ?vr5) rfl (by kernel_rfl) (by kernel_rfl) (by kernel_rfl) (by kernel_rfl) (by kernel_rfl) (fun _ _ _ h => h) hCw (Or.inl ⟨by rfl, ?hyr5⟩) ?restr5
          case hyr5 => (rintro W ⟨g1, g2, g3, g4⟩; go_simp; try with_reducible rfl)
          refine wpAnyT_take (n := 8) (ts := [0, 1, 2, 3, 4, 5, 6, 7, 8, 9, 10, 11, 12, 13, 14, 15]) (ls := [18, 19]) (by kernel_rfl) (i := 6) (v := ?vr6) rfl (by kernel_rfl) (by kernel_rfl) (by kernel_rfl) (by kernel_rfl) (by kernel_rfl) (fun _ _ _ h => h) hCw (Or.inl ⟨by rfl, ?hyr6⟩) ?restr6
          case hyr6 => (rintro W ⟨g1, g2, g3, g4⟩; go_simp; try with_reducible rfl)
          refine wpAnyT_take (n := 8) (ts := [0, 1, 2, 3, 4, 5, 6, 7, 8, 9, 10, 11, 12, 13, 14, 15]) (ls := [18, 19]) (by kernel_rfl) (i := 7) (v := ?vr7) rfl (by kernel_rfl) (by kernel_rfl) (by kernel_rfl) (by kernel_rfl) (by kernel_rfl) (fun _ _ _ h => h) hCw (Or.inl ⟨by rfl, ?hyr7⟩) ?restr7
          case hyr7 => (rintro W ⟨g1, g2, g3, g4⟩; go_simp; try with_reducible rfl)
          refine wpAnyT_take (n := 8) (ts := [0, 1, 2, 3, 4, 5, 6, 7, 8, 9, 10, 11, 12, 13, 14, 15]) (ls := [18, 19]) (by kernel_rfl) (i := 8) (v := ?vr8) rfl (by kernel_rfl) (by kernel_rfl) (by kernel_rfl) (by kernel_rfl) (by kernel_rfl) (fun _ _ _ h => h) hCw (Or.inl ⟨by rfl, ?hyr8⟩) ?restr8
          case hyr8 => (rintro W ⟨g1, g2, g3, g4⟩; go_simp; try with_reducible rfl)
          refine wpAnyT_take (n := 8) (ts := [0, 1, 2, 3, 4, 5, 6, 7, 8, 9, 10, 11, 12, 13, 14, 15]) (ls := [18, 19]) (by kernel_rfl) (i := 9) (v := ?vr9) rfl (by kernel_rfl) (by kernel_rfl) (by kernel_rfl) (by kernel_rfl) (by kernel_rfl) (fun _ _ _ h => h) hCw (Or.inl ⟨by rfl, ?hyr9⟩) ?restr9
          case hyr9 => (rintro W ⟨g1, g2, g3, g4⟩; go_simp; try with_reducible rfl)
          refine wpAnyT_take (n := 8) (ts := [0, 1, 2, 3, 4, 5, 6, 7, 8, 9, 10, 11, 12, 13, 14, 15]) (ls := [18, 19]) (by kernel_rfl) (i := 10) (v := ?vr10) rfl (by kernel_rfl) (by kernel_rfl) (by kernel_rfl) (by kernel_rfl) (by kernel_rfl) (fun _ _ _ h => h) hCw (Or.inl ⟨by rfl, ?hyr10⟩) ?restr10
          case hyr10 => (rintro W ⟨g1, g2, g3, g4⟩; go_simp; try with_reducible rfl)
          refine wpAnyT_take (n := 8) (ts := [0, 1, 2, 3, 4, 5, 6, 7, 8, 9, 10, 11, 12, 13, 14, 15]) (ls := [18, 19]) (by kernel_rfl) (i := 11) (v := ?vr11) rfl (by kernel_rfl) (by kernel_rfl) (by kernel_rfl) (by kernel_rfl) (by kernel_rfl) (fun _ _ _ h => h) hCw (Or.inl ⟨by rfl, ?hyr11⟩) ?restr11
          case hyr11 => (rintro W ⟨g1, g2, g3, g4⟩; go_simp; try with_reducible rfl)
          refine wpAnyT_take (n := 8) (ts := [0, 1, 2, 3, 4, 5, 6, 7, 8, 9, 10, 11, 12, 13, 14, 15]) (ls := [18, 19]) (by kernel_rfl) (i := 12) (v := ?vr12) rfl (by kernel_rfl) (by kernel_rfl) (by kernel_rfl) (by kernel_rfl) (by kernel_rfl) (fun _ _ _ h => h) hCw (Or.inl ⟨by rfl, ?hyr12⟩) ?restr12
          case hyr12 => (rintro W ⟨g1, g2, g3, g4⟩; go_simp; try with_reducible rfl)
          refine wpAnyT_take (n := 8) (ts := [0, 1, 2, 3, 4, 5, 6, 7, 8, 9, 10, 11, 12, 13, 14, 15]) (ls := [18, 19]) (by kernel_rfl) (i := 13) (v := ?vr13) rfl (by kernel_rfl) (by kernel_rfl) (by kernel_rfl) (by kernel_rfl) (by kernel_rfl) (fun _ _ _ h => h) hCw (Or.inl ⟨by rfl, ?hyr13⟩) ?restr13
          case hyr13 => (rintro W ⟨g1, g2, g3, g4⟩; go_simp; try with_reducible rfl)
          refine wpAnyT_take (n := 8) (ts := [0, 1, 2, 3, 4, 5, 6, 7, 8, 9, 10, 11, 12, 13, 14, 15]) (ls := [18, 19]) (by kernel_rfl) (i := 14) (v := ?vr14) rfl (by kernel_rfl) (by kernel_rfl) (by kernel_rfl) (by kernel_rfl) (by kernel_rfl) (fun _ _ _ h => h) hCw (Or.inl ⟨by rfl, ?hyr14⟩) ?restr14
          case hyr14 => (rintro W ⟨g1, g2, g3, g4⟩; go_simp; try with_reducible rfl)
          refine wpAnyT_take (n := 8) (ts := [0, 1, 2, 3, 4, 5, 6, 7, 8, 9, 10, 11, 12, 13, 14, 15]) (ls := [18, 19]) (by kernel_rfl) (i := 15) (v := ?vr15) rfl (by kernel_rfl) (by kernel_rfl) (by kernel_rfl) (by kernel_rfl) (by kernel_rfl) (fun _ _ _ h => h) hCw (Or.inl ⟨by rfl, ?hyr15⟩) ?restr15
          case hyr15 => (rintro W ⟨g1, g2, g3, g4⟩; go_simp; try with_reducible rfl)
          refine wpAnyT_only (i := 16) rfl (by kernel_rfl) (by rfl) ?callr
          case callr =>
            go_simp
            refine (hap _).mono ?_
            rintro e w' ⟨rfl, rfl⟩
            refine ⟨hCw, ?_⟩
            refine wpAnyT_only (i := 17) rfl (by kernel_rfl) (by rfl) ?_
            go_simp
            first | refine ⟨hCa, ?_⟩ | refine ⟨⟨f1a, f2a, f3, f4⟩, ?_⟩ | skip
            refine wpAnyT_only (i := 18) rfl (by kernel_rfl) (by rfl) ?_
            refine wp_append_lies _ _ _ _ (by rfl) W3.heap.size 3 i0 _ 1 8 (by kernel_rfl) hi0 hj0 hj1 hj2 rfl (by omega) (.slice (some ⟨g, 0, none⟩) rest.length vc) rest.length (icells rest) (by rfl) (hr4d.alloc _) ⟨w4.heap.size, 0, none⟩ 1 1 [.int .i64 vp] (by rfl) (by rfl) (World.news_of_block (cs := #[.int .i64 vp]) (t := 3) (fr := (0, 0)) (heap_alloc_new w4 _)) (by simp [Value.oneCell']) (by omega) (by unfold maxLen; omega) (by omega) (by simp; omega) (w4.heap.size + 1) (by simp) ?_
            intro gg cap' w6 hown6 hgrow hat hlt6
            have hv6 := (hv4d.alloc (.cells #[.int .i64 vp] 3)).kept hgrow hneS
            have hc6 := hv6.cell
            have hf6 := hv6.frozen
            refine ⟨fun h => (by simp at h), ?_⟩
            refine wpAnyT_only (i := 19) rfl (by kernel_rfl) (by rfl) ?_
            go_simp
            refine wpAnyT_done (by kernel_rfl) ?_ _
            have T := ((t4d.alloc (.cells #[.int .i64 vp] 3)).grown hgrow (hr4d.alloc _)).box (.slice (some ⟨gg, 0, none⟩) (rest.length + 1) cap')
            have hr6 := ownsRow_setCell_below hown6 (a := ⟨Bst, 0, none⟩) (by show Bst < _; omega) (.slice (some ⟨gg, 0, none⟩) (rest.length + 1) cap')
            have hnn2 := HN.out
            simp only [List.headD_cons, List.tail_cons, HVp.out] at hnn2
            exact ⟨T.keeps (by omega), T.kept hB (by simp; omega), evI_next HI.out (by omega) (by omega) T (Boxed.set _ hv6) (by rw [hnn2, icells_cons]; exact hr6)⟩
      case done =>
        intro D W hD hI hdf
        obtain ⟨⟨v, hv, hr, _⟩, ⟨c0, c1⟩, hbw, hB⟩ := hI
        rw [Nat.sub_self, List.drop_zero] at hr
        have hk1 := HK.out.2
        obtain ⟨y, hy⟩ : ∃ y, evS names vals (wordsL s.toList) = [y] := by
          match hq : evS names vals (wordsL s.toList), hk1 with
          | [y], _ => exact ⟨y, rfl⟩
        have HY := Lib.hid hy
        rw [hy] at hr
        obtain ⟨g, cap, rfl⟩ : ∃ g cap, v = .slice (some ⟨g, 0, none⟩) 1 cap := by
          rcases hr.2 with ⟨_, h0⟩ | ⟨g, cap, cur, rfl, _⟩
          · cases h0
          · exact ⟨g, cap, rfl⟩
        have ct := (hr.cellAt 0 (by simp)).trans (icells_top y [])
        have hvc := hv.cell
        clear hk1 hy hr c0 c1
        gi_wp2
        refine ⟨by simp, .inl ⟨_, _, rfl, run_takeDeferred hdf, ?_⟩⟩
        exact ⟨_, results_tmp2 rfl _ _ _, by rw [HY.out]; rfl, hbw.trans (belowK_b (w := w) (Nat.le_refl _) W D _ _ (by omega) hdf rfl rfl)⟩
  · have e : evalP names vals s.toList = (0, (checkP names s.toList).1) := by unfold evalP; rw [if_pos hc]
    rw [e]
    clear e
    have hcB : ((checkP names s.toList).1 == 0) = false := by simpa using hc
    gi_wp2_with (fail)
    refine ⟨trivial, ?_⟩
    gi_at_call 13
    refine (callsIn_wide.2 (check_any s an names.length capn names _ hnn HSb.out)).mono ?_
    rintro e w1 ⟨rfl, b1⟩
    gi_wp2
    refine ⟨_, results_tmp2 rfl _ _ _, rfl, b0.trans (b1.mono (by simp; omega))⟩

end Go.Proofs.YtkmncmceheggjaaDoor
