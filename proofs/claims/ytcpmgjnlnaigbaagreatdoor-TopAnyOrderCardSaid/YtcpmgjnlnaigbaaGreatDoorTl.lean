/- TopAnyOrder: slots that are learned in any order are taken in the same order. -/
import Derived.Test.YtcpmgjnlnaigbaaGreatDoorKt
import Derived.Test.YtcpmgjnlnaigbaaGreatDoorLm
import Derived.Test.YtcpmgjnlnaigbaaGreatDoorAw
set_option linter.unusedVariables false
set_option linter.unusedSimpArgs false
namespace Go.Proofs.YtcpmgjnlnaigbaaGreatDoor
open Go.RowKit Go.Maps

theorem neCM {W : World} {g m m' n : Nat} {b t : Int} {M : Int → Option ByteArray} (h : LogC W g m b t) (k : LogM W m' n M) : g ≠ m' := fun e => by
  subst e
  obtain ⟨D, ⟨es, clock, hb, _⟩, _⟩ := k
  unfold LogC at h
  rw [h] at hb
  cases hb
theorem row_neC {W : World} {B : Nat} {v : Value} {n : Nat} {xs : List Value} {g m : Nat} {b t : Int} (ho : W.ownsRow B 9 1 v n xs) (h : LogC W g m b t) : some g ≠ v.ownBlock := by
  obtain ⟨_, ⟨rfl, _⟩ | ⟨g', cap, cur, rfl, _, hh, _⟩⟩ := ho
  · intro e; cases e
  · intro e
    have e' : g = g' := Option.some.inj e
    subst e'
    unfold LogC at h
    rw [h] at hh
    have := Option.some.inj hh
    have ht : 37 = 9 := by injection this
    revert ht; decide
theorem row_neM {W : World} {B : Nat} {v : Value} {n k : Nat} {xs : List Value} {m : Nat} {M : Int → Option ByteArray} (ho : W.ownsRow B 9 1 v n xs) (h : LogM W m k M) : some m ≠ v.ownBlock := by
  obtain ⟨_, ⟨rfl, _⟩ | ⟨g', cap, cur, rfl, _, hh, _⟩⟩ := ho
  · intro e; cases e
  · intro e
    have e' : m = g' := Option.some.inj e
    subst e'
    obtain ⟨D, ⟨es, clock, hb, _⟩, _⟩ := h
    rw [hb] at hh
    cases hh
theorem row_kept {W W' : World} {B : Nat} {v : Value} {n : Nat} {xs : List Value} {r : Nat} (ho : W.ownsRow B 9 1 v n xs) (hg : W.grownBy W' (some r)) (hne : some r ≠ v.ownBlock) : W'.ownsRow B 9 1 v n xs := by
  refine ho.kept hg ?_
  cases hv : v.ownBlock with
  | none => exact .inl rfl
  | some b => exact .inr (fun e => hne (by rw [hv]; exact e.symm))
theorem own_src2 {W : World} {B : Nat} {v : Value} {n : Nat} {l : List ByteArray} (ho : W.ownsRow B 9 1 v n (l.map Value.string)) : ∃ a c, v = .slice a n c ∧ ((n = 0 ∧ a = none) ∨ ∃ ad, a = some ad ∧ ∀ j u, (l.map Value.string)[j]? = some u → W.cell? (ad.add j) = some u) ∧ Strs W a n l := by
  have ho' := ho
  obtain ⟨hl, ⟨rfl, h0⟩ | ⟨g', cap, cur, rfl, hg, hh, _⟩⟩ := ho
  · refine ⟨none, 0, by rw [h0], .inl ⟨h0, rfl⟩, ?_⟩
    rw [List.length_map] at hl
    exact ⟨by omega, .inl h0⟩
  · rw [List.length_map] at hl
    refine ⟨_, cap, rfl, .inr ⟨_, rfl, fun j u hu => ho'.cells (g := g') rfl j u hu⟩, by omega, .inr ⟨g', 0, rfl, (Array.getElem?_eq_some_iff.1 hh).1, fun j hj => ?_⟩⟩
    have hx : ∃ x, l[j]? = some x := ⟨_, List.getElem?_eq_getElem hj⟩
    obtain ⟨x, hx⟩ := hx
    have := ho'.cells (g := g') rfl j (.string x) (by rw [List.getElem?_map, hx]; rfl)
    rw [addr_plus] at this
    rw [this]
    simp [List.getD, hx]

theorem LogAt.below {w w' : World} {g m n : Nat} {base taken : Int} {M : Int → Option ByteArray} (h : LogAt w g m n base taken M) (hb : Below w.heap.size w w') : LogAt w' g m n base taken M :=
  h.kept (row := none) ⟨hb.os, hb.tape, hb.output, hb.size, fun i hi _ => hb.block i hi⟩ (by simp) (by simp)
/-- Learn, of what is true -/
theorem learn_inv (vals : List ByteArray) (g m n : Nat) (base t : Int) (M : Int → Option ByteArray) (s : Int) (w : World) (h : LogAt w g m n base t M) (hI : Inv vals base t M) (hs : 0 ≤ s ∧ s < vals.length) (hl : vals.length ≤ 20) (hv : ∀ x ∈ vals, x.size ≤ maxLen) (hn : n ≤ 1000) :
    Calls Tryz.prog 6 #[.pointer (some ⟨g, 0, none⟩), .int .i64 s, .string (vals.getD s.toNat ⟨#[]⟩)] w fun e w' => e = .returned (.int .i64 0) ∧ ∃ M' n', n' ≤ n + 1 ∧ LogAt w' g m n' base t M' ∧ Inv vals base t M' ∧ w.grownBy w' (some m) ∧ (base ≤ s → (M' s).isSome = true) ∧ ∀ j, (M j).isSome = true → (M' j).isSome = true := by
  have hsz : (vals.getD s.toNat ⟨#[]⟩).size ≤ maxLen := by
    have hlt : s.toNat < vals.length := by omega
    have : vals.getD s.toNat ⟨#[]⟩ = vals[s.toNat] := by simp [List.getD, hlt]
    rw [this]
    exact hv _ (List.getElem_mem hlt)
  by_cases hb : s < base
  · refine (learn_had g m n base t M s _ w h (by omega) (.inl hb)).mono ?_
    rintro e w' ⟨rfl, rfl⟩
    exact ⟨rfl, M, n, by omega, h, hI, World.grownBy.refl _ _, fun h => by omega, fun j hj => hj⟩
  · rcases hI.had s with hM | hM
    · refine (learn_new g m n base t M s _ w h (by omega) (by omega) hM hsz (by unfold maxLen; omega)).mono ?_
      rintro e w' ⟨rfl, h1, h2⟩
      refine ⟨rfl, _, n + 1, Nat.le_refl _, h1, hI.learn hs, h2, fun _ => by unfold setM; simp, fun j hj => ?_⟩
      unfold setM
      by_cases e : j = s
      · simp [e]
      · simp only [if_neg e]; exact hj
    · refine (learn_had g m n base t M s _ w h (by omega) (.inr hM)).mono ?_
      rintro e w' ⟨rfl, rfl⟩
      exact ⟨rfl, M, n, by omega, h, hI, World.grownBy.refl _ _, fun _ => by rw [hM]; rfl, fun j hj => hj⟩
/-- Take, of what is true -/
theorem take_inv (vals : List ByteArray) (g m n : Nat) (base t : Int) (M : Int → Option ByteArray) (w : World) (h : LogAt w g m n base t M) (hI : Inv vals base t M) (hl : vals.length ≤ 20) :
    Calls Tryz.prog 7 #[.pointer (some ⟨g, 0, none⟩)] w fun e w' => ∃ (v : Value) (K d : Nat), e = .returned v ∧ upTo M base d ∧ t + K = base + d ∧ w'.ownsRow w.heap.size 9 1 v K (((vals.drop t.toNat).take K).map Value.string) ∧ LogAt w' g m n base (t + K) M ∧ Inv vals base (t + K) M ∧ w.grownBy w' (some g) := by
  obtain ⟨d, hd1, hd2, hd3⟩ := hI.up
  obtain ⟨K, hK⟩ : ∃ K : Nat, t + K = base + d := ⟨(base + d - t).toNat, by have := hI.2.2.2.1; omega⟩
  have h0 := hI.2.2.1
  refine (take_any g m n base t M d K w h ⟨h0, by omega⟩ hd1 hI.2.2.2.1 hK).mono ?_
  rintro e w' ⟨v, rfl, h1, h2, h3⟩
  rw [hI.taken hd1 hK] at h1
  refine ⟨v, K, d, rfl, hd1, hK, h1, h2, ?_, h3⟩
  rw [hK]
  exact hI.take hd1 hd2 hd3

/-- what holds in the first loop -/
def S1 (w : World) (vals : List ByteArray) (ga ma gb mb na : Nat) (t : Int) (M : Int → Option ByteArray) (v : Value) (W : World) : Prop :=
  LogAt W ga ma na t t M ∧ Inv vals t t M ∧ W.ownsRow w.heap.size 9 1 v t.toNat ((vals.take t.toNat).map Value.string) ∧ LogAt W gb mb 0 0 0 (fun _ => none) ∧ Below w.heap.size w W
/-- what holds in the second loop -/
def S2 (w w2 : World) (vals : List ByteArray) (ga ma gb mb na nb : Nat) (ta J t : Int) (Ma M : Int → Option ByteArray) (xv v : Value) (W : World) : Prop :=
  LogAt W ga ma na ta ta Ma ∧ Inv vals ta ta Ma ∧ W.ownsRow w.heap.size 9 1 xv ta.toNat ((vals.take ta.toNat).map Value.string) ∧ LogAt W gb mb nb J t M ∧ Inv vals J t M ∧ W.ownsRow w2.heap.size 9 1 v (t - J).toNat (((vals.drop J.toNat).take (t - J).toNat).map Value.string) ∧ Below w.heap.size w W ∧ w2.heap.size ≤ W.heap.size ∧ (∀ q, xv.ownBlock = some q → q < w2.heap.size)
/-- what holds in the third loop -/
def S3 (w w2 : World) (vals : List ByteArray) (ga ma gb mb na nb i : Nat) (ta J t : Int) (Ma M : Int → Option ByteArray) (xv v : Value) (W : World) : Prop :=
  S2 w w2 vals ga ma gb mb na nb ta J t Ma M xv v W ∧ (∀ j : Int, 0 ≤ j → j < i → ta ≤ j → (Ma j).isSome = true) ∧ (∀ j : Int, 0 ≤ j → j < i → J ≤ j → (M j).isSome = true)

set_option maxRecDepth 100000 in
set_option maxHeartbeats 16000000 in
theorem topAny_cut (a : Option Addr) (n c : Nat) (vals : List ByteArray) (a1 : Option Addr) (n1 c1 : Nat) (l1 : List Int) (a2 : Option Addr) (n2 c2 : Nat) (l2 : List Int) (jump : Int) (w : World)
    (hn1 : n ≤ 20 → vals.length = n) (hn2 : 20 < n → vals.length = 20) (hnc : n ≤ c) (hcm : c ≤ maxLen) (hS : Strs w a vals.length vals) (hsz : ∀ s ∈ vals, s.size ≤ maxLen) (hI1 : Ints w a1 n1 l1) (hI2 : Ints w a2 n2 l2) (hm1 : n1 ≤ maxLen) (hm2 : n2 ≤ maxLen) :
    Calls Tryz.prog 3 #[.slice a n c, .slice a1 n1 c1, .slice a2 n2 c2, .int .i64 jump] w fun e w' => e = .returned (.bool true) ∧ Below w.heap.size w w' := by
  obtain ⟨i0, hi0, hz0, hz1, hz2⟩ := info_parts infoStr
  have HS := Lib.hid hS
  have HSz := Lib.hid hsz
  have HI1 := Lib.hid hI1
  have HI2 := Lib.hid hI2
  clear hS hsz hI1 hI2
  by_cases h20 : 20 < n
  · have hl := hn2 h20
    have hlB : decide ((20 : Int) < (n : Int)) = true := decide_eq_true (by omega)
    clear hn1 hn2
    have HLen := Lib.hid (show vals.length = 20 from hl)
    have hm20 : (20 : Nat) ≤ 20 := by omega
    clear hl
    go_enter Tryz.func3, Tryz.ntmps3
    go_wp2_with (fail)
    refine (logNew_any w).mono ?_
    rintro e wa ⟨ga, ma, rfl, hA, hga, hma, hba⟩
    have HA := Lib.hid hA
    have HBa := Lib.hid hba
    have hza := hba.size
    have hgal := hA.1.lt
    have hmal := hA.2.1.lt
    clear hA hba
    go_wp2_with (fail)
    refine (logNew_any wa).mono ?_
    rintro e wb ⟨gb, mb, rfl, hB, hgb, hmb, hbb⟩
    have hA2 : LogAt wb ga ma 0 0 0 (fun _ => none) := ⟨(hbb.block ga hgal).trans HA.out.1, HA.out.2.1.kept (row := none) ⟨hbb.os, hbb.tape, hbb.output, hbb.size, fun i hi _ => hbb.block i hi⟩ (by simp), HA.out.2.2⟩
    have HA := Lib.hid hA2
    have HB := Lib.hid hB
    have HBw := Lib.hid (HBa.out.trans (hbb.mono hza))
    have hgg : ga ≠ gb := by omega
    have hmm : ma ≠ mb := by omega
    clear hA2 hB hbb
    go_wp2_with (fail)
    refine (within_any jump 0 (20) wb (by omega) (by omega) (by omega)).mono ?_
    rintro e w' ⟨rfl, rfl⟩
    have hJ := inB_bd jump (lo := 0) (hi := (20)) (by omega)
    obtain ⟨J, hJe⟩ : ∃ J, inB jump 0 (20) = J := ⟨_, rfl⟩
    rw [hJe] at hJ ⊢
    obtain ⟨hJ0, hJN⟩ := hJ
    clear hJe
    go_upto_block 0 with (fail)
    go_cut [11] (fun xv wx => ∃ (v : Value) (na : Nat) (t : Int) (M : Int → Option ByteArray), v = xv ∧ na ≤ 60 ∧ Hid (S1 w vals ga ma gb mb na t M v wx))
    case first =>
      as_aux_lemma =>
      go_wp2_with (fail)
      go_loopw [11, 13] (fun xv iv wr => ∃ (i : Nat) (v : Value) (na : Nat) (t : Int) (M : Int → Option ByteArray), v = xv ∧ iv = .int .i64 i ∧ i ≤ 60 ∧ na ≤ i ∧ Hid (S1 w vals ga ma gb mb na t M v wr)) (fun _ iv _ => 60 - (intOf iv).toNat)
      case atStart => exact ⟨0, _, 0, 0, _, rfl, rfl, by omega, by omega, Lib.hid ⟨HA.out, ⟨fun j => .inl rfl, fun j h1 h2 => by omega, by omega, by omega, by omega⟩, ⟨rfl, .inl ⟨rfl, rfl⟩⟩, HB.out, HBw.out⟩⟩
      case round =>
        obtain ⟨i, xv, na, t, M, rfl, rfl, hi, hna, HS1⟩ := hrel
        clear HA HB HBw HBa
        by_cases hgo : i < n1 ∧ i < 60 ∧ 0 < 20
        · obtain ⟨hin, hi60, hN0⟩ := hgo
          rcases HI1.out.2 with h0 | ⟨b1, o1, ha1, hb1, hs1⟩
          · omega
          subst ha1
          have hil : i < l1.length := by have := HI1.out.1; omega
          have hc := hs1 i hil
          obtain ⟨z, hz⟩ : ∃ z, l1.getD i 0 = z := ⟨_, rfl⟩
          rw [hz] at hc
          have hcw := (HS1.out.2.2.2.2.cell (p := ⟨b1, o1 + i, none⟩) hb1).trans hc
          have hsB := inB_bd z (lo := 0) (hi := 19) (by omega)
          obtain ⟨s, hse⟩ : ∃ s, inB z 0 (19) = s := ⟨_, rfl⟩
          rw [hse] at hsB
          obtain ⟨hs0, hsN⟩ := hsB
          have HSe := Lib.hid hse
          rcases HS.out.2 with h0 | ⟨bv, ov, hav, hbv, hsv⟩
          · have := HLen.out; omega
          subst hav
          have hsl : s.toNat < vals.length := by have := HLen.out; omega
          have hcv := (HS1.out.2.2.2.2.cell (p := ⟨bv, ov + s.toNat, none⟩) hbv).trans (hsv s.toNat hsl)
          obtain ⟨q, hq⟩ : ∃ q : Nat, s = (q : Int) := ⟨s.toNat, by omega⟩
          subst hq
          rw [Int.toNat_natCast] at hcv hsl
          have hlearn := learn_inv vals ga ma na t t M (q : Int) wr HS1.out.1 HS1.out.2.1 (by omega) (by have := HLen.out; omega) HSz.out (by omega)
          rw [Int.toNat_natCast] at hlearn
          have HLearn := Lib.hid hlearn
          obtain ⟨vq, hvq⟩ : ∃ vq, vals.getD q ⟨#[]⟩ = vq := ⟨_, rfl⟩
          rw [hvq] at hcv HLearn
          have hkB1 : decide ((i : Int) < 60) = true := decide_eq_true (by omega)
          have hkB0 : decide (i < n1) = true := decide_eq_true hin
          have hqm : (q : Int) < (20) := by omega
          have hwm : IntKind.i64.wrap ((20) - 1) = 19 := by rw [IntKind.wrap_i64]; omega
          clear hs1 hz hc hlearn hvq hse hsv
          go_wp2_with (fail)
          refine (within_any z 0 (19) wr (by omega) (by omega) (by omega)).mono ?_
          rintro e w' ⟨rfl, rfl⟩
          rw [HSe.out]
          go_wp2_with (fail)
          refine HLearn.out.mono ?_
          rintro e w1 ⟨rfl, M1, na1, hna1, hL1, hI1, hg1, _, _⟩
          obtain ⟨sA, sI, sX, sB, sW⟩ := HS1.out
          have hx1 := row_kept sX hg1 (row_neM sX sA.2.1)
          have hB1 := sB.kept hg1 (fun e => neCM sB.1 sA.2.1 (Option.some.inj e)) (fun e => hmm (Option.some.inj e).symm)
          have hW1 := sW.grown hg1 sW.size (fun k hk => by cases hk; exact hma)
          have hAB1 : ga ≠ mb := neCM hL1.1 hB1.2.1
          have HL1 := Lib.hid hL1
          have HI1' := Lib.hid hI1
          have HX1 := Lib.hid hx1
          have HB1 := Lib.hid hB1
          have HW1 := Lib.hid hW1
          clear sA sI sX sB sW hL1 hI1 hg1 hx1 hB1 hW1 HLearn HS1 hcw hcv
          go_wp2_with (fail)
          refine (take_inv vals ga ma na1 t t M1 w1 HL1.out HI1'.out (by have := HLen.out; omega)).mono ?_
          rintro e w2 ⟨tv, K, d, rfl, hup, hKd, hown, hL2, hI2, hg2⟩
          obtain ⟨sa, sc, rfl, hsrc, _⟩ := own_src2 hown
          have hKl : ((vals.drop t.toNat).take K).length = K := by have := hown.1; rw [List.length_map] at this; omega
          have hx2 := row_kept HX1.out hg2 (row_neC HX1.out HL1.out.1)
          have hB2 := HB1.out.kept hg2 (fun e => hgg (Option.some.inj e).symm) (fun e => hAB1 (Option.some.inj e).symm)
          have hW2 := HW1.out.grown hg2 HW1.out.size (fun k hk => by cases hk; omega)
          have hK20 : t.toNat + K ≤ 20 := by have h1 := hI2.2.2; have h2 := HLen.out; have h3 := HI1'.out.2.2.1; omega
          have ht0 : 0 ≤ t := HI1'.out.2.2.1
          have HKl := Lib.hid hKl
          have HL2 := Lib.hid hL2
          have HI2' := Lib.hid hI2
          have HX2 := Lib.hid hx2
          have HB2 := Lib.hid hB2
          have HW2 := Lib.hid hW2
          have HSr := Lib.hid hsrc
          have hzw2 := hW2.size
          clear hup hKd hown hL2 hI2 hg2 hKl hx2 hB2 hW2 hsrc HL1 HI1' HX1 HB1 HW1
          go_wp2_with (at_builtin; refine wpList_append_any _ rfl _ _ 22 rfl 9 i0 _ 1 16 Tryz.underlying22 hi0 hz0 hz1 hz2 rfl (by omega) w.heap.size xv t.toNat ((vals.take t.toNat).map Value.string) rfl HX2.out sa K sc (((vals.drop t.toNat).take K).map Value.string) rfl ?c1a ?c2a HSr.out ?c3a ?c4a ?c5a ?_)
          case c1a => rw [List.length_map, Nat.mul_one]; exact HKl.out
          case c2a => intro u hu; obtain ⟨x, _, rfl⟩ := List.mem_map.1 hu; rfl
          case c3a => unfold maxLen; omega
          case c4a => omega
          case c5a => omega
          intro xv' wx hownx hgx hbka
          have hL3 := LogAt.kept HL2.out hgx (row_neC HX2.out HL2.out.1) (row_neM HX2.out HL2.out.2.1)
          have hB3 := LogAt.kept HB2.out hgx (row_neC HX2.out HB2.out.1) (row_neM HX2.out HB2.out.2.1)
          have hW3 := HW2.out.grown hgx HW2.out.size (fun k hk => (HX2.out.lt k hk).1)
          have hownx : wx.ownsRow w.heap.size 9 1 xv' (t.toNat + K) ((vals.take (t.toNat + K)).map Value.string) := by
            have e : (vals.take (t.toNat + K)).map Value.string = List.take t.toNat (vals.map Value.string) ++ List.take K (List.drop t.toNat (vals.map Value.string)) := by
              rw [List.map_take]
              have := take_more (vals.map Value.string) 0 t.toNat K (by omega)
              simpa using this.symm
            rw [e]
            exact hownx
          have HL3 := Lib.hid hL3
          have HB3 := Lib.hid hB3
          have HW3 := Lib.hid hW3
          have HX3 := Lib.hid hownx
          clear hL3 hB3 hW3 hgx hownx HL2 HB2 HW2 HX2 HSr HKl hzw2
          go_wp2_with (fail)
          refine (taken_any ga ma na1 t (t + K) M1 wx HL3.out).mono ?_
          rintro e w' ⟨rfl, rfl⟩
          go_wp2_with (fail)
          refine (compact_any ga ma na1 t (t + K) M1 _ HL3.out (by omega)).mono ?_
          rintro e w4 ⟨rfl, hL4, w3', hg3, hg4⟩
          have hx4 := row_kept HX3.out hg3 (row_neM HX3.out HL3.out.2.1)
          have hB4 := HB3.out.kept hg3 (fun e => neCM HB3.out.1 HL3.out.2.1 (Option.some.inj e)) (fun e => hmm (Option.some.inj e).symm)
          have hW4 := HW3.out.grown hg3 HW3.out.size (fun k hk => by cases hk; exact hma)
          have hA4 := HL3.out.1.kept hg3 (fun e => HL3.out.2.2 (Option.some.inj e))
          have hx5 := row_kept hx4 hg4 (row_neC hx4 hA4)
          have hB5 := hB4.kept hg4 (fun e => hgg (Option.some.inj e).symm) (fun e => hAB1 (Option.some.inj e).symm)
          have hW5 := hW4.grown hg4 hW4.size (fun k hk => by cases hk; omega)
          have HF := Lib.hid (show S1 w vals ga ma gb mb na1 (t + K) (cutM M1 (t + K)) xv' w4 from ⟨hL4, HI2'.out.forget, by rw [show (t + (K : Int)).toNat = t.toNat + K by omega]; exact hx5, hB5, hW5⟩)
          clear hL4 hg3 hg4 hx4 hB4 hW4 hA4 hx5 hB5 hW5 HL3 HB3 HW3 HX3 HI2'
          go_wp2_with (fail)
          go_roundw
          case rel => exact ⟨i + 1, _, na1, _, _, rfl, by simp, by omega, by omega, HF⟩
          case measure => simp [intOf]; omega
        · by_cases e1 : i < n1
          · have e1B : decide (i < n1) = true := decide_eq_true e1
            by_cases e2 : i < 60
            · have e2B : decide ((i : Int) < 60) = true := decide_eq_true (by omega)
              by_cases e3 : 0 < 20
              · exact absurd ⟨e1, e2, e3⟩ hgo
              · clear hgo
                first
                  | omega
                  | (have e3B : decide ((0 : Int) < 20) = false := decide_eq_false (by omega)
                     go_wp2_with (fail)
                     go_meet
                     exact ⟨_, na, t, M, rfl, by omega, HS1⟩)
            · have e2B : decide ((i : Int) < 60) = false := decide_eq_false (by omega)
              clear hgo
              go_wp2_with (fail)
              go_meet
              exact ⟨_, na, t, M, rfl, by omega, HS1⟩
          · have e1B : decide (i < n1) = false := decide_eq_false e1
            clear hgo
            go_wp2_with (fail)
            go_meet
            exact ⟨_, na, t, M, rfl, by omega, HS1⟩
    case rest =>
    obtain ⟨xv, na, ta, Ma, rfl, hna, HS1⟩ := hcut
    clear HA HB HBw HBa
    obtain ⟨sA, sI, sX, sB, sW⟩ := HS1.out
    have hJ512 : J ≤ 512 := by omega
    have hgb2 : w.heap.size ≤ gb := by omega
    have hmb2 : w.heap.size ≤ mb := by omega
    have hAB : ga ≠ mb := neCM sA.1 sB.2.1
    have hBA : gb ≠ ma := neCM sB.1 sA.2.1
    have HSB := Lib.hid sB
    have HJB := Lib.hid (And.intro sA (And.intro sI (And.intro sX sW)))
    clear sA sI sX sB sW HS1
    go_wp2_with (fail)
    refine (jump_any gb mb 0 J wc HSB.out ⟨hJ0, hJ512⟩).mono ?_
    rintro e w2 ⟨rfl, hB2, w2', hg1, hg2⟩
    obtain ⟨sA, sI, sX, sW⟩ := HJB.out
    have hA1 := sA.kept hg1 (fun e => hAB (Option.some.inj e)) (fun e => hmm (Option.some.inj e))
    have hx1 := row_kept sX hg1 (row_neM sX HSB.out.2.1)
    have hW1 := sW.grown hg1 sW.size (fun k hk => by cases hk; exact hmb2)
    have hA2 := hA1.kept hg2 (fun e => hgg (Option.some.inj e)) (fun e => hBA (Option.some.inj e).symm)
    have hBC1 := HSB.out.1.kept hg1 (fun e => HSB.out.2.2 (Option.some.inj e))
    have hx2 := row_kept hx1 hg2 (row_neC hx1 hBC1)
    have hW2 := hW1.grown hg2 hW1.size (fun k hk => by cases hk; exact hgb2)
    have hJI : Inv vals J J (fun _ => none) := ⟨fun j => .inl rfl, fun j h1 h2 => by omega, hJ0, by omega, by have := HLen.out; omega⟩
    have hown0 : w2.ownsRow w2.heap.size 9 1 (.slice none 0 0) (J - J).toNat (((vals.drop J.toNat).take (J - J).toNat).map Value.string) := by
      rw [show (J - J).toNat = 0 by omega]
      exact ⟨rfl, .inl ⟨rfl, rfl⟩⟩
    have HF2 := Lib.hid (show S2 w w2 vals ga ma gb mb na 0 ta J J Ma (fun _ => none) xv (.slice none 0 0) w2 from ⟨hA2, sI, hx2, hB2, hJI, hown0, hW2, Nat.le_refl _, fun q hq => (hx2.lt q hq).2⟩)
    have hzz : w.heap.size ≤ w2.heap.size := hW2.size
    clear hA1 hx1 hW1 hA2 hBC1 hx2 hW2 hJI hown0 hB2 hg1 hg2 sA sI sX sW HSB HJB
    go_upto_block 2 with (fail)
    go_cut [12] (fun yv wx => ∃ (v : Value) (nb : Nat) (tb : Int) (M : Int → Option ByteArray), v = yv ∧ nb ≤ 60 ∧ Hid (S2 w w2 vals ga ma gb mb na nb ta J tb Ma M xv v wx))
    case first =>
      as_aux_lemma =>
      go_wp2_with (fail)
      go_loopw [12, 15] (fun yv iv wr => ∃ (i : Nat) (v : Value) (nb : Nat) (tb : Int) (M : Int → Option ByteArray), v = yv ∧ iv = .int .i64 i ∧ i ≤ 60 ∧ nb ≤ i ∧ Hid (S2 w w2 vals ga ma gb mb na nb ta J tb Ma M xv v wr)) (fun _ iv _ => 60 - (intOf iv).toNat)
      case atStart => exact ⟨0, _, 0, J, _, rfl, rfl, by omega, by omega, HF2⟩
      case round =>
        obtain ⟨i, yv, nb, t, M, rfl, rfl, hi, hnb, HS1⟩ := hrel
        clear HF2
        by_cases hgo : i < n2 ∧ i < 60 ∧ 0 < 20
        · obtain ⟨hin, hi60, hN0⟩ := hgo
          rcases HI2.out.2 with h0 | ⟨b1, o1, ha1, hb1, hs1⟩
          · omega
          subst ha1
          have hil : i < l2.length := by have := HI2.out.1; omega
          have hc := hs1 i hil
          obtain ⟨z, hz⟩ : ∃ z, l2.getD i 0 = z := ⟨_, rfl⟩
          rw [hz] at hc
          have hcw := (HS1.out.2.2.2.2.2.2.1.cell (p := ⟨b1, o1 + i, none⟩) hb1).trans hc
          have hsB := inB_bd z (lo := 0) (hi := 19) (by omega)
          obtain ⟨s, hse⟩ : ∃ s, inB z 0 (19) = s := ⟨_, rfl⟩
          rw [hse] at hsB
          obtain ⟨hs0, hsN⟩ := hsB
          have HSe := Lib.hid hse
          rcases HS.out.2 with h0 | ⟨bv, ov, hav, hbv, hsv⟩
          · have := HLen.out; omega
          subst hav
          have hsl : s.toNat < vals.length := by have := HLen.out; omega
          have hcv := (HS1.out.2.2.2.2.2.2.1.cell (p := ⟨bv, ov + s.toNat, none⟩) hbv).trans (hsv s.toNat hsl)
          obtain ⟨q, hq⟩ : ∃ q : Nat, s = (q : Int) := ⟨s.toNat, by omega⟩
          subst hq
          rw [Int.toNat_natCast] at hcv hsl
          have hlearn := learn_inv vals gb mb nb J t M (q : Int) wr HS1.out.2.2.2.1 HS1.out.2.2.2.2.1 (by omega) (by have := HLen.out; omega) HSz.out (by omega)
          rw [Int.toNat_natCast] at hlearn
          have HLearn := Lib.hid hlearn
          obtain ⟨vq, hvq⟩ : ∃ vq, vals.getD q ⟨#[]⟩ = vq := ⟨_, rfl⟩
          rw [hvq] at hcv HLearn
          have hkB1 : decide ((i : Int) < 60) = true := decide_eq_true (by omega)
          have hkB0 : decide (i < n2) = true := decide_eq_true hin
          have hqm : (q : Int) < (20) := by omega
          have hwm : IntKind.i64.wrap ((20) - 1) = 19 := by rw [IntKind.wrap_i64]; omega
          clear hs1 hz hc hlearn hvq hse hsv
          go_wp2_with (fail)
          refine (within_any z 0 (19) wr (by omega) (by omega) (by omega)).mono ?_
          rintro e w' ⟨rfl, rfl⟩
          rw [HSe.out]
          go_wp2_with (fail)
          refine HLearn.out.mono ?_
          rintro e w1 ⟨rfl, M1, nb1, hnb1, hL1, hI1, hg1, _, _⟩
          obtain ⟨sA, sIA, sX, sB, sI, sY, sW, sZ, sQ⟩ := HS1.out
          have hx1 := row_kept sX hg1 (row_neM sX sB.2.1)
          have hy1 := row_kept sY hg1 (row_neM sY sB.2.1)
          have hA1 := sA.kept hg1 (fun e => hAB (Option.some.inj e)) (fun e => hmm (Option.some.inj e))
          have hW1 := sW.grown hg1 sW.size (fun k hk => by cases hk; exact hmb2)
          have hZ1 := Nat.le_trans sZ hg1.size
          have HL1 := Lib.hid hL1
          have HI1' := Lib.hid hI1
          have HX1 := Lib.hid hx1
          have HY1 := Lib.hid hy1
          have HA1 := Lib.hid (And.intro hA1 sIA)
          have HW1 := Lib.hid hW1
          have HQ := Lib.hid sQ
          clear sA sIA sX sB sI sY sW sZ sQ hL1 hI1 hg1 hx1 hy1 hA1 hW1 HLearn HS1 hcw hcv
          go_wp2_with (fail)
          refine (take_inv vals gb mb nb1 J t M1 w1 HL1.out HI1'.out (by have := HLen.out; omega)).mono ?_
          rintro e w3 ⟨tv, K, d, rfl, hup, hKd, hown, hL2, hI2, hg2⟩
          obtain ⟨sa, sc, rfl, hsrc, _⟩ := own_src2 hown
          have hKl : ((vals.drop t.toNat).take K).length = K := by have := hown.1; rw [List.length_map] at this; omega
          have hx2 := row_kept HX1.out hg2 (row_neC HX1.out HL1.out.1)
          have hy2 := row_kept HY1.out hg2 (row_neC HY1.out HL1.out.1)
          have hA2 := HA1.out.1.kept hg2 (fun e => hgg (Option.some.inj e)) (fun e => hBA (Option.some.inj e).symm)
          have hW2 := HW1.out.grown hg2 HW1.out.size (fun k hk => by cases hk; exact hgb2)
          have hZ2 := Nat.le_trans hZ1 hg2.size
          have hJt : J ≤ t := HI1'.out.2.2.2.1
          have hK20 : t.toNat + K ≤ 20 := by have h1 := hI2.2.2; have h2 := HLen.out; have h3 := HI1'.out.2.2.1; omega
          have HKl := Lib.hid hKl
          have HL2 := Lib.hid hL2
          have HI2' := Lib.hid hI2
          have HX2 := Lib.hid hx2
          have HY2 := Lib.hid hy2
          have HA2 := Lib.hid (And.intro hA2 HA1.out.2)
          have HW2 := Lib.hid hW2
          have HSr := Lib.hid hsrc
          have hzw2 := hW2.size
          clear hup hKd hown hL2 hI2 hg2 hKl hx2 hy2 hA2 hW2 hsrc HL1 HI1' HX1 HY1 HA1 HW1
          go_wp2_with (at_builtin; refine wpList_append_any _ rfl _ _ 22 rfl 9 i0 _ 1 16 Tryz.underlying22 hi0 hz0 hz1 hz2 rfl (by omega) w2.heap.size yv (t - J).toNat (((vals.drop J.toNat).take (t - J).toNat).map Value.string) rfl HY2.out sa K sc (((vals.drop t.toNat).take K).map Value.string) rfl ?c1b ?c2b HSr.out ?c3b ?c4b ?c5b ?_)
          case c1b => rw [List.length_map, Nat.mul_one]; exact HKl.out
          case c2b => intro u hu; obtain ⟨x, _, rfl⟩ := List.mem_map.1 hu; rfl
          case c3b => unfold maxLen; omega
          case c4b => omega
          case c5b => omega
          intro xv' wx hownx hgx hbkb
          have hL3 := LogAt.kept HL2.out hgx (row_neC HY2.out HL2.out.1) (row_neM HY2.out HL2.out.2.1)
          have hA3 := LogAt.kept HA2.out.1 hgx (row_neC HY2.out HA2.out.1.1) (row_neM HY2.out HA2.out.1.2.1)
          have hW3 := HW2.out.grown hgx HW2.out.size (fun k hk => Nat.le_trans (by have := hzz; omega) (HY2.out.lt k hk).1)
          have hx3 := HX2.out.kept hgx (by
            cases hxo : xv.ownBlock with
            | none => exact .inl rfl
            | some b => exact .inr (fun e => by have h1 := HQ.out b hxo; have h2 := (HY2.out.lt b e.symm).1; omega))
          have hownx : wx.ownsRow w2.heap.size 9 1 xv' ((t + (K : Int)) - J).toNat (((vals.drop J.toNat).take ((t + (K : Int)) - J).toNat).map Value.string) := by
            have e0 : ((t + (K : Int)) - J).toNat = (t - J).toNat + K := by omega
            have e : ((vals.drop J.toNat).take ((t - J).toNat + K)).map Value.string = List.take (t - J).toNat (List.drop J.toNat (vals.map Value.string)) ++ List.take K (List.drop t.toNat (vals.map Value.string)) := by
              rw [List.map_take, List.map_drop]
              have := take_more (vals.map Value.string) J.toNat t.toNat K (by omega)
              rw [show t.toNat - J.toNat = (t - J).toNat by omega] at this
              exact this.symm
            rw [e0, e]
            exact hownx
          have HF := Lib.hid (show S2 w w2 vals ga ma gb mb na nb1 ta J (t + K) Ma M1 xv xv' wx from ⟨hA3, HA2.out.2, hx3, hL3, HI2'.out, hownx, hW3, Nat.le_trans hZ2 hgx.size, HQ.out⟩)
          clear hL3 hA3 hW3 hx3 hgx hownx HL2 HA2 HW2 HX2 HY2 HSr HKl hzw2 HI2'
          go_wp2_with (fail)
          go_roundw
          case rel => exact ⟨i + 1, _, nb1, _, _, rfl, by simp, by omega, by omega, HF⟩
          case measure => simp [intOf]; omega
        · by_cases e1 : i < n2
          · have e1B : decide (i < n2) = true := decide_eq_true e1
            by_cases e2 : i < 60
            · have e2B : decide ((i : Int) < 60) = true := decide_eq_true (by omega)
              by_cases e3 : 0 < 20
              · exact absurd ⟨e1, e2, e3⟩ hgo
              · clear hgo
                first
                  | omega
                  | (have e3B : decide ((0 : Int) < 20) = false := decide_eq_false (by omega)
                     go_wp2_with (fail)
                     go_meet
                     exact ⟨_, nb, t, M, rfl, by omega, HS1⟩)
            · have e2B : decide ((i : Int) < 60) = false := decide_eq_false (by omega)
              clear hgo
              go_wp2_with (fail)
              go_meet
              exact ⟨_, nb, t, M, rfl, by omega, HS1⟩
          · have e1B : decide (i < n2) = false := decide_eq_false e1
            clear hgo
            go_wp2_with (fail)
            go_meet
            exact ⟨_, nb, t, M, rfl, by omega, HS1⟩
    case rest =>
    obtain ⟨yv, nb, tb, Mb, rfl, hnb, HS2⟩ := hcut
    clear HF2
    have HF3 := Lib.hid (show S3 w w2 vals ga ma gb mb na nb 0 ta J tb Ma Mb xv yv wc from ⟨HS2.out, fun j h1 h2 => by omega, fun j h1 h2 => by omega⟩)
    clear HS2
    go_wp2_with (fail)
    go_loopw [17] (fun iv wr => ∃ (i na' nb' : Nat) (Ma' Mb' : Int → Option ByteArray), iv = .int .i64 i ∧ i ≤ 20 ∧ na' ≤ 60 + i ∧ nb' ≤ 60 + i ∧ Hid (S3 w w2 vals ga ma gb mb na' nb' i ta J tb Ma' Mb' xv yv wr)) (fun iv _ => 20 - (intOf iv).toNat)
    case atStart => exact ⟨0, na, nb, Ma, Mb, rfl, by omega, by omega, by omega, HF3⟩
    case round =>
      obtain ⟨i, na3, nb3, M1, M2, rfl, hi, hna3, hnb3, HS3⟩ := hrel
      clear HF3
      by_cases hlt : i < 20
      · rcases HS.out.2 with h0 | ⟨bv, ov, hav, hbv, hsv⟩
        · have := HLen.out; omega
        subst hav
        have hsl : i < vals.length := by have := HLen.out; omega
        have hcv := (HS3.out.1.2.2.2.2.2.2.1.cell (p := ⟨bv, ov + i, none⟩) hbv).trans (hsv i hsl)
        obtain ⟨sA, sIA, sX, sB, sI, sY, sW, sZ, sQ⟩ := HS3.out.1
        obtain ⟨all1, all2⟩ := HS3.out.2
        have hl20 : vals.length ≤ 20 := by have := HLen.out; omega
        have hlearn := learn_inv vals ga ma na3 ta ta M1 (i : Int) wr sA sIA (by omega) hl20 HSz.out (by omega)
        rw [Int.toNat_natCast] at hlearn
        have hlearn2 := fun W h => learn_inv vals gb mb nb3 J tb M2 (i : Int) W h sI (by omega) hl20 HSz.out (by omega)
        rw [Int.toNat_natCast] at hlearn2
        obtain ⟨vq, hvq⟩ : ∃ vq, vals.getD i ⟨#[]⟩ = vq := ⟨_, rfl⟩
        rw [hvq] at hcv hlearn hlearn2
        have HLearn := Lib.hid hlearn
        have HLearn2 := Lib.hid hlearn2
        have HAll1 := Lib.hid all1
        have HAll2 := Lib.hid all2
        have HSS := Lib.hid (And.intro sA (And.intro sX (And.intro sB (And.intro sY (And.intro sW (And.intro sZ sQ))))))
        have hlB : decide (i < 20) = true := decide_eq_true hlt
        have hltI : (i : Int) < (20) := by omega
        clear hlearn hlearn2 hvq hsv sA sIA sX sB sI sY sW sZ sQ all1 all2 HS3
        go_wp2_with (fail)
        refine HLearn.out.mono ?_
        rintro e w3 ⟨rfl, M1', na4, hna4, hL1, hI1, hg1, hk1, hmo1⟩
        obtain ⟨sA, sX, sB, sY, sW, sZ, sQ⟩ := HSS.out
        have hx1 := row_kept sX hg1 (row_neM sX sA.2.1)
        have hy1 := row_kept sY hg1 (row_neM sY sA.2.1)
        have hB1 := sB.kept hg1 (fun e => hBA (Option.some.inj e)) (fun e => hmm (Option.some.inj e).symm)
        have hW1 := sW.grown hg1 sW.size (fun k hk => by cases hk; exact hma)
        have hZ1 := Nat.le_trans sZ hg1.size
        have hcv3 := (hW1.cell (p := ⟨bv, ov + i, none⟩) hbv).trans ((sW.cell (p := ⟨bv, ov + i, none⟩) hbv).symm.trans hcv)
        have HM1 := Lib.hid (show ∀ j : Int, 0 ≤ j → j < (i + 1 : Nat) → ta ≤ j → (M1' j).isSome = true from fun j h1 h2 h3 => by
          by_cases e : j = i
          · rw [e]; exact hk1 (by omega)
          · exact hmo1 j (HAll1.out j h1 (by omega) h3))
        have HLA := Lib.hid (And.intro hL1 hI1)
        have HL2 := Lib.hid (HLearn2.out w3 hB1)
        have HRR := Lib.hid (And.intro hx1 (And.intro hy1 (And.intro hW1 (And.intro hB1 sQ))))
        clear sA sX sB sY sW sZ sQ hx1 hy1 hB1 hW1 hL1 hI1 hg1 hk1 hmo1 HSS HLearn HLearn2 HAll1 hcv
        go_wp2_with (fail)
        refine HL2.out.mono ?_
        rintro e w4 ⟨rfl, M2', nb4, hnb4, hL2, hI2, hg2, hk2, hmo2⟩
        obtain ⟨hx1, hy1, hW1, hB1, sQ⟩ := HRR.out
        have hx2 := row_kept hx1 hg2 (row_neM hx1 hB1.2.1)
        have hy2 := row_kept hy1 hg2 (row_neM hy1 hB1.2.1)
        have hA2 := HLA.out.1.kept hg2 (fun e => hAB (Option.some.inj e)) (fun e => hmm (Option.some.inj e))
        have hW2 := hW1.grown hg2 hW1.size (fun k hk => by cases hk; exact hmb2)
        have HF4 := Lib.hid (show S3 w w2 vals ga ma gb mb na4 nb4 (i + 1) ta J tb M1' M2' xv yv w4 from ⟨⟨hA2, HLA.out.2, hx2, hL2, hI2, hy2, hW2, Nat.le_trans hZ1 hg2.size, sQ⟩, HM1.out, fun j h1 h2 h3 => by
          by_cases e : j = i
          · rw [e]; exact hk2 (by omega)
          · exact hmo2 j (HAll2.out j h1 (by omega) h3)⟩)
        clear hx1 hy1 hW1 hB1 sQ hx2 hy2 hA2 hW2 hL2 hI2 hg2 hk2 hmo2 HRR HL2 HLA HM1 HAll2 hcv3
        go_wp2_with (fail)
        go_roundw
        case rel => exact ⟨i + 1, na4, nb4, _, _, by simp, by omega, by omega, by omega, HF4⟩
        case measure => simp [intOf]; omega
      · obtain rfl : 20 = i := by omega
        try rw [show ((20 : Nat) : Int) = 20 from rfl]
        have hlB : decide ((20) < (20)) = false := decide_eq_false (by omega)
        obtain ⟨sA, sIA, sX, sB, sI, sY, sW, sZ, sQ⟩ := HS3.out.1
        obtain ⟨all1, all2⟩ := HS3.out.2
        have hl20 : vals.length ≤ 20 := by have := HLen.out; omega
        have hta0 : 0 ≤ ta := sIA.2.2.1
        have hJt : J ≤ tb := sI.2.2.2.1
        have hallA := fun (d : Nat) (hd : upTo M1 ta d) => sIA.all hd (fun j h1 h2 h3 => all1 j h2 (by have := HLen.out; omega) h1)
        have hallB := fun (d : Nat) (hd : upTo M2 J d) => sI.all hd (fun j h1 h2 h3 => all2 j h2 (by have := HLen.out; omega) h1)
        have HAA := Lib.hid hallA
        have HAB := Lib.hid hallB
        have HSS := Lib.hid (And.intro sA (And.intro sIA (And.intro sX (And.intro sB (And.intro sI (And.intro sY (And.intro sW (And.intro sZ sQ))))))))
        clear hallA hallB sA sIA sX sB sI sY sW sZ sQ all1 all2 HS3 hlt
        go_wp2_with (fail)
        refine (take_inv vals ga ma na3 ta ta M1 wr HSS.out.1 HSS.out.2.1 hl20).mono ?_
        rintro e w3 ⟨tv, K, d, rfl, hup, hKd, hown, hL2, hI2, hg2⟩
        obtain ⟨sA, sIA, sX, sB, sI, sY, sW, sZ, sQ⟩ := HSS.out
        obtain ⟨sa, sc, rfl, hsrc, _⟩ := own_src2 hown
        have hKl : ((vals.drop ta.toNat).take K).length = K := by have := hown.1; rw [List.length_map] at this; omega
        have hx2 := row_kept sX hg2 (row_neC sX sA.1)
        have hy2 := row_kept sY hg2 (row_neC sY sA.1)
        have hB2 := sB.kept hg2 (fun e => hgg (Option.some.inj e).symm) (fun e => hAB (Option.some.inj e).symm)
        have hW2 := sW.grown hg2 sW.size (fun k hk => by cases hk; omega)
        have hzw2 := hW2.size
        have hdN : ta + (d : Int) = 20 := by have h1 := HAA.out d hup; have h2 := HLen.out; omega
        have hK20 : ta.toNat + K = 20 := by omega
        have HK20 := Lib.hid hK20
        have hK20' : ta.toNat + K ≤ 20 := by omega
        have HKl := Lib.hid hKl
        have HUp := Lib.hid (And.intro hup hdN)
        have HL2 := Lib.hid hL2
        have HX2 := Lib.hid hx2
        have HSr := Lib.hid hsrc
        have HRR := Lib.hid (And.intro hy2 (And.intro hB2 (And.intro hW2 (And.intro sI (And.intro (Nat.le_trans sZ hg2.size) sQ)))))
        clear hup hKd hown hL2 hI2 hg2 hKl hx2 hy2 hB2 hW2 hsrc sA sIA sX sB sI sY sW sZ sQ HSS hdN hK20
        go_wp2_with (at_builtin; refine wpList_append_any _ rfl _ _ 22 rfl 9 i0 _ 1 16 Tryz.underlying22 hi0 hz0 hz1 hz2 rfl (by omega) w.heap.size xv ta.toNat ((vals.take ta.toNat).map Value.string) rfl HX2.out sa K sc (((vals.drop ta.toNat).take K).map Value.string) rfl ?c1c ?c2c HSr.out ?c3c ?c4c ?c5c ?_)
        case c1c => rw [List.length_map, Nat.mul_one]; exact HKl.out
        case c2c => intro u hu; obtain ⟨x, _, rfl⟩ := List.mem_map.1 hu; rfl
        case c3c => unfold maxLen; omega
        case c4c => omega
        case c5c => omega
        intro xv' wx hownx hgx hbkc
        have hownX : wx.ownsRow w.heap.size 9 1 xv' 20 (vals.map Value.string) := by
          have e : vals.map Value.string = List.take ta.toNat (vals.map Value.string) ++ List.take K (List.drop ta.toNat (vals.map Value.string)) := by
            have := take_more (vals.map Value.string) 0 ta.toNat K (by omega)
            have h2 : (vals.map Value.string).take (ta.toNat + K) = vals.map Value.string := List.take_of_length_le (by rw [List.length_map, HLen.out, HK20.out]; exact Nat.le_refl _)
            simp only [List.drop_zero, Nat.sub_zero] at this
            rw [h2] at this
            exact this.symm
          rw [e, ← HK20.out]
          exact hownx
        have hL3 := LogAt.kept HL2.out hgx (row_neC HX2.out HL2.out.1) (row_neM HX2.out HL2.out.2.1)
        obtain ⟨hy2, hB2, hW2, sI, sZ, sQ⟩ := HRR.out
        have hB3 := LogAt.kept hB2 hgx (row_neC HX2.out hB2.1) (row_neM HX2.out hB2.2.1)
        have hW3 := hW2.grown hgx hW2.size (fun k hk => (HX2.out.lt k hk).1)
        have hy3 := hy2.kept hgx (by
          cases hyo : yv.ownBlock with
          | none => exact .inl rfl
          | some b => exact .inr (fun e => by have h1 := sQ b e.symm; have h2 := (hy2.lt b hyo).1; omega))
        have hZ3 := Nat.le_trans sZ hgx.size
        have hbx : w2.heap.size ≤ wx.heap.size := hZ3
        have HL3 := Lib.hid hL3
        have HX3 := Lib.hid hownX
        have HRR := Lib.hid (And.intro hy3 (And.intro hB3 (And.intro hW3 sI)))
        have hxq : ∀ q, xv'.ownBlock = some q → yv.ownBlock ≠ some q := fun q h1 h2 => by
          have h3 := hy2.lt q h2
          rcases hbkc with h4 | h4
          · rw [h4] at h1
            have := sQ q h1
            omega
          · rw [h4] at h1
            have := Option.some.inj h1
            omega
        have HXQ := Lib.hid hxq
        clear hL3 hgx hownx hownX hy2 hB2 hW2 sI sZ sQ hB3 hW3 hy3 hZ3 HL2 HX2 HSr HKl hzw2 hbkc hxq
        go_wp2_with (fail)
        refine (take_inv vals gb mb nb3 J tb M2 wx HRR.out.2.1 HRR.out.2.2.2 hl20).mono ?_
        rintro e w5 ⟨tv, K2, d2, rfl, hup, hKd, hown, hL2, hI2, hg2⟩
        obtain ⟨hy3, hB3, hW3, sI⟩ := HRR.out
        obtain ⟨sa2, sc2, rfl, hsrc, _⟩ := own_src2 hown
        have hKl : ((vals.drop tb.toNat).take K2).length = K2 := by have := hown.1; rw [List.length_map] at this; omega
        have hx4 := row_kept HX3.out hg2 (row_neC HX3.out hB3.1)
        have hy4 := row_kept hy3 hg2 (row_neC hy3 hB3.1)
        have hA4 := HL3.out.kept hg2 (fun e => hgg (Option.some.inj e)) (fun e => hBA (Option.some.inj e).symm)
        have hW4 := hW3.grown hg2 hW3.size (fun k hk => by cases hk; omega)
        have hzw4 := hW4.size
        have hbx4 := Nat.le_trans hbx hg2.size
        have hdN : J + (d2 : Int) = 20 := by have h1 := HAB.out d2 hup; have h2 := HLen.out; omega
        have hK40 : (tb - J).toNat + K2 = 20 - J.toNat := by omega
        have HK40 := Lib.hid hK40
        have hK40' : (tb - J).toNat + K2 ≤ 20 := by omega
        have HKl := Lib.hid hKl
        have HUp2 := Lib.hid (And.intro hup hdN)
        have HL4 := Lib.hid hL2
        have HY4 := Lib.hid hy4
        have HSr := Lib.hid hsrc
        have HR4 := Lib.hid (And.intro hx4 (And.intro hA4 hW4))
        clear hup hKd hown hL2 hI2 hg2 hKl hx4 hy4 hA4 hW4 hsrc hy3 hB3 hW3 sI HRR HL3 HX3 hdN hK40 HAA HAB
        go_wp2_with (at_builtin; refine wpList_append_any _ rfl _ _ 22 rfl 9 i0 _ 1 16 Tryz.underlying22 hi0 hz0 hz1 hz2 rfl (by omega) w2.heap.size yv (tb - J).toNat (((vals.drop J.toNat).take (tb - J).toNat).map Value.string) rfl HY4.out sa2 K2 sc2 (((vals.drop tb.toNat).take K2).map Value.string) rfl ?c1e ?c2e HSr.out ?c3e ?c4e ?c5e ?_)
        case c1e => rw [List.length_map, Nat.mul_one]; exact HKl.out
        case c2e => intro u hu; obtain ⟨x, _, rfl⟩ := List.mem_map.1 hu; rfl
        case c3e => unfold maxLen; omega
        case c4e => omega
        case c5e => omega
        intro yv' wy hownx hgx hbke
        have hownY : wy.ownsRow w2.heap.size 9 1 yv' (20 - J.toNat) ((vals.drop J.toNat).map Value.string) := by
          have e : (vals.drop J.toNat).map Value.string = List.take (tb - J).toNat (List.drop J.toNat (vals.map Value.string)) ++ List.take K2 (List.drop tb.toNat (vals.map Value.string)) := by
            have := take_more (vals.map Value.string) J.toNat tb.toNat K2 (by omega)
            rw [show tb.toNat - J.toNat = (tb - J).toNat by omega] at this
            rw [this, HK40.out, List.map_drop]
            exact (List.take_of_length_le (by rw [List.length_drop, List.length_map, HLen.out]; exact Nat.le_refl _)).symm
          rw [e, ← HK40.out]
          exact hownx
        have hL5 := LogAt.kept HL4.out hgx (row_neC HY4.out HL4.out.1) (row_neM HY4.out HL4.out.2.1)
        obtain ⟨hx4, hA4, hW4⟩ := HR4.out
        have hA5 := LogAt.kept hA4 hgx (row_neC HY4.out hA4.1) (row_neM HY4.out hA4.2.1)
        have hW5 := hW4.grown hgx hW4.size (fun k hk => by have := (HY4.out.lt k hk).1; omega)
        have hx5 := hx4.kept hgx (by
          cases hxo : xv'.ownBlock with
          | none => exact .inl rfl
          | some b => exact .inr (fun e => HXQ.out b hxo e.symm))
        obtain ⟨xa, xc, rfl, _, hSx⟩ := own_src2 hx5
        obtain ⟨ya, yc, rfl, _, hSy⟩ := own_src2 hownY
        have HSx := Lib.hid hSx
        have HSy := Lib.hid hSy
        have HL5 := Lib.hid hL5
        have HA5 := Lib.hid hA5
        have HW5 := Lib.hid hW5
        have hcn : 20 ≤ c := by omega
        have HSv := Lib.hid (show Strs wy a 20 vals from by
          obtain ⟨_, h0 | ⟨b, o, ha, hlt, hs⟩⟩ := HS.out
          · exact ⟨HLen.out.symm, .inl (by rw [← HLen.out]; exact h0)⟩
          · exact ⟨HLen.out.symm, .inr ⟨b, o, ha, by have := hW5.size; omega, hs.below hW5 hlt⟩⟩)
        obtain ⟨jn, rfl⟩ : ∃ jn : Nat, J = (jn : Int) := ⟨J.toNat, by omega⟩
        rw [Int.toNat_natCast] at HSy ⊢
        clear hL5 hA5 hW5 hx4 hA4 hW4 hx5 hownx hownY hgx hSx hSy HL4 HY4 HSr HKl HR4 hbke HXQ hzw4 hbx4 hbx HK20 HK40 hK20' hK40'
        go_wp2_with (fail)
        refine (keepTexts_any xa a 20 xc c vals wy HSx.out HSv.out (by omega)).mono ?_
        rintro e w6 ⟨rfl, hb6⟩
        have HB6 := Lib.hid hb6
        have HSd := Lib.hid (show ∀ A : Option Addr, (20 - jn = 0 ∨ A = Option.map (fun x => x.add jn) a) → Strs w6 A (20 - jn) (vals.drop jn) from fun A hA => by
          refine ⟨by rw [List.length_drop, HLen.out], ?_⟩
          by_cases h0 : 20 - jn = 0
          · exact .inl h0
          · rcases hA with h | h
            · exact absurd h h0
            obtain ⟨_, h1 | ⟨b, o, ha, hlt, hs⟩⟩ := HSv.out
            · omega
            · refine .inr ⟨b, o + jn, by rw [h, ha]; show some (Addr.add _ jn) = _; rw [addr_plus], Nat.lt_of_lt_of_le hlt hb6.size, fun j hj => ?_⟩
              rw [List.length_drop] at hj
              have := (hb6.cell (p := ⟨b, o + (jn + j), none⟩) hlt).trans (hs (jn + j) (by omega))
              rw [show o + jn + j = o + (jn + j) by omega, this]
              simp [List.getD, List.getElem?_drop])
        have HSy6 := Lib.hid (HSy.out.below hb6)
        have hta9 : 0 ≤ ta ∧ ta + (d : Int) ≤ 100000 := ⟨hta0, by have := HUp.out.2; omega⟩
        have hjb9 : 0 ≤ (jn : Int) ∧ (jn : Int) + (d2 : Int) ≤ 100000 := ⟨by omega, by have := HUp2.out.2; omega⟩
        have HTB := Lib.hid (And.intro hta9 hjb9)
        clear hb6 hta9 hjb9
        go_wp2_with (fail)
        all_goals
          refine (keepTexts_any ya _ (20 - jn) yc _ (vals.drop jn) w6 HSy6.out (HSd.out _ (by first | exact .inr rfl | (left; omega))) (by omega)).mono ?_
          rintro e w7 ⟨rfl, hb7⟩
          have HB7 := Lib.hid (HB6.out.trans (hb7.mono HB6.out.size))
          clear hb7
          have HA7 := Lib.hid (HA5.out.below HB7.out)
          have HL7 := Lib.hid (HL5.out.below HB7.out)
          have hnx1 := next_any ga ma na3 ta (ta + K) M1 d w7 HA7.out HTB.out.1 HUp.out.1
          have hnx2 := next_any gb mb nb3 jn (tb + K2) M2 d2 w7 HL7.out HTB.out.2 HUp2.out.1
          rw [HUp.out.2] at hnx1
          rw [HUp2.out.2] at hnx2
          have HN1 := Lib.hid hnx1
          have HN2 := Lib.hid hnx2
          clear hnx1 hnx2
          go_wp2_with (fail)
          refine HN1.out.mono ?_
          rintro e w' ⟨rfl, rfl⟩
          go_wp2_with (fail)
          refine HN2.out.mono ?_
          rintro e w' ⟨rfl, rfl⟩
          go_wp2_with (fail)
          refine (awake_walk _).mono ?_
          rintro e w8 ⟨rfl, hb8⟩
          have HB9 := Lib.hid (HW5.out.trans (HB7.out.mono HW5.out.size))
          have HB8 := Lib.hid (HB9.out.trans (hb8.mono HB9.out.size))
          clear hb8
          go_wp2_with (fail)
          go_ret
          exact ⟨rfl, HB8.out⟩
  · have hl := hn1 (by omega)
    have hlB : decide ((20 : Int) < (n : Int)) = false := decide_eq_false (by omega)
    clear hn1 hn2
    have HLen := Lib.hid (show vals.length = n from hl)
    have hm20 : (n : Nat) ≤ 20 := by omega
    clear hl
    go_enter Tryz.func3, Tryz.ntmps3
    go_wp2_with (fail)
    refine (logNew_any w).mono ?_
    rintro e wa ⟨ga, ma, rfl, hA, hga, hma, hba⟩
    have HA := Lib.hid hA
    have HBa := Lib.hid hba
    have hza := hba.size
    have hgal := hA.1.lt
    have hmal := hA.2.1.lt
    clear hA hba
    go_wp2_with (fail)
    refine (logNew_any wa).mono ?_
    rintro e wb ⟨gb, mb, rfl, hB, hgb, hmb, hbb⟩
    have hA2 : LogAt wb ga ma 0 0 0 (fun _ => none) := ⟨(hbb.block ga hgal).trans HA.out.1, HA.out.2.1.kept (row := none) ⟨hbb.os, hbb.tape, hbb.output, hbb.size, fun i hi _ => hbb.block i hi⟩ (by simp), HA.out.2.2⟩
    have HA := Lib.hid hA2
    have HB := Lib.hid hB
    have HBw := Lib.hid (HBa.out.trans (hbb.mono hza))
    have hgg : ga ≠ gb := by omega
    have hmm : ma ≠ mb := by omega
    clear hA2 hB hbb
    go_wp2_with (fail)
    refine (within_any jump 0 ((n : Int)) wb (by omega) (by omega) (by omega)).mono ?_
    rintro e w' ⟨rfl, rfl⟩
    have hJ := inB_bd jump (lo := 0) (hi := ((n : Int))) (by omega)
    obtain ⟨J, hJe⟩ : ∃ J, inB jump 0 ((n : Int)) = J := ⟨_, rfl⟩
    rw [hJe] at hJ ⊢
    obtain ⟨hJ0, hJN⟩ := hJ
    clear hJe
    go_upto_block 0 with (fail)
    go_cut [11] (fun xv wx => ∃ (v : Value) (na : Nat) (t : Int) (M : Int → Option ByteArray), v = xv ∧ na ≤ 60 ∧ Hid (S1 w vals ga ma gb mb na t M v wx))
    case first =>
      as_aux_lemma =>
      go_wp2_with (fail)
      go_loopw [11, 13] (fun xv iv wr => ∃ (i : Nat) (v : Value) (na : Nat) (t : Int) (M : Int → Option ByteArray), v = xv ∧ iv = .int .i64 i ∧ i ≤ 60 ∧ na ≤ i ∧ Hid (S1 w vals ga ma gb mb na t M v wr)) (fun _ iv _ => 60 - (intOf iv).toNat)
      case atStart => exact ⟨0, _, 0, 0, _, rfl, rfl, by omega, by omega, Lib.hid ⟨HA.out, ⟨fun j => .inl rfl, fun j h1 h2 => by omega, by omega, by omega, by omega⟩, ⟨rfl, .inl ⟨rfl, rfl⟩⟩, HB.out, HBw.out⟩⟩
      case round =>
        obtain ⟨i, xv, na, t, M, rfl, rfl, hi, hna, HS1⟩ := hrel
        clear HA HB HBw HBa
        by_cases hgo : i < n1 ∧ i < 60 ∧ 0 < n
        · obtain ⟨hin, hi60, hN0⟩ := hgo
          rcases HI1.out.2 with h0 | ⟨b1, o1, ha1, hb1, hs1⟩
          · omega
          subst ha1
          have hil : i < l1.length := by have := HI1.out.1; omega
          have hc := hs1 i hil
          obtain ⟨z, hz⟩ : ∃ z, l1.getD i 0 = z := ⟨_, rfl⟩
          rw [hz] at hc
          have hcw := (HS1.out.2.2.2.2.cell (p := ⟨b1, o1 + i, none⟩) hb1).trans hc
          have hsB := inB_bd z (lo := 0) (hi := ((n : Int) - 1)) (by omega)
          obtain ⟨s, hse⟩ : ∃ s, inB z 0 (((n : Int) - 1)) = s := ⟨_, rfl⟩
          rw [hse] at hsB
          obtain ⟨hs0, hsN⟩ := hsB
          have HSe := Lib.hid hse
          rcases HS.out.2 with h0 | ⟨bv, ov, hav, hbv, hsv⟩
          · have := HLen.out; omega
          subst hav
          have hsl : s.toNat < vals.length := by have := HLen.out; omega
          have hcv := (HS1.out.2.2.2.2.cell (p := ⟨bv, ov + s.toNat, none⟩) hbv).trans (hsv s.toNat hsl)
          obtain ⟨q, hq⟩ : ∃ q : Nat, s = (q : Int) := ⟨s.toNat, by omega⟩
          subst hq
          rw [Int.toNat_natCast] at hcv hsl
          have hlearn := learn_inv vals ga ma na t t M (q : Int) wr HS1.out.1 HS1.out.2.1 (by omega) (by have := HLen.out; omega) HSz.out (by omega)
          rw [Int.toNat_natCast] at hlearn
          have HLearn := Lib.hid hlearn
          obtain ⟨vq, hvq⟩ : ∃ vq, vals.getD q ⟨#[]⟩ = vq := ⟨_, rfl⟩
          rw [hvq] at hcv HLearn
          have hkB1 : decide ((i : Int) < 60) = true := decide_eq_true (by omega)
          have hkB0 : decide (i < n1) = true := decide_eq_true hin
          have hqm : (q : Int) < ((n : Int)) := by omega
          have hwm : IntKind.i64.wrap (((n : Int)) - 1) = ((n : Int) - 1) := by rw [IntKind.wrap_i64]; omega
          clear hs1 hz hc hlearn hvq hse hsv
          go_wp2_with (fail)
          refine (within_any z 0 (((n : Int) - 1)) wr (by omega) (by omega) (by omega)).mono ?_
          rintro e w' ⟨rfl, rfl⟩
          rw [HSe.out]
          go_wp2_with (fail)
          refine HLearn.out.mono ?_
          rintro e w1 ⟨rfl, M1, na1, hna1, hL1, hI1, hg1, _, _⟩
          obtain ⟨sA, sI, sX, sB, sW⟩ := HS1.out
          have hx1 := row_kept sX hg1 (row_neM sX sA.2.1)
          have hB1 := sB.kept hg1 (fun e => neCM sB.1 sA.2.1 (Option.some.inj e)) (fun e => hmm (Option.some.inj e).symm)
          have hW1 := sW.grown hg1 sW.size (fun k hk => by cases hk; exact hma)
          have hAB1 : ga ≠ mb := neCM hL1.1 hB1.2.1
          have HL1 := Lib.hid hL1
          have HI1' := Lib.hid hI1
          have HX1 := Lib.hid hx1
          have HB1 := Lib.hid hB1
          have HW1 := Lib.hid hW1
          clear sA sI sX sB sW hL1 hI1 hg1 hx1 hB1 hW1 HLearn HS1 hcw hcv
          go_wp2_with (fail)
          refine (take_inv vals ga ma na1 t t M1 w1 HL1.out HI1'.out (by have := HLen.out; omega)).mono ?_
          rintro e w2 ⟨tv, K, d, rfl, hup, hKd, hown, hL2, hI2, hg2⟩
          obtain ⟨sa, sc, rfl, hsrc, _⟩ := own_src2 hown
          have hKl : ((vals.drop t.toNat).take K).length = K := by have := hown.1; rw [List.length_map] at this; omega
          have hx2 := row_kept HX1.out hg2 (row_neC HX1.out HL1.out.1)
          have hB2 := HB1.out.kept hg2 (fun e => hgg (Option.some.inj e).symm) (fun e => hAB1 (Option.some.inj e).symm)
          have hW2 := HW1.out.grown hg2 HW1.out.size (fun k hk => by cases hk; omega)
          have hK20 : t.toNat + K ≤ 20 := by have h1 := hI2.2.2; have h2 := HLen.out; have h3 := HI1'.out.2.2.1; omega
          have ht0 : 0 ≤ t := HI1'.out.2.2.1
          have HKl := Lib.hid hKl
          have HL2 := Lib.hid hL2
          have HI2' := Lib.hid hI2
          have HX2 := Lib.hid hx2
          have HB2 := Lib.hid hB2
          have HW2 := Lib.hid hW2
          have HSr := Lib.hid hsrc
          have hzw2 := hW2.size
          clear hup hKd hown hL2 hI2 hg2 hKl hx2 hB2 hW2 hsrc HL1 HI1' HX1 HB1 HW1
          go_wp2_with (at_builtin; refine wpList_append_any _ rfl _ _ 22 rfl 9 i0 _ 1 16 Tryz.underlying22 hi0 hz0 hz1 hz2 rfl (by omega) w.heap.size xv t.toNat ((vals.take t.toNat).map Value.string) rfl HX2.out sa K sc (((vals.drop t.toNat).take K).map Value.string) rfl ?c1a ?c2a HSr.out ?c3a ?c4a ?c5a ?_)
          case c1a => rw [List.length_map, Nat.mul_one]; exact HKl.out
          case c2a => intro u hu; obtain ⟨x, _, rfl⟩ := List.mem_map.1 hu; rfl
          case c3a => unfold maxLen; omega
          case c4a => omega
          case c5a => omega
          intro xv' wx hownx hgx hbka
          have hL3 := LogAt.kept HL2.out hgx (row_neC HX2.out HL2.out.1) (row_neM HX2.out HL2.out.2.1)
          have hB3 := LogAt.kept HB2.out hgx (row_neC HX2.out HB2.out.1) (row_neM HX2.out HB2.out.2.1)
          have hW3 := HW2.out.grown hgx HW2.out.size (fun k hk => (HX2.out.lt k hk).1)
          have hownx : wx.ownsRow w.heap.size 9 1 xv' (t.toNat + K) ((vals.take (t.toNat + K)).map Value.string) := by
            have e : (vals.take (t.toNat + K)).map Value.string = List.take t.toNat (vals.map Value.string) ++ List.take K (List.drop t.toNat (vals.map Value.string)) := by
              rw [List.map_take]
              have := take_more (vals.map Value.string) 0 t.toNat K (by omega)
              simpa using this.symm
            rw [e]
            exact hownx
          have HL3 := Lib.hid hL3
          have HB3 := Lib.hid hB3
          have HW3 := Lib.hid hW3
          have HX3 := Lib.hid hownx
          clear hL3 hB3 hW3 hgx hownx HL2 HB2 HW2 HX2 HSr HKl hzw2
          go_wp2_with (fail)
          refine (taken_any ga ma na1 t (t + K) M1 wx HL3.out).mono ?_
          rintro e w' ⟨rfl, rfl⟩
          go_wp2_with (fail)
          refine (compact_any ga ma na1 t (t + K) M1 _ HL3.out (by omega)).mono ?_
          rintro e w4 ⟨rfl, hL4, w3', hg3, hg4⟩
          have hx4 := row_kept HX3.out hg3 (row_neM HX3.out HL3.out.2.1)
          have hB4 := HB3.out.kept hg3 (fun e => neCM HB3.out.1 HL3.out.2.1 (Option.some.inj e)) (fun e => hmm (Option.some.inj e).symm)
          have hW4 := HW3.out.grown hg3 HW3.out.size (fun k hk => by cases hk; exact hma)
          have hA4 := HL3.out.1.kept hg3 (fun e => HL3.out.2.2 (Option.some.inj e))
          have hx5 := row_kept hx4 hg4 (row_neC hx4 hA4)
          have hB5 := hB4.kept hg4 (fun e => hgg (Option.some.inj e).symm) (fun e => hAB1 (Option.some.inj e).symm)
          have hW5 := hW4.grown hg4 hW4.size (fun k hk => by cases hk; omega)
          have HF := Lib.hid (show S1 w vals ga ma gb mb na1 (t + K) (cutM M1 (t + K)) xv' w4 from ⟨hL4, HI2'.out.forget, by rw [show (t + (K : Int)).toNat = t.toNat + K by omega]; exact hx5, hB5, hW5⟩)
          clear hL4 hg3 hg4 hx4 hB4 hW4 hA4 hx5 hB5 hW5 HL3 HB3 HW3 HX3 HI2'
          go_wp2_with (fail)
          go_roundw
          case rel => exact ⟨i + 1, _, na1, _, _, rfl, by simp, by omega, by omega, HF⟩
          case measure => simp [intOf]; omega
        · by_cases e1 : i < n1
          · have e1B : decide (i < n1) = true := decide_eq_true e1
            by_cases e2 : i < 60
            · have e2B : decide ((i : Int) < 60) = true := decide_eq_true (by omega)
              by_cases e3 : 0 < n
              · exact absurd ⟨e1, e2, e3⟩ hgo
              · clear hgo
                first
                  | omega
                  | (have e3B : decide ((0 : Int) < (n : Int)) = false := decide_eq_false (by omega)
                     go_wp2_with (fail)
                     go_meet
                     exact ⟨_, na, t, M, rfl, by omega, HS1⟩)
            · have e2B : decide ((i : Int) < 60) = false := decide_eq_false (by omega)
              clear hgo
              go_wp2_with (fail)
              go_meet
              exact ⟨_, na, t, M, rfl, by omega, HS1⟩
          · have e1B : decide (i < n1) = false := decide_eq_false e1
            clear hgo
            go_wp2_with (fail)
            go_meet
            exact ⟨_, na, t, M, rfl, by omega, HS1⟩
    case rest =>
    obtain ⟨xv, na, ta, Ma, rfl, hna, HS1⟩ := hcut
    clear HA HB HBw HBa
    obtain ⟨sA, sI, sX, sB, sW⟩ := HS1.out
    have hJ512 : J ≤ 512 := by omega
    have hgb2 : w.heap.size ≤ gb := by omega
    have hmb2 : w.heap.size ≤ mb := by omega
    have hAB : ga ≠ mb := neCM sA.1 sB.2.1
    have hBA : gb ≠ ma := neCM sB.1 sA.2.1
    have HSB := Lib.hid sB
    have HJB := Lib.hid (And.intro sA (And.intro sI (And.intro sX sW)))
    clear sA sI sX sB sW HS1
    go_wp2_with (fail)
    refine (jump_any gb mb 0 J wc HSB.out ⟨hJ0, hJ512⟩).mono ?_
    rintro e w2 ⟨rfl, hB2, w2', hg1, hg2⟩
    obtain ⟨sA, sI, sX, sW⟩ := HJB.out
    have hA1 := sA.kept hg1 (fun e => hAB (Option.some.inj e)) (fun e => hmm (Option.some.inj e))
    have hx1 := row_kept sX hg1 (row_neM sX HSB.out.2.1)
    have hW1 := sW.grown hg1 sW.size (fun k hk => by cases hk; exact hmb2)
    have hA2 := hA1.kept hg2 (fun e => hgg (Option.some.inj e)) (fun e => hBA (Option.some.inj e).symm)
    have hBC1 := HSB.out.1.kept hg1 (fun e => HSB.out.2.2 (Option.some.inj e))
    have hx2 := row_kept hx1 hg2 (row_neC hx1 hBC1)
    have hW2 := hW1.grown hg2 hW1.size (fun k hk => by cases hk; exact hgb2)
    have hJI : Inv vals J J (fun _ => none) := ⟨fun j => .inl rfl, fun j h1 h2 => by omega, hJ0, by omega, by have := HLen.out; omega⟩
    have hown0 : w2.ownsRow w2.heap.size 9 1 (.slice none 0 0) (J - J).toNat (((vals.drop J.toNat).take (J - J).toNat).map Value.string) := by
      rw [show (J - J).toNat = 0 by omega]
      exact ⟨rfl, .inl ⟨rfl, rfl⟩⟩
    have HF2 := Lib.hid (show S2 w w2 vals ga ma gb mb na 0 ta J J Ma (fun _ => none) xv (.slice none 0 0) w2 from ⟨hA2, sI, hx2, hB2, hJI, hown0, hW2, Nat.le_refl _, fun q hq => (hx2.lt q hq).2⟩)
    have hzz : w.heap.size ≤ w2.heap.size := hW2.size
    clear hA1 hx1 hW1 hA2 hBC1 hx2 hW2 hJI hown0 hB2 hg1 hg2 sA sI sX sW HSB HJB
    go_upto_block 2 with (fail)
    go_cut [12] (fun yv wx => ∃ (v : Value) (nb : Nat) (tb : Int) (M : Int → Option ByteArray), v = yv ∧ nb ≤ 60 ∧ Hid (S2 w w2 vals ga ma gb mb na nb ta J tb Ma M xv v wx))
    case first =>
      as_aux_lemma =>
      go_wp2_with (fail)
      go_loopw [12, 15] (fun yv iv wr => ∃ (i : Nat) (v : Value) (nb : Nat) (tb : Int) (M : Int → Option ByteArray), v = yv ∧ iv = .int .i64 i ∧ i ≤ 60 ∧ nb ≤ i ∧ Hid (S2 w w2 vals ga ma gb mb na nb ta J tb Ma M xv v wr)) (fun _ iv _ => 60 - (intOf iv).toNat)
      case atStart => exact ⟨0, _, 0, J, _, rfl, rfl, by omega, by omega, HF2⟩
      case round =>
        obtain ⟨i, yv, nb, t, M, rfl, rfl, hi, hnb, HS1⟩ := hrel
        clear HF2
        by_cases hgo : i < n2 ∧ i < 60 ∧ 0 < n
        · obtain ⟨hin, hi60, hN0⟩ := hgo
          rcases HI2.out.2 with h0 | ⟨b1, o1, ha1, hb1, hs1⟩
          · omega
          subst ha1
          have hil : i < l2.length := by have := HI2.out.1; omega
          have hc := hs1 i hil
          obtain ⟨z, hz⟩ : ∃ z, l2.getD i 0 = z := ⟨_, rfl⟩
          rw [hz] at hc
          have hcw := (HS1.out.2.2.2.2.2.2.1.cell (p := ⟨b1, o1 + i, none⟩) hb1).trans hc
          have hsB := inB_bd z (lo := 0) (hi := ((n : Int) - 1)) (by omega)
          obtain ⟨s, hse⟩ : ∃ s, inB z 0 (((n : Int) - 1)) = s := ⟨_, rfl⟩
          rw [hse] at hsB
          obtain ⟨hs0, hsN⟩ := hsB
          have HSe := Lib.hid hse
          rcases HS.out.2 with h0 | ⟨bv, ov, hav, hbv, hsv⟩
          · have := HLen.out; omega
          subst hav
          have hsl : s.toNat < vals.length := by have := HLen.out; omega
          have hcv := (HS1.out.2.2.2.2.2.2.1.cell (p := ⟨bv, ov + s.toNat, none⟩) hbv).trans (hsv s.toNat hsl)
          obtain ⟨q, hq⟩ : ∃ q : Nat, s = (q : Int) := ⟨s.toNat, by omega⟩
          subst hq
          rw [Int.toNat_natCast] at hcv hsl
          have hlearn := learn_inv vals gb mb nb J t M (q : Int) wr HS1.out.2.2.2.1 HS1.out.2.2.2.2.1 (by omega) (by have := HLen.out; omega) HSz.out (by omega)
          rw [Int.toNat_natCast] at hlearn
          have HLearn := Lib.hid hlearn
          obtain ⟨vq, hvq⟩ : ∃ vq, vals.getD q ⟨#[]⟩ = vq := ⟨_, rfl⟩
          rw [hvq] at hcv HLearn
          have hkB1 : decide ((i : Int) < 60) = true := decide_eq_true (by omega)
          have hkB0 : decide (i < n2) = true := decide_eq_true hin
          have hqm : (q : Int) < ((n : Int)) := by omega
          have hwm : IntKind.i64.wrap (((n : Int)) - 1) = ((n : Int) - 1) := by rw [IntKind.wrap_i64]; omega
          clear hs1 hz hc hlearn hvq hse hsv
          go_wp2_with (fail)
          refine (within_any z 0 (((n : Int) - 1)) wr (by omega) (by omega) (by omega)).mono ?_
          rintro e w' ⟨rfl, rfl⟩
          rw [HSe.out]
          go_wp2_with (fail)
          refine HLearn.out.mono ?_
          rintro e w1 ⟨rfl, M1, nb1, hnb1, hL1, hI1, hg1, _, _⟩
          obtain ⟨sA, sIA, sX, sB, sI, sY, sW, sZ, sQ⟩ := HS1.out
          have hx1 := row_kept sX hg1 (row_neM sX sB.2.1)
          have hy1 := row_kept sY hg1 (row_neM sY sB.2.1)
          have hA1 := sA.kept hg1 (fun e => hAB (Option.some.inj e)) (fun e => hmm (Option.some.inj e))
          have hW1 := sW.grown hg1 sW.size (fun k hk => by cases hk; exact hmb2)
          have hZ1 := Nat.le_trans sZ hg1.size
          have HL1 := Lib.hid hL1
          have HI1' := Lib.hid hI1
          have HX1 := Lib.hid hx1
          have HY1 := Lib.hid hy1
          have HA1 := Lib.hid (And.intro hA1 sIA)
          have HW1 := Lib.hid hW1
          have HQ := Lib.hid sQ
          clear sA sIA sX sB sI sY sW sZ sQ hL1 hI1 hg1 hx1 hy1 hA1 hW1 HLearn HS1 hcw hcv
          go_wp2_with (fail)
          refine (take_inv vals gb mb nb1 J t M1 w1 HL1.out HI1'.out (by have := HLen.out; omega)).mono ?_
          rintro e w3 ⟨tv, K, d, rfl, hup, hKd, hown, hL2, hI2, hg2⟩
          obtain ⟨sa, sc, rfl, hsrc, _⟩ := own_src2 hown
          have hKl : ((vals.drop t.toNat).take K).length = K := by have := hown.1; rw [List.length_map] at this; omega
          have hx2 := row_kept HX1.out hg2 (row_neC HX1.out HL1.out.1)
          have hy2 := row_kept HY1.out hg2 (row_neC HY1.out HL1.out.1)
          have hA2 := HA1.out.1.kept hg2 (fun e => hgg (Option.some.inj e)) (fun e => hBA (Option.some.inj e).symm)
          have hW2 := HW1.out.grown hg2 HW1.out.size (fun k hk => by cases hk; exact hgb2)
          have hZ2 := Nat.le_trans hZ1 hg2.size
          have hJt : J ≤ t := HI1'.out.2.2.2.1
          have hK20 : t.toNat + K ≤ 20 := by have h1 := hI2.2.2; have h2 := HLen.out; have h3 := HI1'.out.2.2.1; omega
          have HKl := Lib.hid hKl
          have HL2 := Lib.hid hL2
          have HI2' := Lib.hid hI2
          have HX2 := Lib.hid hx2
          have HY2 := Lib.hid hy2
          have HA2 := Lib.hid (And.intro hA2 HA1.out.2)
          have HW2 := Lib.hid hW2
          have HSr := Lib.hid hsrc
          have hzw2 := hW2.size
          clear hup hKd hown hL2 hI2 hg2 hKl hx2 hy2 hA2 hW2 hsrc HL1 HI1' HX1 HY1 HA1 HW1
          go_wp2_with (at_builtin; refine wpList_append_any _ rfl _ _ 22 rfl 9 i0 _ 1 16 Tryz.underlying22 hi0 hz0 hz1 hz2 rfl (by omega) w2.heap.size yv (t - J).toNat (((vals.drop J.toNat).take (t - J).toNat).map Value.string) rfl HY2.out sa K sc (((vals.drop t.toNat).take K).map Value.string) rfl ?c1b ?c2b HSr.out ?c3b ?c4b ?c5b ?_)
          case c1b => rw [List.length_map, Nat.mul_one]; exact HKl.out
          case c2b => intro u hu; obtain ⟨x, _, rfl⟩ := List.mem_map.1 hu; rfl
          case c3b => unfold maxLen; omega
          case c4b => omega
          case c5b => omega
          intro xv' wx hownx hgx hbkb
          have hL3 := LogAt.kept HL2.out hgx (row_neC HY2.out HL2.out.1) (row_neM HY2.out HL2.out.2.1)
          have hA3 := LogAt.kept HA2.out.1 hgx (row_neC HY2.out HA2.out.1.1) (row_neM HY2.out HA2.out.1.2.1)
          have hW3 := HW2.out.grown hgx HW2.out.size (fun k hk => Nat.le_trans (by have := hzz; omega) (HY2.out.lt k hk).1)
          have hx3 := HX2.out.kept hgx (by
            cases hxo : xv.ownBlock with
            | none => exact .inl rfl
            | some b => exact .inr (fun e => by have h1 := HQ.out b hxo; have h2 := (HY2.out.lt b e.symm).1; omega))
          have hownx : wx.ownsRow w2.heap.size 9 1 xv' ((t + (K : Int)) - J).toNat (((vals.drop J.toNat).take ((t + (K : Int)) - J).toNat).map Value.string) := by
            have e0 : ((t + (K : Int)) - J).toNat = (t - J).toNat + K := by omega
            have e : ((vals.drop J.toNat).take ((t - J).toNat + K)).map Value.string = List.take (t - J).toNat (List.drop J.toNat (vals.map Value.string)) ++ List.take K (List.drop t.toNat (vals.map Value.string)) := by
              rw [List.map_take, List.map_drop]
              have := take_more (vals.map Value.string) J.toNat t.toNat K (by omega)
              rw [show t.toNat - J.toNat = (t - J).toNat by omega] at this
              exact this.symm
            rw [e0, e]
            exact hownx
          have HF := Lib.hid (show S2 w w2 vals ga ma gb mb na nb1 ta J (t + K) Ma M1 xv xv' wx from ⟨hA3, HA2.out.2, hx3, hL3, HI2'.out, hownx, hW3, Nat.le_trans hZ2 hgx.size, HQ.out⟩)
          clear hL3 hA3 hW3 hx3 hgx hownx HL2 HA2 HW2 HX2 HY2 HSr HKl hzw2 HI2'
          go_wp2_with (fail)
          go_roundw
          case rel => exact ⟨i + 1, _, nb1, _, _, rfl, by simp, by omega, by omega, HF⟩
          case measure => simp [intOf]; omega
        · by_cases e1 : i < n2
          · have e1B : decide (i < n2) = true := decide_eq_true e1
            by_cases e2 : i < 60
            · have e2B : decide ((i : Int) < 60) = true := decide_eq_true (by omega)
              by_cases e3 : 0 < n
              · exact absurd ⟨e1, e2, e3⟩ hgo
              · clear hgo
                first
                  | omega
                  | (have e3B : decide ((0 : Int) < (n : Int)) = false := decide_eq_false (by omega)
                     go_wp2_with (fail)
                     go_meet
                     exact ⟨_, nb, t, M, rfl, by omega, HS1⟩)
            · have e2B : decide ((i : Int) < 60) = false := decide_eq_false (by omega)
              clear hgo
              go_wp2_with (fail)
              go_meet
              exact ⟨_, nb, t, M, rfl, by omega, HS1⟩
          · have e1B : decide (i < n2) = false := decide_eq_false e1
            clear hgo
            go_wp2_with (fail)
            go_meet
            exact ⟨_, nb, t, M, rfl, by omega, HS1⟩
    case rest =>
    obtain ⟨yv, nb, tb, Mb, rfl, hnb, HS2⟩ := hcut
    clear HF2
    have HF3 := Lib.hid (show S3 w w2 vals ga ma gb mb na nb 0 ta J tb Ma Mb xv yv wc from ⟨HS2.out, fun j h1 h2 => by omega, fun j h1 h2 => by omega⟩)
    clear HS2
    go_wp2_with (fail)
    go_loopw [17] (fun iv wr => ∃ (i na' nb' : Nat) (Ma' Mb' : Int → Option ByteArray), iv = .int .i64 i ∧ i ≤ n ∧ na' ≤ 60 + i ∧ nb' ≤ 60 + i ∧ Hid (S3 w w2 vals ga ma gb mb na' nb' i ta J tb Ma' Mb' xv yv wr)) (fun iv _ => n - (intOf iv).toNat)
    case atStart => exact ⟨0, na, nb, Ma, Mb, rfl, by omega, by omega, by omega, HF3⟩
    case round =>
      obtain ⟨i, na3, nb3, M1, M2, rfl, hi, hna3, hnb3, HS3⟩ := hrel
      clear HF3
      by_cases hlt : i < n
      · rcases HS.out.2 with h0 | ⟨bv, ov, hav, hbv, hsv⟩
        · have := HLen.out; omega
        subst hav
        have hsl : i < vals.length := by have := HLen.out; omega
        have hcv := (HS3.out.1.2.2.2.2.2.2.1.cell (p := ⟨bv, ov + i, none⟩) hbv).trans (hsv i hsl)
        obtain ⟨sA, sIA, sX, sB, sI, sY, sW, sZ, sQ⟩ := HS3.out.1
        obtain ⟨all1, all2⟩ := HS3.out.2
        have hl20 : vals.length ≤ 20 := by have := HLen.out; omega
        have hlearn := learn_inv vals ga ma na3 ta ta M1 (i : Int) wr sA sIA (by omega) hl20 HSz.out (by omega)
        rw [Int.toNat_natCast] at hlearn
        have hlearn2 := fun W h => learn_inv vals gb mb nb3 J tb M2 (i : Int) W h sI (by omega) hl20 HSz.out (by omega)
        rw [Int.toNat_natCast] at hlearn2
        obtain ⟨vq, hvq⟩ : ∃ vq, vals.getD i ⟨#[]⟩ = vq := ⟨_, rfl⟩
        rw [hvq] at hcv hlearn hlearn2
        have HLearn := Lib.hid hlearn
        have HLearn2 := Lib.hid hlearn2
        have HAll1 := Lib.hid all1
        have HAll2 := Lib.hid all2
        have HSS := Lib.hid (And.intro sA (And.intro sX (And.intro sB (And.intro sY (And.intro sW (And.intro sZ sQ))))))
        have hlB : decide (i < n) = true := decide_eq_true hlt
        have hltI : (i : Int) < ((n : Int)) := by omega
        clear hlearn hlearn2 hvq hsv sA sIA sX sB sI sY sW sZ sQ all1 all2 HS3
        go_wp2_with (fail)
        refine HLearn.out.mono ?_
        rintro e w3 ⟨rfl, M1', na4, hna4, hL1, hI1, hg1, hk1, hmo1⟩
        obtain ⟨sA, sX, sB, sY, sW, sZ, sQ⟩ := HSS.out
        have hx1 := row_kept sX hg1 (row_neM sX sA.2.1)
        have hy1 := row_kept sY hg1 (row_neM sY sA.2.1)
        have hB1 := sB.kept hg1 (fun e => hBA (Option.some.inj e)) (fun e => hmm (Option.some.inj e).symm)
        have hW1 := sW.grown hg1 sW.size (fun k hk => by cases hk; exact hma)
        have hZ1 := Nat.le_trans sZ hg1.size
        have hcv3 := (hW1.cell (p := ⟨bv, ov + i, none⟩) hbv).trans ((sW.cell (p := ⟨bv, ov + i, none⟩) hbv).symm.trans hcv)
        have HM1 := Lib.hid (show ∀ j : Int, 0 ≤ j → j < (i + 1 : Nat) → ta ≤ j → (M1' j).isSome = true from fun j h1 h2 h3 => by
          by_cases e : j = i
          · rw [e]; exact hk1 (by omega)
          · exact hmo1 j (HAll1.out j h1 (by omega) h3))
        have HLA := Lib.hid (And.intro hL1 hI1)
        have HL2 := Lib.hid (HLearn2.out w3 hB1)
        have HRR := Lib.hid (And.intro hx1 (And.intro hy1 (And.intro hW1 (And.intro hB1 sQ))))
        clear sA sX sB sY sW sZ sQ hx1 hy1 hB1 hW1 hL1 hI1 hg1 hk1 hmo1 HSS HLearn HLearn2 HAll1 hcv
        go_wp2_with (fail)
        refine HL2.out.mono ?_
        rintro e w4 ⟨rfl, M2', nb4, hnb4, hL2, hI2, hg2, hk2, hmo2⟩
        obtain ⟨hx1, hy1, hW1, hB1, sQ⟩ := HRR.out
        have hx2 := row_kept hx1 hg2 (row_neM hx1 hB1.2.1)
        have hy2 := row_kept hy1 hg2 (row_neM hy1 hB1.2.1)
        have hA2 := HLA.out.1.kept hg2 (fun e => hAB (Option.some.inj e)) (fun e => hmm (Option.some.inj e))
        have hW2 := hW1.grown hg2 hW1.size (fun k hk => by cases hk; exact hmb2)
        have HF4 := Lib.hid (show S3 w w2 vals ga ma gb mb na4 nb4 (i + 1) ta J tb M1' M2' xv yv w4 from ⟨⟨hA2, HLA.out.2, hx2, hL2, hI2, hy2, hW2, Nat.le_trans hZ1 hg2.size, sQ⟩, HM1.out, fun j h1 h2 h3 => by
          by_cases e : j = i
          · rw [e]; exact hk2 (by omega)
          · exact hmo2 j (HAll2.out j h1 (by omega) h3)⟩)
        clear hx1 hy1 hW1 hB1 sQ hx2 hy2 hA2 hW2 hL2 hI2 hg2 hk2 hmo2 HRR HL2 HLA HM1 HAll2 hcv3
        go_wp2_with (fail)
        go_roundw
        case rel => exact ⟨i + 1, na4, nb4, _, _, by simp, by omega, by omega, by omega, HF4⟩
        case measure => simp [intOf]; omega
      · obtain rfl : n = i := by omega
        try rw [show ((20 : Nat) : Int) = 20 from rfl]
        have hlB : decide (((n : Int)) < ((n : Int))) = false := decide_eq_false (by omega)
        obtain ⟨sA, sIA, sX, sB, sI, sY, sW, sZ, sQ⟩ := HS3.out.1
        obtain ⟨all1, all2⟩ := HS3.out.2
        have hl20 : vals.length ≤ 20 := by have := HLen.out; omega
        have hta0 : 0 ≤ ta := sIA.2.2.1
        have hJt : J ≤ tb := sI.2.2.2.1
        have hallA := fun (d : Nat) (hd : upTo M1 ta d) => sIA.all hd (fun j h1 h2 h3 => all1 j h2 (by have := HLen.out; omega) h1)
        have hallB := fun (d : Nat) (hd : upTo M2 J d) => sI.all hd (fun j h1 h2 h3 => all2 j h2 (by have := HLen.out; omega) h1)
        have HAA := Lib.hid hallA
        have HAB := Lib.hid hallB
        have HSS := Lib.hid (And.intro sA (And.intro sIA (And.intro sX (And.intro sB (And.intro sI (And.intro sY (And.intro sW (And.intro sZ sQ))))))))
        clear hallA hallB sA sIA sX sB sI sY sW sZ sQ all1 all2 HS3 hlt
        go_wp2_with (fail)
        refine (take_inv vals ga ma na3 ta ta M1 wr HSS.out.1 HSS.out.2.1 hl20).mono ?_
        rintro e w3 ⟨tv, K, d, rfl, hup, hKd, hown, hL2, hI2, hg2⟩
        obtain ⟨sA, sIA, sX, sB, sI, sY, sW, sZ, sQ⟩ := HSS.out
        obtain ⟨sa, sc, rfl, hsrc, _⟩ := own_src2 hown
        have hKl : ((vals.drop ta.toNat).take K).length = K := by have := hown.1; rw [List.length_map] at this; omega
        have hx2 := row_kept sX hg2 (row_neC sX sA.1)
        have hy2 := row_kept sY hg2 (row_neC sY sA.1)
        have hB2 := sB.kept hg2 (fun e => hgg (Option.some.inj e).symm) (fun e => hAB (Option.some.inj e).symm)
        have hW2 := sW.grown hg2 sW.size (fun k hk => by cases hk; omega)
        have hzw2 := hW2.size
        have hdN : ta + (d : Int) = (n : Int) := by have h1 := HAA.out d hup; have h2 := HLen.out; omega
        have hK20 : ta.toNat + K = n := by omega
        have HK20 := Lib.hid hK20
        have hK20' : ta.toNat + K ≤ 20 := by omega
        have HKl := Lib.hid hKl
        have HUp := Lib.hid (And.intro hup hdN)
        have HL2 := Lib.hid hL2
        have HX2 := Lib.hid hx2
        have HSr := Lib.hid hsrc
        have HRR := Lib.hid (And.intro hy2 (And.intro hB2 (And.intro hW2 (And.intro sI (And.intro (Nat.le_trans sZ hg2.size) sQ)))))
        clear hup hKd hown hL2 hI2 hg2 hKl hx2 hy2 hB2 hW2 hsrc sA sIA sX sB sI sY sW sZ sQ HSS hdN hK20
        go_wp2_with (at_builtin; refine wpList_append_any _ rfl _ _ 22 rfl 9 i0 _ 1 16 Tryz.underlying22 hi0 hz0 hz1 hz2 rfl (by omega) w.heap.size xv ta.toNat ((vals.take ta.toNat).map Value.string) rfl HX2.out sa K sc (((vals.drop ta.toNat).take K).map Value.string) rfl ?c1c ?c2c HSr.out ?c3c ?c4c ?c5c ?_)
        case c1c => rw [List.length_map, Nat.mul_one]; exact HKl.out
        case c2c => intro u hu; obtain ⟨x, _, rfl⟩ := List.mem_map.1 hu; rfl
        case c3c => unfold maxLen; omega
        case c4c => omega
        case c5c => omega
        intro xv' wx hownx hgx hbkc
        have hownX : wx.ownsRow w.heap.size 9 1 xv' n (vals.map Value.string) := by
          have e : vals.map Value.string = List.take ta.toNat (vals.map Value.string) ++ List.take K (List.drop ta.toNat (vals.map Value.string)) := by
            have := take_more (vals.map Value.string) 0 ta.toNat K (by omega)
            have h2 : (vals.map Value.string).take (ta.toNat + K) = vals.map Value.string := List.take_of_length_le (by rw [List.length_map, HLen.out, HK20.out]; exact Nat.le_refl _)
            simp only [List.drop_zero, Nat.sub_zero] at this
            rw [h2] at this
            exact this.symm
          rw [e, ← HK20.out]
          exact hownx
        have hL3 := LogAt.kept HL2.out hgx (row_neC HX2.out HL2.out.1) (row_neM HX2.out HL2.out.2.1)
        obtain ⟨hy2, hB2, hW2, sI, sZ, sQ⟩ := HRR.out
        have hB3 := LogAt.kept hB2 hgx (row_neC HX2.out hB2.1) (row_neM HX2.out hB2.2.1)
        have hW3 := hW2.grown hgx hW2.size (fun k hk => (HX2.out.lt k hk).1)
        have hy3 := hy2.kept hgx (by
          cases hyo : yv.ownBlock with
          | none => exact .inl rfl
          | some b => exact .inr (fun e => by have h1 := sQ b e.symm; have h2 := (hy2.lt b hyo).1; omega))
        have hZ3 := Nat.le_trans sZ hgx.size
        have hbx : w2.heap.size ≤ wx.heap.size := hZ3
        have HL3 := Lib.hid hL3
        have HX3 := Lib.hid hownX
        have HRR := Lib.hid (And.intro hy3 (And.intro hB3 (And.intro hW3 sI)))
        have hxq : ∀ q, xv'.ownBlock = some q → yv.ownBlock ≠ some q := fun q h1 h2 => by
          have h3 := hy2.lt q h2
          rcases hbkc with h4 | h4
          · rw [h4] at h1
            have := sQ q h1
            omega
          · rw [h4] at h1
            have := Option.some.inj h1
            omega
        have HXQ := Lib.hid hxq
        clear hL3 hgx hownx hownX hy2 hB2 hW2 sI sZ sQ hB3 hW3 hy3 hZ3 HL2 HX2 HSr HKl hzw2 hbkc hxq
        go_wp2_with (fail)
        refine (take_inv vals gb mb nb3 J tb M2 wx HRR.out.2.1 HRR.out.2.2.2 hl20).mono ?_
        rintro e w5 ⟨tv, K2, d2, rfl, hup, hKd, hown, hL2, hI2, hg2⟩
        obtain ⟨hy3, hB3, hW3, sI⟩ := HRR.out
        obtain ⟨sa2, sc2, rfl, hsrc, _⟩ := own_src2 hown
        have hKl : ((vals.drop tb.toNat).take K2).length = K2 := by have := hown.1; rw [List.length_map] at this; omega
        have hx4 := row_kept HX3.out hg2 (row_neC HX3.out hB3.1)
        have hy4 := row_kept hy3 hg2 (row_neC hy3 hB3.1)
        have hA4 := HL3.out.kept hg2 (fun e => hgg (Option.some.inj e)) (fun e => hBA (Option.some.inj e).symm)
        have hW4 := hW3.grown hg2 hW3.size (fun k hk => by cases hk; omega)
        have hzw4 := hW4.size
        have hbx4 := Nat.le_trans hbx hg2.size
        have hdN : J + (d2 : Int) = (n : Int) := by have h1 := HAB.out d2 hup; have h2 := HLen.out; omega
        have hK40 : (tb - J).toNat + K2 = n - J.toNat := by omega
        have HK40 := Lib.hid hK40
        have hK40' : (tb - J).toNat + K2 ≤ 20 := by omega
        have HKl := Lib.hid hKl
        have HUp2 := Lib.hid (And.intro hup hdN)
        have HL4 := Lib.hid hL2
        have HY4 := Lib.hid hy4
        have HSr := Lib.hid hsrc
        have HR4 := Lib.hid (And.intro hx4 (And.intro hA4 hW4))
        clear hup hKd hown hL2 hI2 hg2 hKl hx4 hy4 hA4 hW4 hsrc hy3 hB3 hW3 sI HRR HL3 HX3 hdN hK40 HAA HAB
        go_wp2_with (at_builtin; refine wpList_append_any _ rfl _ _ 22 rfl 9 i0 _ 1 16 Tryz.underlying22 hi0 hz0 hz1 hz2 rfl (by omega) w2.heap.size yv (tb - J).toNat (((vals.drop J.toNat).take (tb - J).toNat).map Value.string) rfl HY4.out sa2 K2 sc2 (((vals.drop tb.toNat).take K2).map Value.string) rfl ?c1e ?c2e HSr.out ?c3e ?c4e ?c5e ?_)
        case c1e => rw [List.length_map, Nat.mul_one]; exact HKl.out
        case c2e => intro u hu; obtain ⟨x, _, rfl⟩ := List.mem_map.1 hu; rfl
        case c3e => unfold maxLen; omega
        case c4e => omega
        case c5e => omega
        intro yv' wy hownx hgx hbke
        have hownY : wy.ownsRow w2.heap.size 9 1 yv' (n - J.toNat) ((vals.drop J.toNat).map Value.string) := by
          have e : (vals.drop J.toNat).map Value.string = List.take (tb - J).toNat (List.drop J.toNat (vals.map Value.string)) ++ List.take K2 (List.drop tb.toNat (vals.map Value.string)) := by
            have := take_more (vals.map Value.string) J.toNat tb.toNat K2 (by omega)
            rw [show tb.toNat - J.toNat = (tb - J).toNat by omega] at this
            rw [this, HK40.out, List.map_drop]
            exact (List.take_of_length_le (by rw [List.length_drop, List.length_map, HLen.out]; exact Nat.le_refl _)).symm
          rw [e, ← HK40.out]
          exact hownx
        have hL5 := LogAt.kept HL4.out hgx (row_neC HY4.out HL4.out.1) (row_neM HY4.out HL4.out.2.1)
        obtain ⟨hx4, hA4, hW4⟩ := HR4.out
        have hA5 := LogAt.kept hA4 hgx (row_neC HY4.out hA4.1) (row_neM HY4.out hA4.2.1)
        have hW5 := hW4.grown hgx hW4.size (fun k hk => by have := (HY4.out.lt k hk).1; omega)
        have hx5 := hx4.kept hgx (by
          cases hxo : xv'.ownBlock with
          | none => exact .inl rfl
          | some b => exact .inr (fun e => HXQ.out b hxo e.symm))
        obtain ⟨xa, xc, rfl, _, hSx⟩ := own_src2 hx5
        obtain ⟨ya, yc, rfl, _, hSy⟩ := own_src2 hownY
        have HSx := Lib.hid hSx
        have HSy := Lib.hid hSy
        have HL5 := Lib.hid hL5
        have HA5 := Lib.hid hA5
        have HW5 := Lib.hid hW5
        have hcn : n ≤ c := by omega
        have HSv := Lib.hid (show Strs wy a n vals from by
          obtain ⟨_, h0 | ⟨b, o, ha, hlt, hs⟩⟩ := HS.out
          · exact ⟨HLen.out.symm, .inl (by rw [← HLen.out]; exact h0)⟩
          · exact ⟨HLen.out.symm, .inr ⟨b, o, ha, by have := hW5.size; omega, hs.below hW5 hlt⟩⟩)
        obtain ⟨jn, rfl⟩ : ∃ jn : Nat, J = (jn : Int) := ⟨J.toNat, by omega⟩
        rw [Int.toNat_natCast] at HSy ⊢
        clear hL5 hA5 hW5 hx4 hA4 hW4 hx5 hownx hownY hgx hSx hSy HL4 HY4 HSr HKl HR4 hbke HXQ hzw4 hbx4 hbx HK20 HK40 hK20' hK40'
        go_wp2_with (fail)
        refine (keepTexts_any xa a n xc c vals wy HSx.out HSv.out (by omega)).mono ?_
        rintro e w6 ⟨rfl, hb6⟩
        have HB6 := Lib.hid hb6
        have HSd := Lib.hid (show ∀ A : Option Addr, (n - jn = 0 ∨ A = Option.map (fun x => x.add jn) a) → Strs w6 A (n - jn) (vals.drop jn) from fun A hA => by
          refine ⟨by rw [List.length_drop, HLen.out], ?_⟩
          by_cases h0 : n - jn = 0
          · exact .inl h0
          · rcases hA with h | h
            · exact absurd h h0
            obtain ⟨_, h1 | ⟨b, o, ha, hlt, hs⟩⟩ := HSv.out
            · omega
            · refine .inr ⟨b, o + jn, by rw [h, ha]; show some (Addr.add _ jn) = _; rw [addr_plus], Nat.lt_of_lt_of_le hlt hb6.size, fun j hj => ?_⟩
              rw [List.length_drop] at hj
              have := (hb6.cell (p := ⟨b, o + (jn + j), none⟩) hlt).trans (hs (jn + j) (by omega))
              rw [show o + jn + j = o + (jn + j) by omega, this]
              simp [List.getD, List.getElem?_drop])
        have HSy6 := Lib.hid (HSy.out.below hb6)
        have hta9 : 0 ≤ ta ∧ ta + (d : Int) ≤ 100000 := ⟨hta0, by have := HUp.out.2; omega⟩
        have hjb9 : 0 ≤ (jn : Int) ∧ (jn : Int) + (d2 : Int) ≤ 100000 := ⟨by omega, by have := HUp2.out.2; omega⟩
        have HTB := Lib.hid (And.intro hta9 hjb9)
        clear hb6 hta9 hjb9
        go_wp2_with (fail)
        all_goals
          refine (keepTexts_any ya _ (n - jn) yc _ (vals.drop jn) w6 HSy6.out (HSd.out _ (by first | exact .inr rfl | (left; omega))) (by omega)).mono ?_
          rintro e w7 ⟨rfl, hb7⟩
          have HB7 := Lib.hid (HB6.out.trans (hb7.mono HB6.out.size))
          clear hb7
          have HA7 := Lib.hid (HA5.out.below HB7.out)
          have HL7 := Lib.hid (HL5.out.below HB7.out)
          have hnx1 := next_any ga ma na3 ta (ta + K) M1 d w7 HA7.out HTB.out.1 HUp.out.1
          have hnx2 := next_any gb mb nb3 jn (tb + K2) M2 d2 w7 HL7.out HTB.out.2 HUp2.out.1
          rw [HUp.out.2] at hnx1
          rw [HUp2.out.2] at hnx2
          have HN1 := Lib.hid hnx1
          have HN2 := Lib.hid hnx2
          clear hnx1 hnx2
          go_wp2_with (fail)
          refine HN1.out.mono ?_
          rintro e w' ⟨rfl, rfl⟩
          go_wp2_with (fail)
          refine HN2.out.mono ?_
          rintro e w' ⟨rfl, rfl⟩
          go_wp2_with (fail)
          refine (awake_walk _).mono ?_
          rintro e w8 ⟨rfl, hb8⟩
          have HB9 := Lib.hid (HW5.out.trans (HB7.out.mono HW5.out.size))
          have HB8 := Lib.hid (HB9.out.trans (hb8.mono HB9.out.size))
          clear hb8
          go_wp2_with (fail)
          go_ret
          exact ⟨rfl, HB8.out⟩

theorem topAny_row (a : Option Addr) (n c : Nat) (l : List ByteArray) (a1 : Option Addr) (n1 c1 : Nat) (l1 : List Int) (a2 : Option Addr) (n2 c2 : Nat) (l2 : List Int) (jump : Int) (w : World)
    (hnc : n ≤ c) (hcm : c ≤ maxLen) (hS : Strs w a n l) (hsz : ∀ s ∈ l, s.size ≤ maxLen) (hI1 : Ints w a1 n1 l1) (hI2 : Ints w a2 n2 l2) (hm1 : n1 ≤ maxLen) (hm2 : n2 ≤ maxLen) :
    Calls Tryz.prog 3 #[.slice a n c, .slice a1 n1 c1, .slice a2 n2 c2, .int .i64 jump] w fun e w' => e = .returned (.bool true) ∧ Below w.heap.size w w' := by
  refine topAny_cut a n c (l.take 20) a1 n1 c1 l1 a2 n2 c2 l2 jump w (fun h => ?_) (fun h => ?_) hnc hcm ?_ (fun s hs => hsz s (List.mem_of_mem_take hs)) hI1 hI2 hm1 hm2
  · rw [List.length_take, ← hS.1]; omega
  · rw [List.length_take, ← hS.1]; omega
  · obtain ⟨hn, h⟩ := hS
    refine ⟨rfl, ?_⟩
    by_cases h0 : (l.take 20).length = 0
    · exact .inl h0
    refine .inr ?_
    rcases h with h | ⟨b, o, ha, hlt, hs⟩
    · rw [List.length_take] at h0; omega
    refine ⟨b, o, ha, hlt, fun j hj => ?_⟩
    rw [List.length_take] at hj
    rw [hs j (by omega)]
    simp only [List.getD, List.getElem?_take]
    rw [if_pos (by omega)]
#print axioms topAny_row
end Go.Proofs.YtcpmgjnlnaigbaaGreatDoor
