/- shell.reply: what a reply is told as. -/
import Derived.Test.YtekggipkfmleoaaGreatDoorEvTx
import Derived.Test.YtekggipkfmleoaaGreatDoorBd
import Derived.Lib.AppendIntMem
import Derived.WalkKit
import Derived.Deep.QuietTactic
import Derived.Deep.RegionHeld3
import Derived.BigQuiet
set_option linter.unusedVariables false
set_option linter.unusedSimpArgs false
namespace Go.Proofs.YtekggipkfmleoaaGreatDoor
open Go.RowKit Go.Ev

theorem tab_below {w w' : World} (h : Lib.TabIs Tryz.prog w tabName .u64 Lib.pow10Tab) (hb : Below w.heap.size w w') : Lib.TabIs Tryz.prog w' tabName .u64 Lib.pow10Tab := Lib.tabBelow_of_tabIs h w' hb
theorem itoa_any (n : Int) (h : in64 n) (w : World) (htab : Lib.TabIs Tryz.prog w tabName .u64 Lib.pow10Tab) :
    Calls Tryz.prog 47 #[.int .i64 n] w fun e w' => e = .returned (.string ⟨(Lib.itoa n).toArray⟩) ∧ Below w.heap.size w w' := by
  refine (Tryz.strconv_Itoa n h.1 h.2 w htab).mono ?_
  rintro e w' ⟨rfl, k, os, rfl⟩
  exact ⟨rfl, Lib.below_grow _ _ (Nat.le_refl _) _ _⟩
theorem StrsAt.below {w w' : World} {v : Value} {l : List ByteArray} (h : StrsAt w v l) (hb : Below w.heap.size w w') : StrsAt w' v l := by
  obtain ⟨a, c, rfl, h⟩ := h
  refine ⟨a, c, rfl, h.imp id ?_⟩
  rintro ⟨b, o, rfl, hlt, hs⟩
  exact ⟨b, o, rfl, Nat.lt_of_lt_of_le hlt hb.size, fun j s hj => (hb.cell (p := ⟨b, o + j, none⟩) hlt).trans (hs j s hj)⟩
def S (l : List UInt8) : ByteArray := ⟨l.toArray⟩
theorem ba_ext {a b : ByteArray} (h : a.data.toList = b.data.toList) : a = b := by
  cases a; cases b
  congr
  exact Array.toList_inj.1 h
theorem S_data (l : List UInt8) : (S l).data.toList = l := by simp [S]
theorem ret_str {a b : ByteArray} (h : a.data.toList = b.data.toList) : Ending.returned (.string a) = .returned (.string b) := by rw [ba_ext h]

theorem keptR {b : Nat} {p q : Value} {W w1 w' : World} (h : w1.cell? ⟨b, 2, none⟩ = some p ∧ w1.cell? ⟨b, 3, none⟩ = some q ∧ b < w1.heap.size ∧ Lib.TabIs Tryz.prog w1 tabName .u64 Lib.pow10Tab ∧ Below W.heap.size W w1) (hb : Below w1.heap.size w1 w') :
    w'.cell? ⟨b, 2, none⟩ = some p ∧ w'.cell? ⟨b, 3, none⟩ = some q ∧ b < w'.heap.size ∧ Lib.TabIs Tryz.prog w' tabName .u64 Lib.pow10Tab ∧ Below W.heap.size W w' :=
  ⟨(hb.cell (p := ⟨b, 2, none⟩) h.2.2.1).trans h.1, (hb.cell (p := ⟨b, 3, none⟩) h.2.2.1).trans h.2.1, Nat.lt_of_lt_of_le h.2.2.1 hb.size, tab_below h.2.2.2.1 hb, h.2.2.2.2.trans (hb.mono h.2.2.2.2.size)⟩

theorem keptR' {b : Nat} {p q : Value} {W w1 w' : World} {n : Nat} (hb : Below n w1 w') (h : w1.cell? ⟨b, 2, none⟩ = some p ∧ w1.cell? ⟨b, 3, none⟩ = some q ∧ b < w1.heap.size ∧ Lib.TabIs Tryz.prog w1 tabName .u64 Lib.pow10Tab ∧ Below W.heap.size W w1) (hn : n = w1.heap.size) :
    w'.cell? ⟨b, 2, none⟩ = some p ∧ w'.cell? ⟨b, 3, none⟩ = some q ∧ b < w'.heap.size ∧ Lib.TabIs Tryz.prog w' tabName .u64 Lib.pow10Tab ∧ Below W.heap.size W w' := by
  subst hn
  exact keptR h hb
theorem below_S {w W : World} {p q r s : Prop} (h : p ∧ q ∧ r ∧ s ∧ Below W.heap.size W w) : Below W.heap.size W w := h.2.2.2.2
theorem size_of {s : ByteArray} {l : List UInt8} (h : s.data.toList = l) : s.size = l.length := by
  subst h
  rw [Array.length_toList]
  rfl
theorem nDigits_le : ∀ (k u : Nat), u < 10 ^ (k + 1) → Lib.nDigits u ≤ k + 1
  | 0, u, h => by rw [Lib.nDigits_small (by simpa using h)]; exact Nat.le_refl _
  | k + 1, u, h => by
    by_cases h9 : u < 10
    · rw [Lib.nDigits_small h9]; omega
    · rw [Lib.nDigits_big h9]
      have := nDigits_le k (u / 10) (by rw [Nat.pow_succ] at h; omega)
      omega
theorem itoa_len {n : Int} (h : in64 n) : (Lib.itoa n).length ≤ 21 := by
  obtain ⟨h1, h2⟩ := h
  cases n with
  | ofNat m =>
    have : Lib.itoa (Int.ofNat m) = Lib.decDigits m := Lib.itoa_nonneg m
    rw [this, Lib.decDigits_length]
    have := nDigits_le 19 m (by simp at h2; omega)
    omega
  | negSucc m =>
    have : Lib.itoa (Int.negSucc m) = 45 :: Lib.decDigits (m + 1) := Lib.itoa_neg (m + 1) (by omega)
    rw [this, List.length_cons, Lib.decDigits_length]
    have := nDigits_le 19 (m + 1) (by omega)
    omega
theorem itoa_s (n : Int) (h : in64 n) (w : World) (htab : Lib.TabIs Tryz.prog w tabName .u64 Lib.pow10Tab) :
    Calls Tryz.prog 47 #[.int .i64 n] w fun e w' => (∃ s : ByteArray, e = .returned (.string s) ∧ s.data.toList = Lib.itoa n) ∧ Below w.heap.size w w' := by
  refine (itoa_any n h w htab).mono ?_
  rintro e w' ⟨rfl, hb⟩
  exact ⟨⟨_, rfl, by simp⟩, hb⟩
theorem itoa_S {n : Int} (h : in64 n) {w : World} {p q r s : Prop} (hS : p ∧ q ∧ r ∧ Lib.TabIs Tryz.prog w tabName .u64 Lib.pow10Tab ∧ s) :
    Calls Tryz.prog 47 #[.int .i64 n] w fun e w' => (∃ s : ByteArray, e = .returned (.string s) ∧ s.data.toList = Lib.itoa n ∧ s.size ≤ 21) ∧ Below w.heap.size w w' := by
  refine (itoa_s n h w hS.2.2.2.1).mono ?_
  rintro e w' ⟨⟨s, rfl, hs⟩, hb⟩
  exact ⟨⟨s, rfl, hs, by rw [size_of hs]; exact itoa_len h⟩, hb⟩
theorem S_size (l : List UInt8) : (S l).size = l.length := by simp [S, ByteArray.size]
theorem textsT_le (l : List ByteArray) : l.length ≤ (textsT l).length := by
  unfold textsT
  induction l with
  | nil => exact Nat.le_refl _
  | cons s r ih =>
    rw [List.flatMap_cons, List.length_append, List.length_cons]
    simp only [List.length_cons]
    omega
theorem textsT_at {l : List ByteArray} {k : Nat} {p : ByteArray} (h : l[k]? = some p) : (textsT (l.take k)).length + (p.size + 3) ≤ (textsT l).length := by
  obtain ⟨hk, hp⟩ := List.getElem?_eq_some_iff.1 h
  have e : l = l.take k ++ p :: l.drop (k + 1) := by
    rw [← hp]
    have : l[k] :: l.drop (k + 1) = l.drop k := List.getElem_cons_drop hk
    rw [this, List.take_append_drop]
  have : (textsT l).length = (textsT (l.take k)).length + ((p.size + 3) + (textsT (l.drop (k + 1))).length) := by
    conv => lhs; rw [e]
    unfold textsT
    rw [List.flatMap_append, List.length_append, List.flatMap_cons, List.length_append]
    simp only [List.length_cons, List.length_append, List.length_nil, Array.length_toList, ByteArray.size]
  omega

set_option maxHeartbeats 4000000 in
set_option maxRecDepth 100000 in
theorem reply_any (x : EvT) (v : Value) (w : World) (hS : StrsAt w v x.texts) (hp : in64 x.place) (hy : in64 x.why) (htab : Lib.TabIs Tryz.prog w tabName .u64 Lib.pow10Tab) (hsz : (replyT x).length ≤ 1099511627776) :
    Calls Tryz.prog 49 #[.agg #[.int .i64 x.out, v, .int .i64 x.place, .int .i64 x.why]] w fun e w' => e = .returned (.string (S (replyT x))) ∧ Below w.heap.size w w' := by
  have hb0 : ∀ o, Below w.heap.size w (w.alloc o) := fun o => (Below.refl _ _).alloc (Nat.le_refl _) o
  by_cases h1 : x.out = 1
  · obtain ⟨a, c, rfl, hS⟩ := hS
    have HB := Lib.hid hb0; clear hb0
    have hfin : replyT x = cComm ++ textsT x.texts := by unfold replyT; rw [if_pos h1]
    have hlen : x.texts.length ≤ 1099511627776 := by
      have := textsT_le x.texts
      rw [hfin, List.length_append] at hsz
      omega
    go_enter Tryz.func49, Tryz.ntmps49
    go_wp2_with (fail)
    go_loopw [3, 13] (fun out i wr => ∃ k : Nat, i = .int .i64 k ∧ k ≤ x.texts.length ∧ out = .string (S (cComm ++ textsT (x.texts.take k))) ∧ wr = w.alloc (.cells #[.int .i64 1, .slice a x.texts.length c, .int .i64 x.place, .int .i64 x.why] 66))
      (fun _ i _ => (x.texts.length - (intOf i).toNat))
    case atStart => exact ⟨0, rfl, by omega, rfl, rfl⟩
    case round =>
      obtain ⟨k, rfl, hk, rfl, rfl⟩ := hrel
      by_cases hlt : k < x.texts.length
      · have hp : ∃ p, x.texts[k]? = some p := ⟨_, List.getElem?_eq_getElem hlt⟩
        obtain ⟨p, hp⟩ := hp
        rcases hS with h0 | ⟨b, o, rfl, hb, hs⟩
        · omega
        have hz1 := textsT_at hp
        have hz2 : (S (cComm ++ textsT (x.texts.take k))).size + (2 + p.size + 1) ≤ 1099511627776 := by
          rw [S_size, List.length_append]
          rw [hfin, List.length_append] at hsz
          omega
        have hc := ((HB.out (.cells #[.int .i64 1, .slice (some ⟨b, o, none⟩) x.texts.length c, .int .i64 x.place, .int .i64 x.why] 66)).cell (p := ⟨b, o + k, none⟩) hb).trans (hs k p hp)
        go_wp2_with (fail)
        go_roundw
        case rel =>
          refine ⟨k + 1, by simp, by omega, ?_, trivial⟩
          congr 1
          apply ba_ext
          rw [S_data, List.take_add_one, hp]
          simp [textsT, S, List.flatMap_append]
        case measure => simp [intOf]; omega
      · go_wp2_with (fail)
        go_ret
        have : k = x.texts.length := by omega
        subst this
        refine ⟨?_, HB.out _⟩
        simp only [hfin, List.take_length]
        rfl
  have HB := Lib.hid hb0; clear hb0
  by_cases h2 : x.out = 2
  · have hfin : replyT x = cAbort := by unfold replyT; rw [if_neg h1, if_pos h2]
    go_enter Tryz.func49, Tryz.ntmps49
    go_wp2_with (fail)
    go_ret
    exact ⟨by rw [hfin]; rfl, HB.out _⟩
  by_cases h3 : x.out = 3
  · have hfin : replyT x = cRej ++ (Lib.itoa x.place ++ (32 :: Lib.itoa x.why)) := by unfold replyT; rw [if_neg h1, if_neg h2, if_pos h3]
    go_enter Tryz.func49, Tryz.ntmps49
    go_wp2_with (fail)
    have hS0 : (w.alloc (.cells #[.int .i64 3, v, .int .i64 x.place, .int .i64 x.why] 66)).cell? ⟨w.heap.size, 2, none⟩ = some (.int .i64 x.place) ∧ (w.alloc (.cells #[.int .i64 3, v, .int .i64 x.place, .int .i64 x.why] 66)).cell? ⟨w.heap.size, 3, none⟩ = some (.int .i64 x.why) ∧ w.heap.size < (w.alloc (.cells #[.int .i64 3, v, .int .i64 x.place, .int .i64 x.why] 66)).heap.size ∧
        Lib.TabIs Tryz.prog (w.alloc (.cells #[.int .i64 3, v, .int .i64 x.place, .int .i64 x.why] 66)) tabName .u64 Lib.pow10Tab ∧ Below w.heap.size w (w.alloc (.cells #[.int .i64 3, v, .int .i64 x.place, .int .i64 x.why] 66)) :=
      ⟨by simp, by simp, by simp, tab_below htab (HB.out _), HB.out _⟩
    clear htab
    generalize w.alloc (.cells #[.int .i64 3, v, .int .i64 x.place, .int .i64 x.why] 66) = X at *
    go_region_held3 (fun w' => w'.cell? ⟨w.heap.size, 2, none⟩ = some (.int .i64 x.place) ∧ w'.cell? ⟨w.heap.size, 3, none⟩ = some (.int .i64 x.why) ∧ w.heap.size < w'.heap.size ∧ Lib.TabIs Tryz.prog w' tabName .u64 Lib.pow10Tab ∧ Below w.heap.size w w')
      (first | assumption | exact keptR' hb2 (by assumption) rfl | exact keptR' hb1 (by assumption) rfl | exact ⟨hS0.1, hS0.2.1, hS0.2.2.1, hS0.2.2.2.1, hS0.2.2.2.2.drew⟩ | fail)
      (first
        | (go_at_call_of 47 x.place; refine (itoa_S hp (by assumption)).mono ?_; rintro e w' ⟨⟨s1, rfl, hs1, hl1⟩, hb1⟩; have hq1 : ¬ 9223372036854775807 < 10 + s1.size := (by omega); have hq2 : ¬ 9223372036854775807 < 10 + s1.size + 1 := (by omega))
        | (go_at_call_of 47 x.why; refine (itoa_S hy (by assumption)).mono ?_; rintro e w' ⟨⟨s2, rfl, hs2, hl2⟩, hb2⟩; have hq3 : ¬ 9223372036854775807 < 10 + s1.size + 1 + s2.size := (by omega)))
    all_goals
      go_wp2_with (fail)
      go_ret
      refine ⟨?_, below_S (by assumption)⟩
      rw [hfin]
      refine ret_str ?_
      rw [S_data]
      simp [cRej, ByteArray.data_append, hs1, hs2]
  · have hfin : replyT x = [] := by unfold replyT; rw [if_neg h1, if_neg h2, if_neg h3]
    go_enter Tryz.func49, Tryz.ntmps49
    go_wp2_with (fail)
    go_ret
    exact ⟨by rw [hfin]; rfl, HB.out _⟩
end Go.Proofs.YtekggipkfmleoaaGreatDoor
