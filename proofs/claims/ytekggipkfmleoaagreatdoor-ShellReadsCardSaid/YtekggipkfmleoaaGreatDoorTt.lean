/- shell.Text: what events are told as. -/
import Derived.Test.YtekggipkfmleoaaGreatDoorTr
import Derived.Lib.AppendIntMem
import Derived.WalkKit
import Derived.Deep.QuietTactic
import Derived.Deep.RegionHeld3
import Derived.BigQuiet
set_option linter.unusedVariables false
set_option linter.unusedSimpArgs false
namespace Go.Proofs.YtekggipkfmleoaaGreatDoor
open Go.RowKit Go.Ev

theorem textT_at {l : List EvT} {k : Nat} {p : EvT} (h : l[k]? = some p) : textT (l.take (k + 1)) = textT (l.take k) ++ lineT p := by
  rw [List.take_add_one, h]
  simp [textT]
theorem textT_le {l : List EvT} {k : Nat} {p : EvT} (h : l[k]? = some p) : (textT (l.take k)).length + (lineT p).length ≤ (textT l).length := by
  obtain ⟨hk, hp⟩ := List.getElem?_eq_some_iff.1 h
  have e : l = l.take k ++ p :: l.drop (k + 1) := by
    rw [← hp]
    have : l[k] :: l.drop (k + 1) = l.drop k := List.getElem_cons_drop hk
    rw [this, List.take_append_drop]
  have : (textT l).length = (textT (l.take k)).length + ((lineT p).length + (textT (l.drop (k + 1))).length) := by
    conv => lhs; rw [e]
    unfold textT
    rw [List.flatMap_append, List.length_append, List.flatMap_cons, List.length_append]
  omega
theorem strCells_of {s : ByteArray} {l : List UInt8} (h : s.data.toList = l) : Lib.strCells s = Lib.byteCells l := by
  subst h
  rfl
theorem byteCells_two (a b : List UInt8) : Lib.byteCells a ++ Lib.byteCells b = Lib.byteCells (a ++ b) := by simp [Lib.byteCells]
theorem ownsRow_below {W W' : World} {B : Nat} {e : TypeId} {size n : Nat} {v : Value} {xs : List Value} (h : W.ownsRow B e size v n xs) (hb : Below W.heap.size W W') : W'.ownsRow B e size v n xs := by
  obtain ⟨hl, h0 | ⟨g, cap, cur, hv, hbg, hh, r⟩⟩ := h
  · exact ⟨hl, .inl h0⟩
  · have hg : g < W.heap.size := (Array.getElem?_eq_some_iff.1 hh).1
    exact ⟨hl, .inr ⟨g, cap, cur, hv, hbg, (hb.block g hg).trans hh, r⟩⟩
theorem builderAt_below {T e : TypeId} {B b : Nat} {p : Value} {bs : List Value} {W W' : World} (h : Lib.BuilderAt T e B b p bs W) (hb : Below W.heap.size W W') : Lib.BuilderAt T e B b p bs W' := by
  obtain ⟨hB, v, hbk, hown, hne⟩ := h
  have hlt : b < W.heap.size := (Array.getElem?_eq_some_iff.1 hbk).1
  exact ⟨hB, v, (hb.block b hlt).trans hbk, ownsRow_below hown hb, hne⟩
theorem isBuilder_below {T e : TypeId} {B b : Nat} {bs : List Value} {W W' : World} (h : Lib.IsBuilder T e B b bs W) (hb : Below W.heap.size W W') : Lib.IsBuilder T e B b bs W' :=
  h.imp (fun h => builderAt_below h hb) (fun h => builderAt_below h hb)
theorem reply_s (x : EvT) (v : Value) (w : World) (hS : StrsAt w v x.texts) (hp : in64 x.place) (hy : in64 x.why) (htab : Lib.TabIs Tryz.prog w tabName .u64 Lib.pow10Tab) (hsz : (replyT x).length ≤ 1099511627776) :
    Calls Tryz.prog 49 #[.agg #[.int .i64 x.out, v, .int .i64 x.place, .int .i64 x.why]] w fun e w' => (∃ s : ByteArray, e = .returned (.string s) ∧ s.data.toList = replyT x) ∧ Below w.heap.size w w' := by
  refine (reply_any x v w hS hp hy htab hsz).mono ?_
  rintro e w' ⟨rfl, hb⟩
  exact ⟨⟨_, rfl, S_data _⟩, hb⟩
theorem below_step {w X Y : World} (h : Below w.heap.size w X) (hb : Below X.heap.size X Y) : Below w.heap.size w Y := h.trans (hb.mono h.size)

set_option maxHeartbeats 4000000 in
set_option maxRecDepth 100000 in
theorem text_any (v : Value) (l : List EvT) (w : World) (hE : EvtsAt w v l) (htab : Lib.TabIs Tryz.prog w tabName .u64 Lib.pow10Tab) (hsz : (textT l).length ≤ 1099511627776) (hlen : l.length ≤ 1099511627776) :
    Calls Tryz.prog 29 #[v] w fun e w' => e = .returned (.string (S (textT l))) ∧ Below w.heap.size w w' := by
  obtain ⟨a, c, rfl, hE⟩ := hE
  have HE := Lib.hid hE; clear hE
  have HTab := Lib.hid htab; clear htab
  go_enter Tryz.func29, Tryz.ntmps29
  go_wp2_with (fail)
  go_loopw [9] (fun i wr => ∃ k : Nat, i = .int .i64 k ∧ k ≤ l.length ∧ Lib.IsBuilder 99 5 w.heap.size w.heap.size (Lib.byteCells (textT (l.take k))) wr ∧ Below w.heap.size w wr)
    (fun i _ => (l.length - (intOf i).toNat))
  case atStart =>
    exact ⟨0, rfl, by omega, Lib.fresh_isBuilder _ _ _, (Below.refl _ _).alloc (Nat.le_refl _) _⟩
  case round =>
    obtain ⟨k, rfl, hk, hbd, hbw⟩ := hrel
    by_cases hlt : k < l.length
    · have hp : ∃ p, l[k]? = some p := ⟨_, List.getElem?_eq_getElem hlt⟩
      obtain ⟨x, hp⟩ := hp
      rcases HE.out with h0 | ⟨b, o, rfl, hb, hs⟩
      · omega
      obtain ⟨d0, d1, ⟨po, no, co, d2⟩, d3, ⟨vt, d4, pt, ct, rfl, d7⟩, d5, d6, i1, i2, i3⟩ := hs k x hp
      have c0 := (hbw.cell (p := ⟨b, o + k * 7, none⟩) hb).trans d0
      have c1 := (hbw.cell (p := ⟨b, o + k * 7 + 1, none⟩) hb).trans d1
      have c2 := (hbw.cell (p := ⟨b, o + k * 7 + 2, none⟩) hb).trans d2
      have c3 := (hbw.cell (p := ⟨b, o + k * 7 + 3, none⟩) hb).trans d3
      have c4 := (hbw.cell (p := ⟨b, o + k * 7 + 4, none⟩) hb).trans d4
      have c5 := (hbw.cell (p := ⟨b, o + k * 7 + 5, none⟩) hb).trans d5
      have c6 := (hbw.cell (p := ⟨b, o + k * 7 + 6, none⟩) hb).trans d6
      have hz1 := textT_le hp
      have H7 := Lib.hid d7
      have HI := Lib.hid (And.intro i1 (And.intro i2 i3))
      have HBd := Lib.hid hbd; clear hbd
      have HS := Lib.hid hs
      clear hs d0 d1 d2 d3 d4 d5 d6 d7 i1 i2 i3
      go_wp2_with (fail)
      have hX1 : Below wr.heap.size wr (wr.alloc (.cells #[.int .i64 x.kind, .int .i64 x.who, .slice po no co, .int .i64 x.out, .slice pt x.texts.length ct, .int .i64 x.place, .int .i64 x.why] 68)) := (Below.refl _ _).alloc (Nat.le_refl _) _
      have hXs : wr.heap.size < (wr.alloc (.cells #[.int .i64 x.kind, .int .i64 x.who, .slice po no co, .int .i64 x.out, .slice pt x.texts.length ct, .int .i64 x.place, .int .i64 x.why] 68)).heap.size := by simp
      have hXb : (wr.alloc (.cells #[.int .i64 x.kind, .int .i64 x.who, .slice po no co, .int .i64 x.out, .slice pt x.texts.length ct, .int .i64 x.place, .int .i64 x.why] 68)).heap[wr.heap.size]? = some (.cells #[.int .i64 x.kind, .int .i64 x.who, .slice po no co, .int .i64 x.out, .slice pt x.texts.length ct, .int .i64 x.place, .int .i64 x.why] 68) := heap_alloc_new wr _
      generalize wr.alloc (.cells #[.int .i64 x.kind, .int .i64 x.who, .slice po no co, .int .i64 x.out, .slice pt x.texts.length ct, .int .i64 x.place, .int .i64 x.why] 68) = X at *
      have hbX := below_step hbw hX1
      refine (itoa_s x.who HI.out.1 X (tab_below HTab.out hbX)).mono ?_
      rintro e Y ⟨⟨s, rfl, hs⟩, hbY⟩
      have hwY := below_step hbX hbY
      have hsz2 : s.size ≤ 21 := by
        rw [size_of hs]
        exact itoa_len HI.out.1
      have hYb := (hbY.block _ hXs).trans hXb
      have e0 : Y.cell? ⟨wr.heap.size, 0, none⟩ = some (.int .i64 x.kind) := by rw [Lib.cell_of_heap hYb]; rfl
      have e3 : Y.cell? ⟨wr.heap.size, 3, none⟩ = some (.int .i64 x.out) := by rw [Lib.cell_of_heap hYb]; rfl
      have e4 : Y.cell? ⟨wr.heap.size, 4, none⟩ = some (.slice pt x.texts.length ct) := by rw [Lib.cell_of_heap hYb]; rfl
      have e5 : Y.cell? ⟨wr.heap.size, 5, none⟩ = some (.int .i64 x.place) := by rw [Lib.cell_of_heap hYb]; rfl
      have e6 : Y.cell? ⟨wr.heap.size, 6, none⟩ = some (.int .i64 x.why) := by rw [Lib.cell_of_heap hYb]; rfl
      have HBY := Lib.hid (isBuilder_below (isBuilder_below HBd.out hX1) hbY)
      clear c0 c1 c2 c3 c4 c5 c6 hXb hYb
      by_cases h1 : x.kind = 1
      · have hfin : lineT x = cCall ++ (Lib.itoa x.who ++ [10]) := by unfold lineT; rw [if_pos h1]
        go_wp2_with (fail)
        have hs' : (ByteArray.mk #[99, 97, 108, 108, 32] ++ s ++ ByteArray.mk #[10]).data.toList = lineT x := by
          rw [hfin]
          simp [ByteArray.data_append, hs, cCall]
        refine (writeString_any w.heap.size w.heap.size (Lib.byteCells (textT (l.take k))) (ByteArray.mk #[99, 97, 108, 108, 32] ++ s ++ ByteArray.mk #[10]) Y HBY.out (by rw [Lib.byteCells_length, size_of hs']; omega) hwY.size).mono ?_
        rintro e Z ⟨rfl, hZ, hbZ⟩
        go_wp2_with (fail)
        go_roundw
        case rel =>
          refine ⟨k + 1, by simp, by omega, .inr ?_, hwY.trans hbZ⟩
          rw [textT_at hp, Lib.byteCells_append, ← strCells_of hs']
          exact hZ
        case measure => simp [intOf]; omega
      by_cases h2 : x.kind = 2
      · have hfin : lineT x = cDone ++ (Lib.itoa x.who ++ (replyT x ++ [10])) := by unfold lineT; rw [if_neg h1, if_pos h2]
        have hrz : (replyT x).length + 6 ≤ (lineT x).length := by
          rw [hfin]
          simp only [List.length_append, List.length_cons, List.length_nil, cDone]
          omega
        go_wp2_with (fail)
        have hSt : StrsAt Y (.slice pt x.texts.length ct) x.texts := StrsAt.below ⟨pt, ct, rfl, H7.out⟩ hwY
        refine (reply_s x _ Y hSt HI.out.2.1 HI.out.2.2 (tab_below HTab.out hwY) (by omega)).mono ?_
        rintro e Y2 ⟨⟨r, rfl, hr⟩, hbY2⟩
        have hwY2 := below_step hwY hbY2
        have HB2 := Lib.hid (isBuilder_below HBY.out hbY2)
        have hsz3 : r.size ≤ 1099511627776 := by rw [size_of hr]; omega
        clear e0 e3 e4 e5 e6
        go_wp2_with (fail)
        have hs' : (ByteArray.mk #[100, 111, 110, 101, 32] ++ s ++ r ++ ByteArray.mk #[10]).data.toList = lineT x := by
          rw [hfin]
          simp [ByteArray.data_append, hs, hr, cDone]
        refine (writeString_any w.heap.size w.heap.size (Lib.byteCells (textT (l.take k))) (ByteArray.mk #[100, 111, 110, 101, 32] ++ s ++ r ++ ByteArray.mk #[10]) Y2 HB2.out (by rw [Lib.byteCells_length, size_of hs']; omega) hwY2.size).mono ?_
        rintro e Z ⟨rfl, hZ, hbZ⟩
        go_wp2_with (fail)
        go_roundw
        case rel =>
          refine ⟨k + 1, by simp, by omega, .inr ?_, hwY2.trans hbZ⟩
          rw [textT_at hp, Lib.byteCells_append, ← strCells_of hs']
          exact hZ
        case measure => simp [intOf]; omega
      by_cases h3 : x.kind = 3
      · have hfin : lineT x = cBusy ++ (Lib.itoa x.who ++ [10]) := by unfold lineT; rw [if_neg h1, if_neg h2, if_pos h3]
        go_wp2_with (fail)
        have hs' : (ByteArray.mk #[98, 117, 115, 121, 32] ++ s ++ ByteArray.mk #[10]).data.toList = lineT x := by
          rw [hfin]
          simp [ByteArray.data_append, hs, cBusy]
        refine (writeString_any w.heap.size w.heap.size (Lib.byteCells (textT (l.take k))) (ByteArray.mk #[98, 117, 115, 121, 32] ++ s ++ ByteArray.mk #[10]) Y HBY.out (by rw [Lib.byteCells_length, size_of hs']; omega) hwY.size).mono ?_
        rintro e Z ⟨rfl, hZ, hbZ⟩
        go_wp2_with (fail)
        go_roundw
        case rel =>
          refine ⟨k + 1, by simp, by omega, .inr ?_, hwY.trans hbZ⟩
          rw [textT_at hp, Lib.byteCells_append, ← strCells_of hs']
          exact hZ
        case measure => simp [intOf]; omega
      · have hfin : lineT x = [] := by unfold lineT; rw [if_neg h1, if_neg h2, if_neg h3]
        go_wp2_with (fail)
        go_roundw
        case rel =>
          refine ⟨k + 1, by simp, by omega, ?_, hwY⟩
          rw [textT_at hp, hfin, List.append_nil]
          exact HBY.out
        case measure => simp [intOf]; omega
    · have hkl : k = l.length := by omega
      subst hkl
      rw [List.take_length] at hbd
      go_wp2_with (fail)
      refine (Tryz.Builder_String_any w.heap.size w.heap.size (textT l) wr hbd hbw.size).mono ?_
      rintro e w' ⟨rfl, hb⟩
      go_wp2_with (fail)
      go_ret
      exact ⟨rfl, hbw.trans hb⟩
theorem textOk : TextOk Tryz.prog 29 :=
  ⟨⟨_, _, Tryz.func29, by kernel_rfl, rfl⟩, fun v l w h1 h2 h3 h4 => text_any v l w h1 h2 h3 h4⟩
theorem tab_global : Tryz.prog.globalNamed tabName = some 0 := by kernel_rfl
#print axioms textOk
end Go.Proofs.YtekggipkfmleoaaGreatDoor
