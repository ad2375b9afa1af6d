/- Events that came in, opened for the walk; what the bound on what comes in gives of their text. -/
import Derived.Test.YtdedklofngjlkaaGreatDoorEvTx
import Derived.Test.YtdedklofngjlkaaGreatDoorProg
import Derived.Deep.Slices
import Derived.Deep.Fields
import Derived.ChangeSame
import Derived.ChangeSlices
import Derived.ChangeOld
import Derived.SizedLaws
import Derived.KernelRfl
import Derived.Test.YtdedklofngjlkaaGreatDoorRows
import Derived.Lib.ItoaLen
set_option linter.unusedVariables false
set_option linter.unusedSimpArgs false
namespace Go.Proofs.YtdedklofngjlkaaGreatDoor
open Go.RowKit Go.Ev Go.ChangeShapes Go.WideShapes Go.Deep
section
variable {H : Type} {enc : TypeId × Value → H} {W : World} {base : Nat} {spare : Nat → Bool} {held : Bool}
theorem cell_lt {w : World} {a : Addr} {v : Value} (h : w.cell? a = some v) : a.block < w.heap.size ∧ a.spot = none := by
  unfold World.cell? at h
  split at h
  · rename_i hb
    refine ⟨?_, ?_⟩
    · have := Array.getElem?_eq_some_iff.1 hb
      exact this.1
    · by_cases hs : a.spot.isSome
      · simp [hs] at h
      · simpa using hs
  · cases h
/-- how an event's texts read -/
def TxD (d : DataW H) (l : List ByteArray) : Prop := (d = .nil ∧ l = []) ∨ ∃ sp, d = .slice (l.map fun s => .lit (.string s.data.toList)) sp
/-- how an event reads -/
def EvD (d : DataW H) (x : EvT) : Prop := ∃ o t, d = .agg [.lit (.int .i64 x.kind), .lit (.int .i64 x.who), o, .agg [.lit (.int .i64 x.out), t, .lit (.int .i64 x.place), .lit (.int .i64 x.why)]] ∧ TxD t x.texts

theorem open_texts {fuel : Nat} {v : Value} {x : DataW H × List MemPlace} (h : DataW.trod enc Tryz.prog W base spare held fuel 24 [v] = some x) : ∃ l, StrsAt W v l ∧ TxD x.1 l := by
  rcases open_slice Tryz.underlying24 h with ⟨hcs, rfl⟩ | ⟨a, len, cap, m, n, D, Pl, hcs, _, hl, hm, hmm, rfl, hi⟩
  · cases hcs
    exact ⟨[], ⟨none, 0, rfl, .inl rfl⟩, .inl ⟨rfl, rfl⟩⟩
  · cases hcs
    have hlm : len ≤ m := by rw [hmm]; split <;> omega
    have hc1 : Tryz.prog.cellsOf 9 = 1 := by kernel_rfl
    have key : ∀ i, ∃ s : ByteArray, i < len → W.cell? (a.add i) = some (.string s) ∧ D i = .lit (.string s.data.toList) := fun i => by
      by_cases hil : i < len
      · obtain ⟨cs', hc, ht'⟩ := hi i (by omega)
        rw [hc1, Nat.mul_one] at hc
        obtain ⟨_, hcl, hat⟩ := World.cells?_some hc
        obtain ⟨s, rfl, hx, _⟩ := DataW.trod_string Tryz.underlying9 ht'
        refine ⟨s, fun _ => ⟨?_, (Prod.mk.inj hx).1⟩⟩
        have := hat 0 (by omega)
        simpa [Addr.add] using this
      · exact ⟨⟨#[]⟩, fun h => absurd h hil⟩
    obtain ⟨f, hf⟩ := Classical.axiomOfChoice key
    refine ⟨(List.range len).map f, ⟨some a, cap, by simp, ?_⟩, .inr ⟨(List.range (m - len)).map fun j => D (len + j), ?_⟩⟩
    · by_cases h0 : len = 0
      · exact .inl (by simpa using h0)
      · refine .inr ?_
        obtain ⟨hc, _⟩ := hf 0 (by omega)
        obtain ⟨hb, hs⟩ := cell_lt hc
        obtain ⟨ab, ao, asp⟩ := a
        have hsp : asp = none := by
          unfold Addr.add at hs
          split at hs <;> simp_all
        subst hsp
        refine ⟨ab, ao, rfl, by simpa [Addr.add] using hb, fun j s hj => ?_⟩
        rw [List.getElem?_map, Option.map_eq_some_iff] at hj
        obtain ⟨j', hj', rfl⟩ := hj
        obtain ⟨hjl, rfl⟩ := List.getElem?_eq_some_iff.1 hj'
        simp only [List.getElem_range]
        have := (hf j (by simpa using hjl)).1
        unfold Addr.add at this
        split at this
        · rename_i hz
          have hz : j = 0 := hz
          subst hz
          exact this
        · exact this
    · have e : (List.range len).map D = ((List.range len).map f).map fun s => (DataW.lit (.string s.data.toList) : DataW H) := by
        rw [List.map_map]
        exact List.map_congr_left fun i hi => (hf i (List.mem_range.1 hi)).2
      show DataW.slice ((List.range len).map D) _ = _
      rw [e]
end
end Go.Proofs.YtdedklofngjlkaaGreatDoor
namespace Go.Proofs.YtdedklofngjlkaaGreatDoor
open Go.RowKit Go.Ev Go.ChangeShapes Go.WideShapes Go.Deep
theorem add_none (b o i : Nat) : (⟨b, o, none⟩ : Addr).add i = ⟨b, o + i, none⟩ := by
  unfold Addr.add
  split
  · rename_i h; subst h; rfl
  · rfl
theorem in64_of {n : Int} (h : (Lit.int .i64 n).wf = true) : in64 n := by
  have e1 : IntKind.i64.min = -9223372036854775808 := by decide
  have e2 : IntKind.i64.max = 9223372036854775807 := by decide
  have h' : (decide (IntKind.i64.min ≤ n) && decide (n ≤ IntKind.i64.max)) = true := h
  rw [e1, e2, Bool.and_eq_true, decide_eq_true_eq, decide_eq_true_eq] at h'
  exact h'
section
variable {H : Type} {enc : TypeId × Value → H} {W : World} {base : Nat} {spare : Nat → Bool} {held : Bool}
def EvL : List (DataW H) → List EvT → Prop
  | [], [] => True
  | d :: ds, x :: l => EvD d x ∧ EvL ds l
  | _, _ => False
/-- how events read -/
def EvsD (d : DataW H) (l : List EvT) : Prop := (d = .nil ∧ l = []) ∨ ∃ ds sp, d = .slice ds sp ∧ EvL ds l
theorem evL_map {D : Nat → DataW H} {f : Nat → EvT} : ∀ r : List Nat, (∀ j ∈ r, EvD (D j) (f j)) → EvL (r.map D) (r.map f)
  | [], _ => trivial
  | a :: r, h => ⟨h a (by simp), evL_map r fun j hj => h j (by simp [hj])⟩

set_option maxRecDepth 100000 in
theorem open_evt {fuel : Nat} {cs : List Value} {x : DataW H × List MemPlace} (h : DataW.trod enc Tryz.prog W base spare held fuel 29 cs = some x) {b o : Nat} (hc : ∀ i, i < 7 → W.cell? ⟨b, o + i, none⟩ = cs[i]?) :
    ∃ z : EvT, EvtAt W b o z ∧ EvD x.1 z := by
  obtain ⟨xs, n, rfl, rfl, hl, hlen, hf⟩ := DataW.trod_struct Tryz.underlying29 h
  have k7 : Tryz.prog.cellsOf 29 = 7 := by kernel_rfl
  have kI : Tryz.prog.cellsOf 3 = 1 := by kernel_rfl
  have kO : Tryz.prog.cellsOf 23 = 1 := by kernel_rfl
  have kR : Tryz.prog.cellsOf 27 = 4 := by kernel_rfl
  have kS : Tryz.prog.cellsOf 24 = 1 := by kernel_rfl
  have kW : Tryz.prog.cellsOf 25 = 1 := by kernel_rfl
  rw [k7] at hl
  match cs, hl with
  | [c0, c1, c2, c3, c4, c5, c6], _ =>
  match xs, hlen with
  | [y0, y1, y2, y3], _ =>
  have t0 : DataW.trod enc Tryz.prog W base spare held n 3 (([c0, c1, c2, c3, c4, c5, c6].drop 0).take (Tryz.prog.cellsOf 3)) = some y0 := hf 0 _ rfl
  have t1 : DataW.trod enc Tryz.prog W base spare held n 3 (([c0, c1, c2, c3, c4, c5, c6].drop 1).take (Tryz.prog.cellsOf 3)) = some y1 := hf 1 _ rfl
  have t2 : DataW.trod enc Tryz.prog W base spare held n 23 (([c0, c1, c2, c3, c4, c5, c6].drop 2).take (Tryz.prog.cellsOf 23)) = some y2 := hf 2 _ rfl
  have t3 : DataW.trod enc Tryz.prog W base spare held n 27 (([c0, c1, c2, c3, c4, c5, c6].drop 3).take (Tryz.prog.cellsOf 27)) = some y3 := hf 3 _ rfl
  rw [kI] at t0 t1
  rw [kO] at t2
  rw [kR] at t3
  obtain ⟨kind, e0, rfl, _⟩ := DataW.trod_int Tryz.underlying3 t0
  obtain ⟨who, e1, rfl, w1⟩ := DataW.trod_int Tryz.underlying3 t1
  obtain ⟨xs', n', rfl, rfl, _, hlen', hf'⟩ := DataW.trod_struct Tryz.underlying27 t3
  match xs', hlen' with
  | [z0, z1, z2, z3], _ =>
  have s0 : DataW.trod enc Tryz.prog W base spare held n' 3 (([c3, c4, c5, c6].drop 0).take (Tryz.prog.cellsOf 3)) = some z0 := hf' 0 _ rfl
  have s1 : DataW.trod enc Tryz.prog W base spare held n' 24 (([c3, c4, c5, c6].drop 1).take (Tryz.prog.cellsOf 24)) = some z1 := hf' 1 _ rfl
  have s2 : DataW.trod enc Tryz.prog W base spare held n' 3 (([c3, c4, c5, c6].drop 2).take (Tryz.prog.cellsOf 3)) = some z2 := hf' 2 _ rfl
  have s3 : DataW.trod enc Tryz.prog W base spare held n' 25 (([c3, c4, c5, c6].drop 3).take (Tryz.prog.cellsOf 25)) = some z3 := hf' 3 _ rfl
  rw [kI] at s0 s2
  rw [kS] at s1
  rw [kW] at s3
  obtain ⟨out, e3, rfl, _⟩ := DataW.trod_int Tryz.underlying3 s0
  obtain ⟨place, e5, rfl, w5⟩ := DataW.trod_int Tryz.underlying3 s2
  obtain ⟨why, e6, rfl, w6⟩ := DataW.trod_int Tryz.underlying25 s3
  have s1' : DataW.trod enc Tryz.prog W base spare held n' 24 [c4] = some z1 := s1
  obtain ⟨l, hS, hT⟩ := open_texts s1'
  have e2 : ∃ a m c, c2 = .slice a m c := by
    have t2' : DataW.trod enc Tryz.prog W base spare held (n' + 1) 23 [c2] = some y2 := t2
    rcases open_slice Tryz.underlying23 t2' with ⟨hcs, _⟩ | ⟨a, len, cap, _, _, _, _, hcs, _⟩
    · cases hcs; exact ⟨_, _, _, rfl⟩
    · cases hcs; exact ⟨_, _, _, rfl⟩
  obtain ⟨a2, m2, q2, rfl⟩ := e2
  have e0' : [c0] = [.int .i64 kind] := e0
  have e1' : [c1] = [.int .i64 who] := e1
  have e3' : [c3] = [.int .i64 out] := e3
  have e5' : [c5] = [.int .i64 place] := e5
  have e6' : [c6] = [.int .i64 why] := e6
  cases e0'
  cases e1'
  cases e3'
  cases e5'
  cases e6'
  refine ⟨⟨kind, who, out, l, place, why⟩, ⟨hc 0 (by omega), hc 1 (by omega), ⟨a2, m2, q2, hc 2 (by omega)⟩, hc 3 (by omega), ⟨c4, hc 4 (by omega), hS⟩, hc 5 (by omega), hc 6 (by omega), in64_of w1, in64_of w5, in64_of w6⟩, y2.1, z1.1, rfl, hT⟩

set_option maxRecDepth 100000 in
theorem open_evts {fuel : Nat} {v : Value} {x : DataW H × List MemPlace} (h : DataW.trod enc Tryz.prog W base spare held fuel 22 [v] = some x) :
    ∃ a n c, ∃ l : List EvT, v = .slice a n c ∧ n ≤ c ∧ l.length = n ∧ (n = 0 ∨ ∃ b o, a = some ⟨b, o, none⟩ ∧ b < W.heap.size ∧ ∀ j z, l[j]? = some z → EvtAt W b (o + j * 7) z) ∧ EvsD x.1 l := by
  rcases open_slice Tryz.underlying22 h with ⟨hcs, rfl⟩ | ⟨a, len, cap, m, n, D, Pl, hcs, _, hl, hm, hmm, rfl, hi⟩
  · cases hcs
    exact ⟨none, 0, 0, [], rfl, by omega, rfl, .inl rfl, .inl ⟨rfl, rfl⟩⟩
  · cases hcs
    have hlm : len ≤ m := by rw [hmm]; split <;> omega
    have k7 : Tryz.prog.cellsOf 29 = 7 := by kernel_rfl
    rw [k7] at hi
    by_cases h0 : len = 0
    · subst h0
      exact ⟨some a, 0, cap, [], rfl, by omega, rfl, .inl rfl, .inr ⟨[], _, rfl, trivial⟩⟩
    · obtain ⟨cs0, hc0, ht0⟩ := hi 0 (by omega)
      obtain ⟨_, hcl0, hat0⟩ := World.cells?_some hc0
      have hx0 : ∃ v0, cs0[0]? = some v0 := ⟨_, List.getElem?_eq_getElem (by omega)⟩
      obtain ⟨v0, hv0⟩ := hx0
      have hq := (hat0 0 (by omega)).trans hv0
      obtain ⟨hb, hs⟩ := cell_lt hq
      obtain ⟨ab, ao, asp⟩ := a
      have hsp : asp = none := by simpa [Addr.add] using hs
      subst hsp
      have hb' : ab < W.heap.size := by simpa [Addr.add] using hb
      have key : ∀ i, ∃ z : EvT, i < len → EvtAt W ab (ao + i * 7) z ∧ EvD (D i) z := fun i => by
        by_cases hil : i < len
        · obtain ⟨cs', hc, ht'⟩ := hi i (by omega)
          obtain ⟨_, hcl, hat⟩ := World.cells?_some hc
          obtain ⟨z, h1, h2⟩ := open_evt ht' (b := ab) (o := ao + i * 7) fun j hj => by
            have := hat j hj
            rw [add_none, add_none] at this
            exact this
          exact ⟨z, fun _ => ⟨h1, h2⟩⟩
        · exact ⟨⟨0, 0, 0, [], 0, 0⟩, fun h => absurd h hil⟩
      obtain ⟨f, hf⟩ := Classical.axiomOfChoice key
      refine ⟨_, len, cap, (List.range len).map f, rfl, hl, by simp, .inr ⟨ab, ao, rfl, hb', fun j z hj => ?_⟩, .inr ⟨_, _, rfl, evL_map _ fun j hj => (hf j (List.mem_range.1 hj)).2⟩⟩
      rw [List.getElem?_map, Option.map_eq_some_iff] at hj
      obtain ⟨j', hj', rfl⟩ := hj
      obtain ⟨hjl, rfl⟩ := List.getElem?_eq_some_iff.1 hj'
      simp only [List.getElem_range]
      exact (hf j (by simpa using hjl)).1
end
end Go.Proofs.YtdedklofngjlkaaGreatDoor
namespace Go.Proofs.YtdedklofngjlkaaGreatDoor
open Go.RowKit Go.Ev
theorem itoa_le {n : Int} (h : in64 n) : (Lib.itoa n).length ≤ 21 := by
  obtain ⟨h1, h2⟩ := h
  exact Lib.itoa_length_le n (by omega) (by omega)
section
variable {H : Type}
theorem one_le (d : DataW H) : 1 ≤ Rows.uptoBulk d := by
  cases d with
  | lit l => cases l <;> simp [Rows.uptoBulk]
  | nil => simp [Rows.uptoBulk]
  | ptr d => simp [Rows.uptoBulk]
  | slice elems spare => simp [Rows.uptoBulk]
  | agg parts => simp [Rows.uptoBulk]
  | iface t d => simp [Rows.uptoBulk]
  | map entries => simp [Rows.uptoBulk]
  | held h => simp [Rows.uptoBulk]
theorem texts_sum : ∀ l : List ByteArray, (textsT l).length ≤ 3 * Rows.uptoBulkAll (l.map fun s => (DataW.lit (.string s.data.toList) : DataW H))
  | [] => by simp [textsT, Rows.uptoBulkAll]
  | s :: r => by
    have ih := texts_sum r
    have e : (textsT (s :: r)).length = s.data.toList.length + 3 + (textsT r).length := by
      unfold textsT
      rw [List.flatMap_cons, List.length_append]
      simp
    rw [e]
    simp only [List.map_cons, Rows.uptoBulkAll, Rows.uptoBulk]
    omega
theorem texts_bulk {t : DataW H} {l : List ByteArray} (h : TxD t l) : (textsT l).length ≤ 3 * Rows.uptoBulk t := by
  rcases h with ⟨rfl, rfl⟩ | ⟨sp, rfl⟩
  · simp [textsT]
  · have := texts_sum (H := H) l
    simp only [Rows.uptoBulk]
    omega
theorem line_bulk {d : DataW H} {x : EvT} (h : EvD d x) (h1 : in64 x.who) (h2 : in64 x.place) (h3 : in64 x.why) : (lineT x).length ≤ 100 * Rows.uptoBulk d := by
  obtain ⟨o, t, rfl, hT⟩ := h
  have a1 := itoa_le h1
  have a2 := itoa_le h2
  have a3 := itoa_le h3
  have a4 := texts_bulk hT
  have a5 : (replyT x).length ≤ 60 + 3 * Rows.uptoBulk t := by
    unfold replyT
    split
    · rw [List.length_append]; simp [cComm]; omega
    · split
      · simp [cAbort]; omega
      · split
        · rw [List.length_append, List.length_append, List.length_cons]; simp only [cRej, List.length_cons, List.length_nil]; omega
        · simp
  have a6 : (lineT x).length ≤ 90 + 3 * Rows.uptoBulk t := by
    unfold lineT
    split
    · rw [List.length_append, List.length_append]; simp only [cCall, List.length_cons, List.length_nil]; omega
    · split
      · rw [List.length_append, List.length_append, List.length_append]; simp only [cDone, List.length_cons, List.length_nil]; omega
      · split
        · rw [List.length_append, List.length_append]; simp only [cBusy, List.length_cons, List.length_nil]; omega
        · simp
  simp only [Rows.uptoBulk, Rows.uptoBulkAll]
  omega
theorem text_bulk : ∀ (ds : List (DataW H)) (l : List EvT), EvL ds l → (∀ x ∈ l, in64 x.who ∧ in64 x.place ∧ in64 x.why) → (textT l).length ≤ 100 * Rows.uptoBulkAll ds
  | [], [], _, _ => by simp [textT]
  | d :: ds, x :: l, h, hi => by
    have ih := text_bulk ds l h.2 fun y hy => hi y (by simp [hy])
    have h1 := hi x (by simp)
    have h2 := line_bulk h.1 h1.1 h1.2.1 h1.2.2
    have e : (textT (x :: l)).length = (lineT x).length + (textT l).length := by
      unfold textT
      rw [List.flatMap_cons, List.length_append]
    rw [e]
    simp only [Rows.uptoBulkAll]
    omega
theorem evts_bulk {d : DataW H} {l : List EvT} (h : EvsD d l) (hi : ∀ x ∈ l, in64 x.who ∧ in64 x.place ∧ in64 x.why) (hk : Rows.uptoSmall H [d] = true) : (textT l).length ≤ 1099511627776 := by
  have hb : Rows.uptoBulkAll [d] ≤ 1048576 := by simpa [Rows.uptoSmall] using hk
  rcases h with ⟨rfl, rfl⟩ | ⟨ds, sp, rfl, hL⟩
  · simp [textT]
  · have := text_bulk ds l hL hi
    simp only [Rows.uptoBulkAll, Rows.uptoBulk] at hb
    omega
theorem take_le (l : List EvT) (n : Nat) : (textT (l.take n)).length ≤ (textT l).length := by
  have : textT l = textT (l.take n) ++ textT (l.drop n) := by
    unfold textT
    rw [← List.flatMap_append, List.take_append_drop]
  rw [this, List.length_append]
  omega
end
end Go.Proofs.YtdedklofngjlkaaGreatDoor
