/- The row ShellReads: what the walk gives, over what came in. -/
import Derived.Test.YtekggipkfmleoaaGreatDoorRows
import Derived.WalkKit
import Derived.ProofKit
import Derived.OpenShut
import Derived.Below
import Derived.ChangeSame
import Derived.Test.YtekggipkfmleoaaGreatDoorEvTx
import Derived.Test.YtekggipkfmleoaaGreatDoorProg
import Derived.Stop.LaidErr
import Derived.LaidSub
import Derived.LaidMore
import Derived.MakeChecks
import Derived.KernelRfl
import Derived.Test.YtekggipkfmleoaaGreatDoorWa
import Derived.Deep.Slices
import Derived.Deep.Fields
import Derived.ChangeSlices
import Derived.ChangeOld
import Derived.SizedLaws
import Derived.Test.YtekggipkfmleoaaGreatDoorQb
import Derived.Test.YtekggipkfmleoaaGreatDoorZf
import Derived.Test.YtekggipkfmleoaaGreatDoorZg
import Derived.Stop.Joined
import Derived.JoinedCond
import Derived.Deep.DeepHandedRow
import Derived.Deep.DeepWitnessRowRef
import Derived.Carry
import Derived.SevenTiedAt
set_option linter.unusedVariables false
set_option linter.unusedSimpArgs false
namespace Go.Proofs.YtekggipkfmleoaaGreatDoor
open Go.RowKit Go.WideShapes Go.ChangeShapes
section
variable {H : Type} {enc : TypeId × Value → H} {P : Program}
theorem post_of_below {f : Func} {s : ChangeSpec} {apart fresh handsOn again : Bool} {W W' : World} {args : Array Value} {v : Value} {ds gs : List (DataW H)} {before pa pv : List MemPlace}
    (hW : DataW.Whole enc P f.params.toList s.vars apart W args.toList ds gs before)
    (hres : ∀ (b : Nat) (sp : Nat → Bool) (hd : Bool), DataW.TrodAll enc P W' b sp hd f.resultTypes.toList (v.resultList f.resultTypes.size) (s.fn H (ds ++ gs)).results [])
    (hargs : ∀ sp : Nat → Bool, (∀ p ∈ before, sp p.block = true) → DataW.TrodAll enc P W' 0 sp true f.params.toList args.toList (s.fn H (ds ++ gs)).args pa)
    (hvars : ∀ sp : Nat → Bool, (∀ p ∈ before, sp p.block = true) → DataW.TrodVars enc P W' sp s.vars (s.fn H (ds ++ gs)).vars pv)
    (hps : before = pa ++ pv) (hb : Below W.heap.size W W')
    (hok : ∀ (j : Nat) (t : TypeId) (r : Value), f.resultTypes[j]? = some t → (v.resultList f.resultTypes.size)[j]? = some r → Value.okWide P W' .any 0 t r) :
    s.post enc P f apart fresh handsOn again W args v W' := by
  have hlt : ∀ p ∈ before, p.block < W.heap.size := fun p hp => hW.lt p hp
  have hold : ∀ p ∈ before, (fun b => decide (b < W.heap.size)) p.block = true := fun p hp => by simpa using hlt p hp
  refine ⟨ds, gs, before, [], pa, pv, hW, hres _ _ _, hargs _ hold, hvars _ hold, World.keptBut_mono (fun p hp => ⟨hp, ?_⟩) (hb.frame (· ∈ before)), fun _ => ?_⟩
  · rw [hps, List.mem_append] at hp
    exact Or.inr hp
  · obtain ⟨_, _, _, _, _, hz, hn⟩ := hW
    refine ⟨hok, _, _, ([] ++ pa) ++ pv, ⟨[] ++ pa, pv, trodAll_append (hargs _ (fun _ _ => rfl)) (hres _ _ _), hvars _ (fun _ _ => rfl), rfl, ?_, ?_⟩, ?_⟩
    · intro b off hp
      have hin : MemPlace.cell b off ∈ before := by rw [hps]; simpa using hp
      rw [hb.frozen (hlt _ hin)]
      exact hz b off hin
    · intro ha
      have := hn ha
      rw [hps] at this
      simpa using this
    · intro p hp _
      rw [hps]
      simpa using hp
end
end Go.Proofs.YtekggipkfmleoaaGreatDoor

namespace Go.Proofs.YtekggipkfmleoaaGreatDoor
open Go.RowKit Go.Ev
theorem laid_tab {H : Type} : (Rows.laid_internal_strconv_uint64pow10 : DataW H) = Lib.tabData .u64 Lib.pow10Tab := by
  rw [← tabZ_eq]
  rfl
theorem tab_of_laid {W : World} (hL : laidMetH Tryz.prog Rows.shellReadsRow.laid W) : Lib.TabIs Tryz.prog W tabName .u64 Lib.pow10Tab := by
  have h1 : laidMet Tryz.prog [("math/bits.deBruijn32tab", Rows.laid_math_bits_deBruijn32tab), ("math/bits.deBruijn64tab", Rows.laid_math_bits_deBruijn64tab), ("internal/strconv.uint64pow10", Rows.laid_internal_strconv_uint64pow10), ("strconv.ErrRange", Rows.laid_strconv_ErrRange), ("strconv.ErrSyntax", Rows.laid_strconv_ErrSyntax)] W := by
    rw [← Go.MakeChecks.laidMetH_plain _ _ _ (by decide)]
    exact hL
  have h2 := h1.tail.tail
  rw [laid_tab] at h2
  exact Lib.tabIs_of_head (g := 0) (t := 354) (e := 74) (n := 20) (by kernel_rfl) (by kernel_rfl) Tryz.underlying354 Tryz.underlying74 (by kernel_rfl) (by kernel_rfl) h2
end Go.Proofs.YtekggipkfmleoaaGreatDoor

namespace Go.Proofs.YtekggipkfmleoaaGreatDoor
open Go.RowKit Go.ChangeShapes Go.WideShapes Go.Deep
section
variable {H : Type} {enc : TypeId × Value → H} {W : World} {base : Nat} {spare : Nat → Bool} {held : Bool}
theorem addr_plus (b o i : Nat) : (⟨b, o, none⟩ : Addr).add i = ⟨b, o + i, none⟩ := by
  unfold Addr.add
  split
  · rename_i h; subst h; rfl
  · rfl
theorem cell_in {w : World} {a : Addr} {v : Value} (h : w.cell? a = some v) : a.block < w.heap.size ∧ a.spot = none := by
  unfold World.cell? at h
  split at h
  · rename_i hb
    refine ⟨?_, ?_⟩
    · have := Array.getElem?_eq_some_iff.1 hb
      exact this.1
    · by_cases hs : a.spot.isSome
      · simp [hs] at h
      · simpa using hs
  · cases h
/-- a slice of things of so many cells -/
theorem open_sl {P : Program} {t e : TypeId} {Z : Type} (R : Nat → Nat → Z → Prop) (sz : Nat) (z0 : Z) (hz : P.cellsOf e = sz) (hpos : 0 < sz)
    (one : ∀ (fuel : Nat) (cs : List Value) (x : DataW H × List MemPlace) (b o : Nat), DataW.trod enc P W base spare held fuel e cs = some x → (∀ i, i < sz → W.cell? ⟨b, o + i, none⟩ = cs[i]?) → ∃ z, R b o z)
    (ht : P.underlying t = some (.slice e)) {fuel : Nat} {v : Value} {x : DataW H × List MemPlace} (h : DataW.trod enc P W base spare held fuel t [v] = some x) :
    ∃ a n c, ∃ l : List Z, v = .slice a n c ∧ n ≤ c ∧ c ≤ maxLen ∧ l.length = n ∧ (n = 0 ∨ ∃ b o, a = some ⟨b, o, none⟩ ∧ b < W.heap.size ∧ ∀ j z, l[j]? = some z → R b (o + j * sz) z) := by
  rcases open_slice ht h with ⟨hcs, rfl⟩ | ⟨a, len, cap, m, n, D, Pl, hcs, _, hl, hm, hmm, rfl, hi⟩
  · cases hcs
    exact ⟨none, 0, 0, [], rfl, by omega, by unfold maxLen; omega, rfl, .inl rfl⟩
  · cases hcs
    have hlm : len ≤ m := by rw [hmm]; split <;> omega
    rw [hz] at hi
    by_cases h0 : len = 0
    · subst h0
      exact ⟨some a, 0, cap, [], rfl, by omega, hm, rfl, .inl rfl⟩
    · obtain ⟨cs0, hc0, ht0⟩ := hi 0 (by omega)
      obtain ⟨_, hcl0, hat0⟩ := World.cells?_some hc0
      have hx0 : ∃ v0, cs0[0]? = some v0 := ⟨_, List.getElem?_eq_getElem (by omega)⟩
      obtain ⟨v0, hv0⟩ := hx0
      have hq := (hat0 0 (by omega)).trans hv0
      obtain ⟨hb, hs⟩ := cell_in hq
      obtain ⟨ab, ao, asp⟩ := a
      have hsp : asp = none := by simpa [Addr.add] using hs
      subst hsp
      have hb' : ab < W.heap.size := by simpa [Addr.add] using hb
      have key : ∀ i, ∃ z : Z, i < len → R ab (ao + i * sz) z := fun i => by
        by_cases hil : i < len
        · obtain ⟨cs', hc, ht'⟩ := hi i (by omega)
          obtain ⟨_, hcl, hat⟩ := World.cells?_some hc
          obtain ⟨z, h1⟩ := one _ _ _ ab (ao + i * sz) ht' fun j hj => by
            have := hat j hj
            rw [addr_plus, addr_plus] at this
            exact this
          exact ⟨z, fun _ => h1⟩
        · exact ⟨z0, fun h => absurd h hil⟩
      obtain ⟨f, hf⟩ := Classical.axiomOfChoice key
      refine ⟨_, len, cap, (List.range len).map f, rfl, hl, hm, by simp, .inr ⟨ab, ao, rfl, hb', fun j z hj => ?_⟩⟩
      rw [List.getElem?_map, Option.map_eq_some_iff] at hj
      obtain ⟨j', hj', rfl⟩ := hj
      obtain ⟨hjl, rfl⟩ := List.getElem?_eq_some_iff.1 hj'
      simp only [List.getElem_range]
      exact hf j (by simpa using hjl)

set_option maxRecDepth 100000 in
theorem open_op (fuel : Nat) (cs : List Value) (x : DataW H × List MemPlace) (b o : Nat) (h : DataW.trod enc Tryz.prog W base spare held fuel 38 cs = some x) (hc : ∀ i, i < 4 → W.cell? ⟨b, o + i, none⟩ = cs[i]?) : ∃ z : OpT, OpAt W b o z := by
  obtain ⟨xs, n, rfl, rfl, hl, hlen, hf⟩ := DataW.trod_struct Tryz.underlying38 h
  have k4 : Tryz.prog.cellsOf 38 = 4 := by kernel_rfl
  have kI : Tryz.prog.cellsOf 3 = 1 := by kernel_rfl
  have kS : Tryz.prog.cellsOf 9 = 1 := by kernel_rfl
  rw [k4] at hl
  match cs, hl with
  | [c0, c1, c2, c3], _ =>
  match xs, hlen with
  | [y0, y1, y2, y3], _ =>
  have t0 : DataW.trod enc Tryz.prog W base spare held n 3 (([c0, c1, c2, c3].drop 0).take (Tryz.prog.cellsOf 3)) = some y0 := hf 0 _ rfl
  have t1 : DataW.trod enc Tryz.prog W base spare held n 9 (([c0, c1, c2, c3].drop 1).take (Tryz.prog.cellsOf 9)) = some y1 := hf 1 _ rfl
  have t2 : DataW.trod enc Tryz.prog W base spare held n 9 (([c0, c1, c2, c3].drop 2).take (Tryz.prog.cellsOf 9)) = some y2 := hf 2 _ rfl
  have t3 : DataW.trod enc Tryz.prog W base spare held n 3 (([c0, c1, c2, c3].drop 3).take (Tryz.prog.cellsOf 3)) = some y3 := hf 3 _ rfl
  rw [kI] at t0 t3
  rw [kS] at t1 t2
  obtain ⟨kind, e0, _, _⟩ := DataW.trod_int Tryz.underlying3 t0
  obtain ⟨cas, e1, _, _⟩ := DataW.trod_string Tryz.underlying9 t1
  obtain ⟨name, e2, _, _⟩ := DataW.trod_string Tryz.underlying9 t2
  obtain ⟨num, e3, _, _⟩ := DataW.trod_int Tryz.underlying3 t3
  have e0' : [c0] = [.int .i64 kind] := e0
  have e1' : [c1] = [.string cas] := e1
  have e2' : [c2] = [.string name] := e2
  have e3' : [c3] = [.int .i64 num] := e3
  cases e0'
  cases e1'
  cases e2'
  cases e3'
  exact ⟨⟨kind, cas, name, num⟩, hc 0 (by omega), hc 1 (by omega), hc 2 (by omega), hc 3 (by omega)⟩
theorem open_ops {fuel : Nat} {v : Value} {x : DataW H × List MemPlace} (h : DataW.trod enc Tryz.prog W base spare held fuel 25 [v] = some x) : ∃ l, OpsAt W v l := by
  obtain ⟨a, n, c, l, rfl, h1, h2, rfl, h3⟩ := open_sl (Z := OpT) (fun b o z => OpAt W b o z) 4 ⟨0, ⟨#[]⟩, ⟨#[]⟩, 0⟩ (by kernel_rfl) (by omega) open_op Tryz.underlying25 h
  exact ⟨l, a, c, rfl, h1, h2, h3⟩
set_option maxRecDepth 100000 in
theorem open_item (fuel : Nat) (cs : List Value) (x : DataW H × List MemPlace) (b o : Nat) (h : DataW.trod enc Tryz.prog W base spare held fuel 27 cs = some x) (hc : ∀ i, i < 8 → W.cell? ⟨b, o + i, none⟩ = cs[i]?) : ∃ z : ItT, ItAt W b o z := by
  obtain ⟨xs, n, rfl, rfl, hl, hlen, hf⟩ := DataW.trod_struct Tryz.underlying27 h
  have k8 : Tryz.prog.cellsOf 27 = 8 := by kernel_rfl
  have kI : Tryz.prog.cellsOf 3 = 1 := by kernel_rfl
  have kS : Tryz.prog.cellsOf 25 = 1 := by kernel_rfl
  rw [k8] at hl
  match cs, hl with
  | [c0, c1, c2, c3, c4, c5, c6, c7], _ =>
  match xs, hlen with
  | [y0, y1, y2, y3, y4, y5, y6, y7], _ =>
  have t0 : DataW.trod enc Tryz.prog W base spare held n 3 (([c0, c1, c2, c3, c4, c5, c6, c7].drop 0).take (Tryz.prog.cellsOf 3)) = some y0 := hf 0 _ rfl
  have t1 : DataW.trod enc Tryz.prog W base spare held n 3 (([c0, c1, c2, c3, c4, c5, c6, c7].drop 1).take (Tryz.prog.cellsOf 3)) = some y1 := hf 1 _ rfl
  have t2 : DataW.trod enc Tryz.prog W base spare held n 3 (([c0, c1, c2, c3, c4, c5, c6, c7].drop 2).take (Tryz.prog.cellsOf 3)) = some y2 := hf 2 _ rfl
  have t3 : DataW.trod enc Tryz.prog W base spare held n 3 (([c0, c1, c2, c3, c4, c5, c6, c7].drop 3).take (Tryz.prog.cellsOf 3)) = some y3 := hf 3 _ rfl
  have t4 : DataW.trod enc Tryz.prog W base spare held n 3 (([c0, c1, c2, c3, c4, c5, c6, c7].drop 4).take (Tryz.prog.cellsOf 3)) = some y4 := hf 4 _ rfl
  have t5 : DataW.trod enc Tryz.prog W base spare held n 3 (([c0, c1, c2, c3, c4, c5, c6, c7].drop 5).take (Tryz.prog.cellsOf 3)) = some y5 := hf 5 _ rfl
  have t6 : DataW.trod enc Tryz.prog W base spare held n 3 (([c0, c1, c2, c3, c4, c5, c6, c7].drop 6).take (Tryz.prog.cellsOf 3)) = some y6 := hf 6 _ rfl
  have t7 : DataW.trod enc Tryz.prog W base spare held n 25 (([c0, c1, c2, c3, c4, c5, c6, c7].drop 7).take (Tryz.prog.cellsOf 25)) = some y7 := hf 7 _ rfl
  rw [kI] at t0 t1 t2 t3 t4 t5 t6
  rw [kS] at t7
  obtain ⟨n0, e0, _, _⟩ := DataW.trod_int Tryz.underlying3 t0
  obtain ⟨n1, e1, _, _⟩ := DataW.trod_int Tryz.underlying3 t1
  obtain ⟨n2, e2, _, _⟩ := DataW.trod_int Tryz.underlying3 t2
  obtain ⟨n3, e3, _, _⟩ := DataW.trod_int Tryz.underlying3 t3
  obtain ⟨n4, e4, _, _⟩ := DataW.trod_int Tryz.underlying3 t4
  obtain ⟨n5, e5, _, _⟩ := DataW.trod_int Tryz.underlying3 t5
  obtain ⟨n6, e6, _, _⟩ := DataW.trod_int Tryz.underlying3 t6
  have t7' : DataW.trod enc Tryz.prog W base spare held n 25 [c7] = some y7 := t7
  obtain ⟨l, hO⟩ := open_ops t7'
  have e0' : [c0] = [.int .i64 n0] := e0
  have e1' : [c1] = [.int .i64 n1] := e1
  have e2' : [c2] = [.int .i64 n2] := e2
  have e3' : [c3] = [.int .i64 n3] := e3
  have e4' : [c4] = [.int .i64 n4] := e4
  have e5' : [c5] = [.int .i64 n5] := e5
  have e6' : [c6] = [.int .i64 n6] := e6
  cases e0'
  cases e1'
  cases e2'
  cases e3'
  cases e4'
  cases e5'
  cases e6'
  exact ⟨⟨n0, n1, n2, n3, n4, n5, n6, l⟩, hc 0 (by omega), hc 1 (by omega), hc 2 (by omega), hc 3 (by omega), hc 4 (by omega), hc 5 (by omega), hc 6 (by omega), c7, hc 7 (by omega), hO⟩
theorem open_items {fuel : Nat} {v : Value} {x : DataW H × List MemPlace} (h : DataW.trod enc Tryz.prog W base spare held fuel 23 [v] = some x) :
    ∃ a n c, ∃ l : List ItT, v = .slice a n c ∧ n ≤ c ∧ c ≤ maxLen ∧ l.length = n ∧ (n = 0 ∨ ∃ b o, a = some ⟨b, o, none⟩ ∧ b < W.heap.size ∧ ∀ j z, l[j]? = some z → ItAt W b (o + j * 8) z) :=
  open_sl (Z := ItT) (fun b o z => ItAt W b o z) 8 ⟨0, 0, 0, 0, 0, 0, 0, []⟩ (by kernel_rfl) (by omega) open_item Tryz.underlying23 h
theorem open_byte (fuel : Nat) (cs : List Value) (x : DataW H × List MemPlace) (b o : Nat) (h : DataW.trod enc Tryz.prog W base spare held fuel 5 cs = some x) (hc : ∀ i, i < 1 → W.cell? ⟨b, o + i, none⟩ = cs[i]?) : ∃ z : UInt8, W.cell? ⟨b, o, none⟩ = some (.int .u8 (z.toNat : Int)) := by
  obtain ⟨n, rfl, _, hw⟩ := DataW.trod_int Tryz.underlying5 h
  have hr : 0 ≤ n ∧ n ≤ 255 := by
    simp [Lit.wf, IntKind.min, IntKind.max, IntKind.signed, IntKind.bits] at hw
    omega
  refine ⟨UInt8.ofNat n.toNat, (hc 0 (by omega)).trans ?_⟩
  rw [UInt8.toNat_ofNat', Nat.mod_eq_of_lt (by omega)]
  show some (Value.int .u8 n) = _
  rw [Int.toNat_of_nonneg hr.1]
theorem open_u8 {fuel : Nat} {i : Int} {x : DataW H × List MemPlace} (h : DataW.trod enc Tryz.prog W base spare held fuel 5 [.int .u8 i] = some x) : ∃ z : UInt8, i = (z.toNat : Int) := by
  obtain ⟨n, hv, _, hw⟩ := DataW.trod_int Tryz.underlying5 h
  cases hv
  have hr : 0 ≤ i ∧ i ≤ 255 := by
    simp [Lit.wf, IntKind.min, IntKind.max, IntKind.signed, IntKind.bits] at hw
    omega
  refine ⟨UInt8.ofNat i.toNat, ?_⟩
  rw [UInt8.toNat_ofNat', Nat.mod_eq_of_lt (by omega), Int.toNat_of_nonneg hr.1]
theorem okWide_spot {P : Program} {W : World} {r : Reach} {base : Nat} {t e : TypeId} {a : Addr} {n c : Nat} (ht : P.underlying t = some (.slice e)) (h : Value.okWide P W r base t (.slice (some a) n c)) : a.spot = none := by
  simp only [Value.okWide, ht, Cell.okWide, Cell.ok, World.has] at h
  exact h.2.2.2.1
set_option maxRecDepth 100000 in
theorem open_bytes {fuel : Nat} {v : Value} {x : DataW H × List MemPlace} {r : Reach} {bb : Nat} (hv : Value.okWide Tryz.prog W r bb 22 v) (h : DataW.trod enc Tryz.prog W base spare held fuel 22 [v] = some x) :
    ∃ a n c, ∃ l : List UInt8, v = .slice a n c ∧ n ≤ c ∧ l.length = n ∧ ByAt W (.slice a n c) l := by
  obtain ⟨a, n, c, l, rfl, h1, h2, rfl, h3⟩ := open_sl (Z := UInt8) (fun b o z => W.cell? ⟨b, o, none⟩ = some (.int .u8 (z.toNat : Int))) 1 0 (by kernel_rfl) (by omega) open_byte Tryz.underlying22 h
  refine ⟨a, l.length, c, l, rfl, h1, rfl, a, c, rfl, ?_⟩
  rcases h3 with h0 | ⟨b, o, rfl, hlt, hs⟩
  · have hl : l = [] := List.eq_nil_of_length_eq_zero h0
    subst hl
    cases a with
    | none => exact .inl ⟨rfl, rfl⟩
    | some ad =>
      have hsp := okWide_spot Tryz.underlying22 hv
      obtain ⟨g, o, sp⟩ := ad
      obtain rfl : sp = none := hsp
      exact .inr ⟨g, o, rfl, fun j x hj => by simp at hj⟩
  · refine .inr ⟨b, o, rfl, fun j x hj => ?_⟩
    have := hs j x hj
    rw [Nat.mul_one] at this
    exact this
end
end Go.Proofs.YtekggipkfmleoaaGreatDoor

namespace Go.Proofs.YtekggipkfmleoaaGreatDoor.shellReads
open Go.ChangeShapes Go.WideShapes Go.ChangeAt Go.RowKit Go.Ev

theorem own : ownKnob Tryz.prog.godebug = none := by kernel_rfl
theorem laidOut : laidOutB Tryz.prog = true := by kernel_rfl

theorem door_met (os : Os) (args : Array Value) : laidMetH Tryz.prog Rows.shellReadsRow.laid ((World.doorLaid Tryz.prog 2000 os).forCall (fun _ _ => 0) ⟨#[], args, []⟩).memory :=
  laidMetH_of_parts3 (fuel := 8) (laidMet_of_run' 8 (by kernel_rfl) (by kernel_rfl)) (by kernel_rfl) (by kernel_rfl)
theorem reads (os : Os) {H : Type} (enc : TypeId × Value → H) : ∃ places, DataW.whole enc Tryz.prog ((World.doorLaid Tryz.prog 2000 os).forCall (fun _ _ => 0) ⟨#[], #[.slice none 0 0, .slice none 0 0, .int .i64 0, .int .u8 0], []⟩).memory Tryz.f3.params.toList (OpenSpec.ofChange Rows.shellReadsSpec).vars false #[Value.slice none 0 0, .slice none 0 0, .int .i64 0, .int .u8 0].toList 8 = some ([.nil, .nil, .lit (.int .i64 0), .lit (.int .u8 0)], [], places) :=
  ⟨[], by kernel_rfl⟩

theorem shaped (os : Os) : ((World.doorLaid Tryz.prog 2000 os).forCall (fun _ _ => 0) ⟨#[], #[.slice none 0 0, .slice none 0 0, .int .i64 0, .int .u8 0], []⟩).variablesRefB Tryz.prog = true := by kernel_rfl
theorem rest (os : Os) : (((World.doorLaid Tryz.prog 2000 os).forCall (fun _ _ => 0) ⟨#[], #[.slice none 0 0, .slice none 0 0, .int .i64 0, .int .u8 0], []⟩).heap.toList.drop Tryz.prog.globals.size).take ((begin Tryz.prog (fun _ _ => 0) default).world.heap.size - Tryz.prog.globals.size) =
    (begin Tryz.prog (fun _ _ => 0) default).world.heap.toList.drop Tryz.prog.globals.size := by kernel_rfl
theorem okB (os : Os) : Input.okWideB Tryz.prog ((World.doorLaid Tryz.prog 2000 os).forCall (fun _ _ => 0) ⟨#[], #[.slice none 0 0, .slice none 0 0, .int .i64 0, .int .u8 0], []⟩) 3 ⟨#[], #[.slice none 0 0, .slice none 0 0, .int .i64 0, .int .u8 0], []⟩ = true := by kernel_rfl
theorem sized (os : Os) {H : Type} (enc : TypeId × Value → H) : (OpenSpec.ofChange Rows.shellReadsSpec).bare.sizedB enc Tryz.prog Tryz.f3 false ((World.doorLaid Tryz.prog 2000 os).forCall (fun _ _ => 0) ⟨#[], #[.slice none 0 0, .slice none 0 0, .int .i64 0, .int .u8 0], []⟩).memory #[.slice none 0 0, .slice none 0 0, .int .i64 0, .int .u8 0] 8 = true := by kernel_rfl
theorem pre_met (os : Os) {H : Type} (enc : TypeId × Value → H) :
    (OpenSpec.ofChange Rows.shellReadsSpec).preRow enc Tryz.prog Tryz.f3 Rows.shellReadsRow.domain false Rows.shellReadsRow.laid ((World.doorLaid Tryz.prog 2000 os).forCall (fun _ _ => 0) ⟨#[], #[.slice none 0 0, .slice none 0 0, .int .i64 0, .int .u8 0], []⟩).memory #[.slice none 0 0, .slice none 0 0, .int .i64 0, .int .u8 0] := by
  obtain ⟨places, hx⟩ := reads os enc
  exact OpenSpec.preRow_of_cond 8 hx rfl (fun k hk => by cases hk) (sized os enc) (door_met os _)

set_option maxHeartbeats 4000000 in
set_option maxRecDepth 100000 in
theorem contract (os : Os) (H : Type) (enc : TypeId × Value → H) (F : Stop.Interp) (W : World) (base : Nat) (args : Array Value) (ds gs : List (DataW H)) (before : List MemPlace)
    (hval0 : ∀ (j : Nat) t v, Tryz.f3.params[j]? = some t → args[j]? = some v → Value.okWide Tryz.prog W .any base t v)
    (hW : DataW.Whole enc Tryz.prog Tryz.f3.params.toList (OpenSpec.ofChange Rows.shellReadsSpec).vars false W args.toList ds gs before)
    (hk : ∀ k, (OpenSpec.ofChange Rows.shellReadsSpec).cond = some k → k H (ds ++ gs) = true) (hL : laidMetH Tryz.prog Rows.shellReadsRow.laid W) :
    Calls Tryz.prog 3 args W fun e W' => ∃ v, e = .returned v ∧ ((OpenSpec.ofChange Rows.shellReadsSpec).at F).post enc Tryz.prog Tryz.f3 false true false false W args v W' := by
  have hval : ∀ (j : Nat) t v, Tryz.f3.params[j]? = some t → args[j]? = some v → Value.okWide Tryz.prog W .any base t v := hval0
  have hW' := hW
  obtain ⟨p, q, hA0, hV, rfl, hfz, hnd⟩ := hW
  have hA : DataW.TrodAll enc Tryz.prog W 0 (fun _ => true) true Tryz.f3.params.toList args.toList ds p := hA0
  rw [Tryz.params3] at hA hval
  obtain ⟨v0, vs0, d0, ds0, p0, q0, hargs, rfl, rfl, h0, r0⟩ := trodAll_cons hA
  obtain ⟨v1, vs1, d1, ds1, p1, q1, rfl, rfl, rfl, h1, r1⟩ := trodAll_cons r0
  obtain ⟨v2, vs2, d2, ds2, p2, q2, rfl, rfl, rfl, h2, r2⟩ := trodAll_cons r1
  obtain ⟨v3, vs3, d3, ds3, p3, q3, rfl, rfl, rfl, h3, r3⟩ := trodAll_cons r2
  obtain ⟨rfl, rfl, rfl⟩ := trodAll_nil r3
  obtain rfl : args = #[v0, v1, v2, v3] := by cases args; simp_all
  obtain ⟨rfl, rfl⟩ := trodVars_none hV
  have hv2 := hval 0 22 v0 rfl rfl
  obtain ⟨a2, len2, cap2, rfl⟩ := okWide_slice Tryz.underlying22 hv2
  obtain ⟨a1, len1, cap1, rfl⟩ := okWide_slice Tryz.underlying23 (hval 1 23 v1 rfl rfl)
  obtain ⟨i1, rfl⟩ := okWide_int Tryz.underlying3 (hval 2 3 v2 rfl rfl)
  obtain ⟨i2, rfl⟩ := okWide_int Tryz.underlying5 (hval 3 5 v3 rfl rfl)
  have k0 := h0
  have k1 := h1
  have k2 := h2
  have k3 := h3
  have lt0 : ∀ x ∈ p0, x.block < W.heap.size := by obtain ⟨m, hm⟩ := k0; exact DataW.trod_lt m _ _ _ hm
  have lt1 : ∀ x ∈ p1, x.block < W.heap.size := by obtain ⟨m, hm⟩ := k1; exact DataW.trod_lt m _ _ _ hm
  have lt2 : ∀ x ∈ p2, x.block < W.heap.size := by obtain ⟨m, hm⟩ := k2; exact DataW.trod_lt m _ _ _ hm
  have lt3 : ∀ x ∈ p3, x.block < W.heap.size := by obtain ⟨m, hm⟩ := k3; exact DataW.trod_lt m _ _ _ hm
  obtain ⟨m, hm⟩ := h1
  obtain ⟨a, n, c, l, hv, hnc, hcm, hln, hat⟩ := open_items hm
  cases hv
  obtain ⟨m2, hm2⟩ := h0
  obtain ⟨ba, bn, bc, bs, hvb, hbnc, hbl, hby⟩ := open_bytes hv2 hm2
  cases hvb
  obtain ⟨m3, hm3⟩ := h3
  obtain ⟨tb, htb⟩ := open_u8 hm3
  subst htb
  clear hA0 hval0 hk
  refine (shellReads_row a1 len1 cap1 l i1 tb _ _ _ bs W hnc hln hat hbnc hby (tab_of_laid hL)).mono fun e W' ⟨he, hg⟩ => ?_
  subst he
  exact ⟨_, rfl, _, _, _, [], _, [], hW', trodAll_mk1 (shut_bool Tryz.underlying4 _), (trodAll_cons_mk (Below.trod laidOut (by as_aux_lemma => kernel_rfl) (of_decide_eq_true (by as_aux_lemma => kernel_rfl)) k0 hg lt0) (trodAll_cons_mk (Below.trod laidOut (by as_aux_lemma => kernel_rfl) (of_decide_eq_true (by as_aux_lemma => kernel_rfl)) k1 hg lt1) (trodAll_cons_mk (Below.trod laidOut (by as_aux_lemma => kernel_rfl) (of_decide_eq_true (by as_aux_lemma => kernel_rfl)) k2 hg lt2) (trodAll_cons_mk (Below.trod laidOut (by as_aux_lemma => kernel_rfl) (of_decide_eq_true (by as_aux_lemma => kernel_rfl)) k3 hg lt3) trodAll_mk0)))), rfl, hg.frame _, fun h => by cases h⟩

set_option maxHeartbeats 4000000 in
set_option maxRecDepth 100000 in
theorem lifted (os : Os) (started : os.Started) (H : Type) (enc : TypeId × Value → H) (F : Stop.Interp) :
    ReturnsInHanded {} Tryz.checked os 3 .any ((OpenSpec.ofChange Rows.shellReadsSpec).preRow enc Tryz.prog Tryz.f3 Rows.shellReadsRow.domain false Rows.shellReadsRow.laid) (((OpenSpec.ofChange Rows.shellReadsSpec).at F).post enc Tryz.prog Tryz.f3 false true false false) :=
  returnsInHanded_of_row (C := Tryz.checked) (s := OpenSpec.ofChange Rows.shellReadsSpec) own started (by as_aux_lemma => kernel_rfl) Tryz.func3
    (witness_row_atRef (enc := enc) (C := Tryz.checked) false (World.doorLaid Tryz.prog 2000 os) #[.slice none 0 0, .slice none 0 0, .int .i64 0, .int .u8 0] rfl (shaped os) (rest os) (okB os) (pre_met os enc))
    fun W base args ds gs before hval hW _ hk _ hL _ _ => contract os H enc F W base args ds gs before hval hW hk hL

set_option maxHeartbeats 4000000 in
theorem over : Rows.shellReadsRow.holds Tryz.pinned (OpenSpec.ofChange Rows.shellReadsSpec) :=
  OpenClaim.holds_of_cond 3 Tryz.f3 rfl rfl rfl rfl rfl rfl rfl ⟨rfl, rfl, rfl, rfl, rfl⟩ rfl rfl rfl rfl rfl named Tryz.func3 facts
    (of_decide_eq_true (by as_aux_lemma => kernel_rfl)) (by unfold Func.isWrapper; first | (rw [if_pos (by decide +kernel)]; kernel_rfl) | (rw [if_neg (by decide +kernel)]; exact ⟨rfl, rfl⟩))
    (fun os started H enc _ F => by rw [OpenClaim.pre_eq_preRow]; exact lifted os started H enc F)
end Go.Proofs.YtekggipkfmleoaaGreatDoor.shellReads

