/- Items and bytes appended; bytes that are cut off; conclavekeep.Items; the law ShellCuts. -/
import Derived.Test.YtfpigjgomcilbaaGreatDoorREa
import Derived.Deep.QuietTactic
import Derived.BigQuiet
import Derived.Deep.RegionLaw
import Derived.Test.YtfpigjgomcilbaaGreatDoorRWa
import Derived.Deep.Onto
import Derived.Laws.IdiomStrings
import Derived.Lib.BufferRead
import Derived.Deep.RegionHeld3
import Derived.Test.YtfpigjgomcilbaaGreatDoorRDa
import Derived.Test.YtfpigjgomcilbaaGreatDoorREvPr
import Derived.Test.YtfpigjgomcilbaaGreatDoorRProg
import Derived.WalkKit
import Derived.Lib.Hide
import Derived.KernelRfl
import Derived.Test.YtfpigjgomcilbaaGreatDoorRSk
import Derived.Deep.CutBlock
import Derived.Deep.DeepCutAuto
set_option linter.unusedVariables false
set_option linter.unusedSimpArgs false
namespace Go.Proofs.YtfpigjgomcilbaaGreatDoorR
open Go.RowKit

set_option maxHeartbeats 4000000 in
set_option maxRecDepth 100000 in
theorem keepOps_any (va vb : Value) (l : List OpT) (w : World) (ha : OpsAt w va l) (hb : OpsAt w vb l) :
    Calls Tryz.prog 29 #[va, vb] w fun e w' => e = .returned (.bool true) ∧ Below w.heap.size w w' := by
  obtain ⟨a, c, rfl, hlc, hcm, ha⟩ := ha
  obtain ⟨a', c', rfl, hlc', hcm', hb⟩ := hb
  have hm : c ≤ 9223372036854775807 := by unfold maxLen at hcm; omega
  have HA := Lib.hid ha
  have HB := Lib.hid hb
  clear ha hb
  go_enter Tryz.func29, Tryz.ntmps29
  go_wp2_with (fail)
  go_loopw [5] (fun i wr => ∃ k : Nat, i = .int .i64 k ∧ k ≤ l.length ∧ Below w.heap.size w wr) (fun i _ => l.length - (intOf i).toNat)
  case atStart => exact ⟨0, rfl, by omega, Below.refl _ _⟩
  case round =>
    obtain ⟨k, rfl, hk, hbw⟩ := hrel
    by_cases hlt : k < l.length
    · have ho : ∃ o, l[k]? = some o := ⟨_, List.getElem?_eq_getElem hlt⟩
      obtain ⟨o, ho⟩ := ho
      rcases HA.out with h0 | ⟨b1, o1, rfl, hb1, hs1⟩
      · omega
      rcases HB.out with h0 | ⟨b2, o2, rfl, hb2, hs2⟩
      · omega
      obtain ⟨d0, d1, d2, d3⟩ := hs1 k o ho
      obtain ⟨g0, g1, g2, g3⟩ := hs2 k o ho
      have c0 := (hbw.cell (p := ⟨b1, o1 + k * 4, none⟩) hb1).trans d0
      have c1 := (hbw.cell (p := ⟨b1, o1 + k * 4 + 1, none⟩) hb1).trans d1
      have c2 := (hbw.cell (p := ⟨b1, o1 + k * 4 + 2, none⟩) hb1).trans d2
      have c3 := (hbw.cell (p := ⟨b1, o1 + k * 4 + 3, none⟩) hb1).trans d3
      have e0 := (hbw.cell (p := ⟨b2, o2 + k * 4, none⟩) hb2).trans g0
      have e1 := (hbw.cell (p := ⟨b2, o2 + k * 4 + 1, none⟩) hb2).trans g1
      have e2 := (hbw.cell (p := ⟨b2, o2 + k * 4 + 2, none⟩) hb2).trans g2
      have e3 := (hbw.cell (p := ⟨b2, o2 + k * 4 + 3, none⟩) hb2).trans g3
      have HS1 := Lib.hid hs1
      have HS2 := Lib.hid hs2
      have HBw := Lib.hid hbw
      clear hs1 hs2 d0 d1 d2 d3 g0 g1 g2 g3 ho hbw
      go_wp2
      go_quiet (fail)
      go_wp2
      go_roundw
      case rel => exact ⟨k + 1, by simp, by omega, ⟨HBw.out.os, HBw.out.tape, HBw.out.output, HBw.out.size, HBw.out.block⟩⟩
      case measure => simp [intOf]; omega
    · obtain rfl : k = l.length := by omega
      have HBw := Lib.hid hbw; clear hbw
      go_wp2_with (fail)
      go_ret
      exact ⟨rfl, HBw.out⟩

set_option maxHeartbeats 4000000 in
set_option maxRecDepth 100000 in
theorem keepItem_any (va vb : Value) (x : ItT) (w : World) (ha : OpsAt w va x.ops) (hb : OpsAt w vb x.ops) :
    Calls Tryz.prog 18 #[.agg (itCells x va), .agg (itCells x vb)] w fun e w' => e = .returned (.bool true) ∧ Below w.heap.size w w' := by
  have b1 : Below w.heap.size w (w.alloc (.cells (itCells x va) 34)) := (Below.refl _ _).alloc (Nat.le_refl _) _
  have b2 : Below w.heap.size w ((w.alloc (.cells (itCells x va) 34)).alloc (.cells (itCells x vb) 34)) := b1.alloc b1.size _
  have HA := Lib.hid (ha.below b2)
  have HB := Lib.hid (hb.below b2)
  have HW := Lib.hid b2
  obtain ⟨a, c, rfl, _, _, _⟩ := ha
  obtain ⟨a', c', rfl, _, _, _⟩ := hb
  clear b1 b2
  unfold itCells at *
  go_enter Tryz.func18, Tryz.ntmps18
  go_wp2_with (fail)
  refine (keepOps_any _ _ x.ops _ HA.out HB.out).mono ?_
  rintro e w' ⟨rfl, hbw⟩
  have HBw := Lib.hid (HW.out.trans (hbw.mono HW.out.size))
  clear hbw
  go_wp2_with (fail)
  go_ret
  exact ⟨rfl, HBw.out⟩

set_option maxHeartbeats 4000000 in
set_option maxRecDepth 100000 in
theorem keepItems_any (va vb : Value) (l : List ItT) (w : World) (ha : ItsAt w va l) (hb : ItsAt w vb l) (hlm : l.length ≤ 4096) :
    Calls Tryz.prog 6 #[va, vb] w fun e w' => e = .returned (.bool true) ∧ Below w.heap.size w w' := by
  obtain ⟨a, c, rfl, hlc, ha⟩ := ha
  obtain ⟨a', c', rfl, hlc', hb⟩ := hb
  have HA := Lib.hid ha
  have HB := Lib.hid hb
  clear ha hb
  go_enter Tryz.func6, Tryz.ntmps6
  go_wp2_with (fail)
  go_loopw [5] (fun i wr => ∃ k : Nat, i = .int .i64 k ∧ k ≤ l.length ∧ Below w.heap.size w wr) (fun i _ => l.length - (intOf i).toNat)
  case atStart => exact ⟨0, rfl, by omega, Below.refl _ _⟩
  case round =>
    obtain ⟨k, rfl, hk, hbw⟩ := hrel
    by_cases hlt : k < l.length
    · have ho : ∃ o, l[k]? = some o := ⟨_, List.getElem?_eq_getElem hlt⟩
      obtain ⟨x, ho⟩ := ho
      rcases HA.out with h0 | ⟨b1, o1, rfl, hb1, hs1⟩
      · omega
      rcases HB.out with h0 | ⟨b2, o2, rfl, hb2, hs2⟩
      · omega
      obtain ⟨d0, d1, d2, d3, d4, d5, d6, v1, d7, hO1⟩ := hs1 k x ho
      obtain ⟨g0, g1, g2, g3, g4, g5, g6, v2, g7, hO2⟩ := hs2 k x ho
      have c0 := (hbw.cell (p := ⟨b1, o1 + k * 8, none⟩) hb1).trans d0
      have c1 := (hbw.cell (p := ⟨b1, o1 + k * 8 + 1, none⟩) hb1).trans d1
      have c2 := (hbw.cell (p := ⟨b1, o1 + k * 8 + 2, none⟩) hb1).trans d2
      have c3 := (hbw.cell (p := ⟨b1, o1 + k * 8 + 3, none⟩) hb1).trans d3
      have c4 := (hbw.cell (p := ⟨b1, o1 + k * 8 + 4, none⟩) hb1).trans d4
      have c5 := (hbw.cell (p := ⟨b1, o1 + k * 8 + 5, none⟩) hb1).trans d5
      have c6 := (hbw.cell (p := ⟨b1, o1 + k * 8 + 6, none⟩) hb1).trans d6
      have c7 := (hbw.cell (p := ⟨b1, o1 + k * 8 + 7, none⟩) hb1).trans d7
      have e0 := (hbw.cell (p := ⟨b2, o2 + k * 8, none⟩) hb2).trans g0
      have e1 := (hbw.cell (p := ⟨b2, o2 + k * 8 + 1, none⟩) hb2).trans g1
      have e2 := (hbw.cell (p := ⟨b2, o2 + k * 8 + 2, none⟩) hb2).trans g2
      have e3 := (hbw.cell (p := ⟨b2, o2 + k * 8 + 3, none⟩) hb2).trans g3
      have e4 := (hbw.cell (p := ⟨b2, o2 + k * 8 + 4, none⟩) hb2).trans g4
      have e5 := (hbw.cell (p := ⟨b2, o2 + k * 8 + 5, none⟩) hb2).trans g5
      have e6 := (hbw.cell (p := ⟨b2, o2 + k * 8 + 6, none⟩) hb2).trans g6
      have e7 := (hbw.cell (p := ⟨b2, o2 + k * 8 + 7, none⟩) hb2).trans g7
      have HO1 := Lib.hid (hO1.below hbw)
      have HO2 := Lib.hid (hO2.below hbw)
      obtain ⟨a1, q1, rfl, _, _, _⟩ := hO1
      obtain ⟨a2, q2, rfl, _, _, _⟩ := hO2
      have HS1 := Lib.hid hs1
      have HS2 := Lib.hid hs2
      have HBw := Lib.hid hbw
      clear hs1 hs2 d0 d1 d2 d3 d4 d5 d6 d7 g0 g1 g2 g3 g4 g5 g6 g7 ho hbw
      go_wp2
      go_region_law (go_simp; go_at_call 18; refine (keepItem_any _ _ x wr.drew HO1.out HO2.out).mono ?_; rintro e w' ⟨rfl, hb2⟩)
      all_goals
        go_wp2
        go_roundw
        case rel => exact ⟨k + 1, by simp, by omega, HBw.out.trans ((show Below wr.heap.size wr _ from ⟨hb2.os, hb2.tape, hb2.output, hb2.size, hb2.block⟩).mono HBw.out.size)⟩
        case measure => simp [intOf]; omega
    · obtain rfl : k = l.length := by omega
      have HBw := Lib.hid hbw; clear hbw
      go_wp2_with (fail)
      go_ret
      exact ⟨rfl, HBw.out⟩
end Go.Proofs.YtfpigjgomcilbaaGreatDoorR

namespace Go.Proofs.YtfpigjgomcilbaaGreatDoorR
open Go.RowKit

section
variable {P : Program} (w : World)
/-- bytes that lie somewhere, behind what is owned -/
theorem run_append_by (t ty e : TypeId) (i : TypeInfo) (ht : P.underlying t = some (.slice e)) (hi : P.info? e = some i) (hz : i.zero = some (.int .u8 0)) (hsize : i.size = 1) (hby : i.bytes = 1)
    (base : Nat) (v : Value) (n : Nat) (xs : List Value) (hown : w.ownsRow base e 1 v n xs) (s : Value) (L : List UInt8) (hs : ByAt w s L) (hlen : n + L.length ≤ 140737488355328) (hbase : base ≤ w.heap.size) :
    ∃ v' w', (Builtin.append_ #[t, t] ty #[v, s]).run P w = .ok v' w' ∧ w'.ownsRow base e 1 v' (n + L.length) (xs ++ Lib.byteCells L) ∧ w.grownBy w' v.ownBlock ∧ (v'.ownBlock = v.ownBlock ∨ v'.ownBlock = some w.heap.size) := by
  obtain ⟨a, c, rfl, ⟨rfl, rfl⟩ | ⟨g, o, rfl, hc⟩⟩ := hs
  · refine ⟨v, w, ?_, ?_, ⟨rfl, rfl, rfl, Nat.le_refl _, fun _ _ _ => rfl⟩, .inl rfl⟩
    · rcases hown.2 with ⟨rfl, rfl⟩ | ⟨g, cap, cur, rfl, _, _, hnc, _⟩
      · simp [Builtin.append_, run_underlying ht, sizeOf, typeInfo, hi, Builtin.lenOf, Builtin.firstCells]
      · simp [Builtin.append_, run_underlying ht, sizeOf, typeInfo, hi, Builtin.lenOf, Builtin.firstCells, hnc, storeCells]
    · show w.ownsRow base e 1 v (n + 0) (xs ++ [])
      rw [List.append_nil]
      exact hown
  · obtain ⟨v', w', hr, h2, h3, _, h5⟩ := run_append_own_at (P := P) w base t ty e i (.int .u8 0) 1 1 ht hi hz hsize hby rfl (by omega) v n xs hown ⟨g, o, none⟩ L.length c (Lib.byteCells L) (by rw [Lib.byteCells_length]; omega)
      (fun j u hj => by
        unfold Lib.byteCells at hj
        rw [List.getElem?_map, Option.map_eq_some_iff] at hj
        obtain ⟨x, hx, rfl⟩ := hj
        have e : (⟨g, o, none⟩ : Addr).add j = ⟨g, o + j, none⟩ := by
          unfold Addr.add
          split
          · rename_i h; subst h; rfl
          · rfl
        rw [e]
        exact hc j x hx)
      (fun u hu => by
        unfold Lib.byteCells at hu
        obtain ⟨x, _, rfl⟩ := List.mem_map.1 hu
        rfl) (by unfold maxLen; omega) (by omega) hbase
    exact ⟨v', w', hr, h2, h3, h5⟩
theorem wp_append_by {o : Oper} {a : Act} {K : Act → World → Prop} {Q : Exit → Act → World → Prop} (sl x : Operand) (t : TypeId) (ho : o.op = .call { callee := .builtin .append, args := #[sl, x], argTypes := #[t, t] })
    (e : TypeId) (i : TypeInfo) (ht : P.underlying t = some (.slice e)) (hi : P.info? e = some i) (hz : i.zero = some (.int .u8 0)) (hsize : i.size = 1) (hby : i.bytes = 1)
    (base : Nat) (v : Value) (n : Nat) (xs : List Value) (hs : a.eval sl = v) (hown : w.ownsRow base e 1 v n xs) (s : Value) (L : List UInt8) (hx : a.eval x = s) (hL : ByAt w s L) (hlen : n + L.length ≤ 140737488355328) (hbase : base ≤ w.heap.size)
    (h : ∀ v' w', w'.ownsRow base e 1 v' (n + L.length) (xs ++ Lib.byteCells L) → w.grownBy w' v.ownBlock → (v'.ownBlock = v.ownBlock ∨ v'.ownBlock = some w.heap.size) → K (a.put o.dst v') w') : o.wp P a w K Q := by
  obtain ⟨v', w', hr, h2, h3, h4⟩ := run_append_by (P := P) w t o.type e i ht hi hz hsize hby base v n xs hown s L hL hlen hbase
  unfold Oper.wp execOp
  simp only [ho, resolve, invoke, builtin, Sem.run_bind, Sem.run_pure, Result.andThen_ok, List.map_toArray, List.map_cons, List.map_nil, hs, hx, hr]
  exact h v' w' h2 h3 h4
theorem wpList_append_by {ops : Array Oper} {rest : List Oper} {o : Oper} {a : Act} {Q : Exit → Act → World → Prop} (hgd : o.guard = none) (sl x : Operand) (t : TypeId) (ho : o.op = .call { callee := .builtin .append, args := #[sl, x], argTypes := #[t, t] })
    (e : TypeId) (i : TypeInfo) (ht : P.underlying t = some (.slice e)) (hi : P.info? e = some i) (hz : i.zero = some (.int .u8 0)) (hsize : i.size = 1) (hby : i.bytes = 1)
    (base : Nat) (v : Value) (n : Nat) (xs : List Value) (hs : a.eval sl = v) (hown : w.ownsRow base e 1 v n xs) (s : Value) (L : List UInt8) (hx : a.eval x = s) (hL : ByAt w s L) (hlen : n + L.length ≤ 140737488355328) (hbase : base ≤ w.heap.size)
    (h : ∀ v' w', w'.ownsRow base e 1 v' (n + L.length) (xs ++ Lib.byteCells L) → w.grownBy w' v.ownBlock → (v'.ownBlock = v.ownBlock ∨ v'.ownBlock = some w.heap.size) → wpList P ops Q rest (a.put o.dst v') w') : wpList P ops Q (o :: rest) a w :=
  wpList_plain hgd fun _ hK => wp_append_by w sl x t ho e i ht hi hz hsize hby base v n xs hs hown s L hx hL hlen hbase fun v' w' h2 h3 h4 => hK _ _ (h v' w' h2 h3 h4)
theorem step_append_by {ops : Array Oper} {o : Oper} {a : Act} {K : Act → World → Prop} {Q : Exit → Act → World → Prop} {E : Prop} (hgd : o.guard = none) (sl x : Operand) (t : TypeId) (ho : o.op = .call { callee := .builtin .append, args := #[sl, x], argTypes := #[t, t] })
    (e : TypeId) (i : TypeInfo) (ht : P.underlying t = some (.slice e)) (hi : P.info? e = some i) (hz : i.zero = some (.int .u8 0)) (hsize : i.size = 1) (hby : i.bytes = 1)
    (base : Nat) (v : Value) (n : Nat) (xs : List Value) (hs : a.eval sl = v) (hown : w.ownsRow base e 1 v n xs) (s : Value) (L : List UInt8) (hx : a.eval x = s) (hL : ByAt w s L) (hlen : n + L.length ≤ 140737488355328) (hbase : base ≤ w.heap.size)
    (h : ∀ v' w', w'.ownsRow base e 1 v' (n + L.length) (xs ++ Lib.byteCells L) → w.grownBy w' v.ownBlock → (v'.ownBlock = v.ownBlock ∨ v'.ownBlock = some w.heap.size) → K (a.put o.dst v') w') :
    if Region.wanted o (yielded ops a.tmps) = true then Oper.wp P o a w K Q else E := by
  have hw : Region.wanted o (yielded ops a.tmps) = true := by simp [Region.wanted, hgd]
  rw [if_pos hw]
  exact wp_append_by w sl x t ho e i ht hi hz hsize hby base v n xs hs hown s L hx hL hlen hbase h
end

/-- one byte in a block of its own -/
theorem ByAt.one (w : World) (c : UInt8) (z : Int) (hz : z = (c.toNat : Int)) (t : TypeId) (b : Nat) (hb : w.heap[b]? = some (.cells #[.int .u8 z] t (0, 0))) : ByAt w (.slice (some ⟨b, 0, none⟩) 1 1) [c] := by
  subst hz
  refine ⟨_, 1, rfl, .inr ⟨b, 0, rfl, fun j x hj => ?_⟩⟩
  cases j with
  | zero =>
    simp at hj
    subst hj
    rw [Nat.zero_add, Lib.cell_of_heap hb]
    rfl
  | succ j => simp at hj
theorem own_empty (w : World) (B : Nat) (e : TypeId) (b : Nat) (hB : B ≤ b) (hb : w.heap[b]? = some (.cells #[] e (0, 0))) : w.ownsRow B e 1 (.slice (some ⟨b, 0, none⟩) 0 0) 0 [] :=
  ⟨rfl, .inr ⟨b, 0, #[], rfl, hB, hb, Nat.le_refl _, by unfold maxLen; omega, rfl, rfl⟩⟩
/-- bytes that fill a block -/
theorem byAt_blk {w : World} {b : Nat} {L : List UInt8} {t : TypeId} (h : w.heap[b]? = some (.cells (Lib.byteCells L).toArray t (0, 0))) : ByAt w (.slice (some ⟨b, 0, none⟩) L.length L.length) L := by
  refine ⟨_, L.length, rfl, .inr ⟨b, 0, rfl, fun j x hj => ?_⟩⟩
  rw [Nat.zero_add, Lib.cell_of_heap h]
  unfold Lib.byteCells
  simp [hj]
theorem hcell {w : World} {b : Nat} {c c' : Array Value} {t : TypeId} (h : c = c') (hb : w.heap[b]? = some (.cells c t (0, 0))) : w.heap[b]? = some (.cells c' t (0, 0)) := by
  rw [← h]
  exact hb
/-- bytes that are the call's own, from block B on -/
def OwnB (B : Nat) (v : Value) (bs : List UInt8) (w : World) : Prop := w.ownsRow B 5 1 v bs.length (Lib.byteCells bs)
theorem OwnB.by {B : Nat} {v : Value} {bs : List UInt8} {w : World} (h : OwnB B v bs w) : ByAt w v bs := ByAt.of_own h
theorem OwnB.mono {B B' : Nat} {v : Value} {bs : List UInt8} {w : World} (h : OwnB B v bs w) (hb : B' ≤ B) : OwnB B' v bs w := World.ownsRow.mono h hb


end Go.Proofs.YtfpigjgomcilbaaGreatDoorR

namespace Go.Proofs.YtfpigjgomcilbaaGreatDoorR
open Go.RowKit

section
variable {P : Program} (w : World)
/-- things that lie somewhere, behind what is owned; the source may be nil -/
theorem run_append_any (t ty e : TypeId) (i : TypeInfo) (z : Value) (size bytes : Nat) (ht : P.underlying t = some (.slice e)) (hi : P.info? e = some i) (hz : i.zero = some z) (hsize : i.size = size) (hby : i.bytes = bytes) (hzs : z.cells.size = size) (hsz : 0 < size)
    (base : Nat) (v : Value) (n : Nat) (xs : List Value) (hown : w.ownsRow base e size v n xs) (a : Option Addr) (m c : Nat) (ys : List Value) (hyl : ys.length = m * size) (h1 : ∀ u ∈ ys, u.oneCell' = true)
    (hs : (m = 0 ∧ a = none) ∨ ∃ ad, a = some ad ∧ ∀ j u, ys[j]? = some u → w.cell? (ad.add j) = some u) (h63 : n + m ≤ maxLen) (hlen : (n + m) * bytes ≤ 140737488355328) (hbase : base ≤ w.heap.size) :
    ∃ v' w', (Builtin.append_ #[t, t] ty #[v, .slice a m c]).run P w = .ok v' w' ∧ w'.ownsRow base e size v' (n + m) (xs ++ ys) ∧ w.grownBy w' v.ownBlock := by
  rcases hs with ⟨rfl, rfl⟩ | ⟨ad, rfl, hc⟩
  · have hy0 : ys = [] := List.eq_nil_of_length_eq_zero (by omega)
    subst hy0
    refine ⟨v, w, ?_, ?_, ⟨rfl, rfl, rfl, Nat.le_refl _, fun _ _ _ => rfl⟩⟩
    · rcases hown.2 with ⟨rfl, rfl⟩ | ⟨g, cap, cur, rfl, _, _, hnc, _⟩
      · simp [Builtin.append_, run_underlying ht, sizeOf, typeInfo, hi, Builtin.lenOf, Builtin.firstCells]
      · simp [Builtin.append_, run_underlying ht, sizeOf, typeInfo, hi, Builtin.lenOf, Builtin.firstCells, hnc, storeCells]
    · show w.ownsRow base e size v (n + 0) (xs ++ [])
      rw [List.append_nil]
      exact hown
  · obtain ⟨v', w', hr, h2, h3, _, _⟩ := run_append_own_at (P := P) w base t ty e i z size bytes ht hi hz hsize hby hzs hsz v n xs hown ad m c ys hyl hc h1 h63 hlen hbase
    exact ⟨v', w', hr, h2, h3⟩
theorem wpList_append_any {ops : Array Oper} {rest : List Oper} {o : Oper} {ac : Act} {Q : Exit → Act → World → Prop} (hgd : o.guard = none) (sl x : Operand) (t : TypeId) (ho : o.op = .call { callee := .builtin .append, args := #[sl, x], argTypes := #[t, t] })
    (e : TypeId) (i : TypeInfo) (z : Value) (size bytes : Nat) (ht : P.underlying t = some (.slice e)) (hi : P.info? e = some i) (hz : i.zero = some z) (hsize : i.size = size) (hby : i.bytes = bytes) (hzs : z.cells.size = size) (hsz : 0 < size)
    (base : Nat) (v : Value) (n : Nat) (xs : List Value) (hv : ac.eval sl = v) (hown : w.ownsRow base e size v n xs) (a : Option Addr) (m c : Nat) (ys : List Value) (hx : ac.eval x = .slice a m c) (hyl : ys.length = m * size) (h1 : ∀ u ∈ ys, u.oneCell' = true)
    (hs : (m = 0 ∧ a = none) ∨ ∃ ad, a = some ad ∧ ∀ j u, ys[j]? = some u → w.cell? (ad.add j) = some u) (h63 : n + m ≤ maxLen) (hlen : (n + m) * bytes ≤ 140737488355328) (hbase : base ≤ w.heap.size)
    (h : ∀ v' w', w'.ownsRow base e size v' (n + m) (xs ++ ys) → w.grownBy w' v.ownBlock → wpList P ops Q rest (ac.put o.dst v') w') : wpList P ops Q (o :: rest) ac w := by
  refine wpList_plain hgd fun K hK => ?_
  obtain ⟨v', w', hr, h2, h3⟩ := run_append_any (P := P) w t o.type e i z size bytes ht hi hz hsize hby hzs hsz base v n xs hown a m c ys hyl h1 hs h63 hlen hbase
  unfold Oper.wp execOp
  simp only [ho, resolve, invoke, builtin, Sem.run_bind, Sem.run_pure, Result.andThen_ok, List.map_toArray, List.map_cons, List.map_nil, hv, hx, hr]
  exact hK _ _ (h v' w' h2 h3)
end

/-- items' cells, one after another; what is known of each one's operations -/
def RowP (Pv : Value → List OpT → Prop) (l : List ItT) (xs : List Value) : Prop :=
  xs.length = l.length * 8 ∧ (∀ u ∈ xs, u.oneCell' = true) ∧ ∀ j x, l[j]? = some x → ∃ vo, (∀ k, k < 8 → xs[j * 8 + k]? = (itCells x vo)[k]?) ∧ Pv vo x.ops
theorem RowP.nil (Pv : Value → List OpT → Prop) : RowP Pv [] [] := ⟨rfl, fun u h => by simp at h, fun j x h => by simp at h⟩
theorem RowP.mono {Pv Pw : Value → List OpT → Prop} {l : List ItT} {xs : List Value} (h : RowP Pv l xs) (hm : ∀ v o, Pv v o → Pw v o) : RowP Pw l xs :=
  ⟨h.1, h.2.1, fun j x hj => by obtain ⟨vo, h1, h2⟩ := h.2.2 j x hj; exact ⟨vo, h1, hm _ _ h2⟩⟩
theorem RowP.append {Pv : Value → List OpT → Prop} {l m : List ItT} {xs ys : List Value} (h : RowP Pv l xs) (k : RowP Pv m ys) : RowP Pv (l ++ m) (xs ++ ys) := by
  refine ⟨by rw [List.length_append, List.length_append, h.1, k.1]; omega, fun u hu => ?_, fun j x hj => ?_⟩
  · rcases List.mem_append.1 hu with h' | h'
    · exact h.2.1 u h'
    · exact k.2.1 u h'
  · have hl := h.1
    by_cases hlt : j < l.length
    · rw [List.getElem?_append_left hlt] at hj
      obtain ⟨vo, h1, h2⟩ := h.2.2 j x hj
      exact ⟨vo, fun q hq => by rw [List.getElem?_append_left (by omega)]; exact h1 q hq, h2⟩
    · rw [List.getElem?_append_right (by omega)] at hj
      obtain ⟨vo, h1, h2⟩ := k.2.2 _ x hj
      refine ⟨vo, fun q hq => ?_, h2⟩
      rw [List.getElem?_append_right (by omega), ← h1 q hq]
      congr 1
      omega
theorem RowP.one {Pv : Value → List OpT → Prop} {x : ItT} {vo : Value} (h1 : vo.oneCell' = true) (h : Pv vo x.ops) : RowP Pv [x] (itCells x vo).toList := by
  refine ⟨rfl, fun u hu => ?_, fun j y hj => ?_⟩
  · simp [itCells] at hu
    rcases hu with rfl | rfl | rfl | rfl | rfl | rfl | rfl | rfl <;> first | rfl | exact h1
  · have hje : j = 0 := by
      have := (List.getElem?_eq_some_iff.1 hj).1
      simp at this
      omega
    subst hje
    simp at hj
    subst hj
    exact ⟨vo, fun k hk => by rw [Nat.zero_mul, Nat.zero_add, Array.getElem?_toList], h⟩
/-- a row that is owned holds items -/
theorem its_of_row {B : Nat} {v : Value} {l : List ItT} {xs : List Value} {w : World} (hrow : w.ownsRow B 34 8 v l.length xs) (h : RowP (fun vo o => OpsAt w vo o) l xs) : ItsAt w v l := by
  have hrow' := hrow
  obtain ⟨hl, ⟨rfl, h0⟩ | ⟨g, cap, cur, rfl, hg, hh, h1, h3, h4, h5⟩⟩ := hrow
  · exact ⟨none, 0, by rw [h0], by omega, .inl h0⟩
  · refine ⟨_, cap, rfl, h1, .inr ⟨g, 0, rfl, (Array.getElem?_eq_some_iff.1 hh).1, fun j x hj => ?_⟩⟩
    obtain ⟨vo, hc, ho⟩ := h.2.2 j x hj
    have key : ∀ k u, k < 8 → (itCells x vo)[k]? = some u → w.cell? ⟨g, 0 + j * 8 + k, none⟩ = some u := fun k u hk hu => by
      have := hrow'.cells (g := g) rfl (j * 8 + k) u (by rw [hc k hk]; exact hu)
      rw [addr_add] at this
      rw [show 0 + j * 8 + k = 0 + (j * 8 + k) by omega]
      exact this
    exact ⟨key 0 _ (by omega) rfl, key 1 _ (by omega) rfl, key 2 _ (by omega) rfl, key 3 _ (by omega) rfl, key 4 _ (by omega) rfl, key 5 _ (by omega) rfl, key 6 _ (by omega) rfl, vo, key 7 _ (by omega) rfl, ho⟩
/-- where a row that is owned lies -/
theorem row_src {B : Nat} {v : Value} {n : Nat} {xs : List Value} {T : TypeId} {w : World} (hrow : w.ownsRow B T 8 v n xs) : ∃ a c, v = .slice a n c ∧ n ≤ c ∧ ((n = 0 ∧ a = none) ∨ ∃ ad, a = some ad ∧ ∀ j u, xs[j]? = some u → w.cell? (ad.add j) = some u) := by
  have hrow' := hrow
  obtain ⟨hl, ⟨rfl, rfl⟩ | ⟨g, cap, cur, rfl, hg, hh, h1, h3, h4, h5⟩⟩ := hrow
  · exact ⟨none, 0, rfl, Nat.le_refl _, .inl ⟨rfl, rfl⟩⟩
  · exact ⟨_, cap, rfl, h1, .inr ⟨_, rfl, fun j u hj => hrow'.cells (g := g) rfl j u hj⟩⟩
theorem own_one {B : Nat} {v : Value} {l : List OpT} {w : World} (h : OwnO B v l w) : v.oneCell' = true := by
  obtain ⟨_, ⟨rfl, _⟩ | ⟨_, _, _, rfl, _⟩⟩ := h
  · rfl
  · rfl
theorem ops_one {v : Value} {l : List OpT} {w : World} (h : OpsAt w v l) : v.oneCell' = true := by
  obtain ⟨_, _, rfl, _⟩ := h
  rfl
/-- what Decode leaves, as a row -/
theorem OutO.row {B : Nat} {v : Value} {l : List ItT} {w : World} (h : OutO B v l w) : ∃ xs, w.ownsRow B 34 8 v l.length xs ∧ RowP (fun vo o => OwnO 0 vo o w) l xs := by
  obtain ⟨xs, hrow, h2⟩ := h
  have hl : xs.length = l.length * 8 := hrow.1
  refine ⟨xs, hrow, hl, fun u hu => ?_, h2⟩
  obtain ⟨i, hi⟩ := List.getElem?_of_mem hu
  have hil := (List.getElem?_eq_some_iff.1 hi).1
  have hx : ∃ x, l[i / 8]? = some x := ⟨_, List.getElem?_eq_getElem (by omega)⟩
  obtain ⟨x, hx⟩ := hx
  obtain ⟨vo, hc, ho⟩ := h2 _ x hx
  have h8 := hc (i % 8) (Nat.mod_lt _ (by omega))
  rw [show i / 8 * 8 + i % 8 = i by omega, hi] at h8
  have hm : u ∈ (itCells x vo) := Array.mem_of_getElem? h8.symm
  simp [itCells] at hm
  rcases hm with rfl | rfl | rfl | rfl | rfl | rfl | rfl | rfl <;> first | rfl | exact own_one ho
end Go.Proofs.YtfpigjgomcilbaaGreatDoorR

namespace Go.Proofs.YtfpigjgomcilbaaGreatDoorR
open Go.RowKit

theorem take_lt {α : Type} {a t : List α} {m : Nat} (h : m ≤ a.length) : (a ++ t).take m = a.take m := List.take_append_of_le_length h
theorem take_ge {α : Type} {a t : List α} {m : Nat} (h : a.length ≤ m) : (a ++ t).take m = a ++ t.take (m - a.length) := by
  rw [List.take_append, List.take_of_length_le h]
theorem gC_none (most : Nat) : gC most none = (0, none) := by
  unfold gC
  split <;> rfl
theorem gT_none (most : Nat) : (gT most none).2 = none := by
  unfold gT
  rw [gC_none]
  rfl
theorem gOp_none : (gOp none).2 = none := by
  unfold gOp
  simp only
  have h1 : (gB 1 none).2 = none := rfl
  rw [h1]
  have h2 := gT_none 255
  rw [h2, h2]
  rfl
theorem gOps_none : ∀ k, (gOps k none).2 = none
  | 0 => rfl
  | k + 1 => by
    rw [gOps_succ]
    simp only
    rw [gOp_none]
    exact gOps_none k
theorem gNums_none : ∀ k, (gNums k none).2 = none
  | 0 => rfl
  | k + 1 => by
    rw [gNums_succ]
    simp only
    exact gNums_none k
theorem gB_cut (n : Int) (k m : Nat) (h : m < k) : gB k (some ((beN n k).take m)) = (0, none) := by
  unfold gB
  simp only
  rw [if_neg]
  rw [List.length_take, beN_len]
  omega
theorem gT_cut {s : ByteArray} (hs : s.size ≤ 255) {m : Nat} (h : m < (textB s).length) : (gT 255 (some ((textB s).take m))).2 = none := by
  have hl : s.data.toList.length = s.size := by rw [Array.length_toList]; rfl
  rw [textB_len] at h
  by_cases h4 : m < 4
  · have e : (textB s).take m = (beN s.size 4).take m := take_lt (by rw [beN_len]; omega)
    have e2 : gC 255 (some ((beN s.size 4).take m)) = (0, none) := by
      unfold gC
      rw [gB_cut _ _ _ h4]
      rfl
    unfold gT
    rw [e, e2]
    rfl
  · have e : (textB s).take m = beN s.size 4 ++ s.data.toList.take (m - 4) := by
      have := take_ge (a := beN s.size 4) (t := s.data.toList) (m := m) (by rw [beN_len]; omega)
      rw [beN_len] at this
      exact this
    have hn := num4 s.size
    have e2 : gC 255 (some (beN s.size 4 ++ s.data.toList.take (m - 4))) = (s.size, some (s.data.toList.take (m - 4))) := by
      unfold gC
      rw [gB_app]
      rw [if_neg (by simp only; omega)]
      congr 1
      omega
    unfold gT
    rw [e, e2]
    unfold gRaw
    simp only
    rw [if_neg (by rw [List.length_take]; omega)]
theorem gOp_cut {o : OpT} (h : opOk o = true) {m : Nat} (hm : m < (opB o).length) : (gOp (some ((opB o).take m))).2 = none := by
  have hl := opB_len o
  unfold opOk at h
  simp only [Bool.and_eq_true, decide_eq_true_eq] at h
  obtain ⟨⟨h1, h2⟩, h3, h4, h5⟩ := h
  unfold gOp
  simp only
  by_cases q1 : m < 1
  · have e : (opB o).take m = (beN o.kind 1).take m := take_lt (by rw [beN_len]; omega)
    rw [e, gB_cut _ _ _ q1]
    simp only
    rw [gT_none, gT_none]
    rfl
  have e1 : (opB o).take m = beN o.kind 1 ++ (textB o.cas ++ (textB o.name ++ beN o.n 4)).take (m - 1) := by
    have := take_ge (a := beN o.kind 1) (t := textB o.cas ++ (textB o.name ++ beN o.n 4)) (m := m) (by rw [beN_len]; omega)
    rw [beN_len] at this
    exact this
  rw [e1, gB1_app h1 h2]
  simp only
  by_cases q2 : m - 1 < (textB o.cas).length
  · rw [take_lt (by omega)]
    rw [gT_cut h3 q2, gT_none]
    rfl
  rw [take_ge (by omega), gT_app h3]
  simp only
  by_cases q3 : m - 1 - (textB o.cas).length < (textB o.name).length
  · rw [take_lt (by omega), gT_cut h4 q3]
    rfl
  rw [take_ge (by omega), gT_app h4]
  simp only
  have q4 : m - 1 - (textB o.cas).length - (textB o.name).length < 4 := by
    rw [textB_len, textB_len]
    omega
  unfold gS
  rw [gB_cut _ _ _ q4]
theorem gOps_cut : ∀ (l : List OpT) (m : Nat), l.all opOk = true → m < (opsB l).length → (gOps l.length (some ((opsB l).take m))).2 = none
  | [], m, _, hm => by simp [opsB] at hm
  | o :: r, m, h, hm => by
    rw [List.all_cons, Bool.and_eq_true] at h
    have e : opsB (o :: r) = opB o ++ opsB r := by unfold opsB; rw [List.flatMap_cons]
    rw [e] at hm ⊢
    rw [List.length_append] at hm
    rw [List.length_cons, gOps_succ]
    simp only
    by_cases q : m < (opB o).length
    · rw [take_lt (by omega), gOp_cut h.1 q]
      exact gOps_none _
    · rw [take_ge (by omega), gOp_app h.1]
      simp only
      exact gOps_cut r _ h.2 (by omega)
theorem gNums_cut : ∀ (l : List Int) (m : Nat), l.all sm = true → m < (fours l).length → (gNums l.length (some ((fours l).take m))).2 = none
  | [], m, _, hm => by simp [fours] at hm
  | o :: r, m, h, hm => by
    rw [List.all_cons, Bool.and_eq_true] at h
    have e : fours (o :: r) = beN o 4 ++ fours r := by unfold fours; rw [List.flatMap_cons]
    rw [e] at hm ⊢
    rw [List.length_append, beN_len] at hm
    rw [List.length_cons, gNums_succ]
    simp only
    by_cases q : m < 4
    · rw [take_lt (by rw [beN_len]; omega)]
      unfold gS
      rw [gB_cut _ _ _ q]
      exact gNums_none _
    · rw [take_ge (by rw [beN_len]; omega), gS_app h.1, beN_len]
      simp only
      exact gNums_cut r _ h.2 (by omega)
def bodyB (x : ItT) : List UInt8 := fours (nums x) ++ (beN x.ops.length 1 ++ opsB x.ops)
theorem gItem_cut {x : ItT} (h : itOk x = true) {m : Nat} (hm : m < (bodyB x).length) : gItem x.kind ((bodyB x).take m) = none := by
  unfold itOk at h
  simp only [Bool.and_eq_true, decide_eq_true_eq] at h
  obtain ⟨⟨h1, h2⟩, h3, h4, h5⟩ := h
  have hf : (fours (nums x)).length = 24 := by rw [fours_len]; rfl
  unfold bodyB at hm ⊢
  rw [List.length_append, List.length_append, beN_len, hf] at hm
  have key : ∀ s : RSt, s = none → (if 4 < (gB 1 s).1 then (none : Option (ItT × List UInt8)) else match (gOps (gB 1 s).1 (gB 1 s).2).2 with | none => none | some t => some (itOf x.kind (gNums 6 (some ((fours (nums x) ++ (beN x.ops.length 1 ++ opsB x.ops)).take m))).1 (gOps (gB 1 s).1 (gB 1 s).2).1, t)) = none := by
    rintro s rfl
    rfl
  unfold gItem
  simp only
  by_cases q1 : m < 24
  · have e : (fours (nums x) ++ (beN x.ops.length 1 ++ opsB x.ops)).take m = (fours (nums x)).take m := take_lt (by omega)
    have hn := gNums_cut (nums x) m h4 (by omega)
    rw [show (nums x).length = 6 from rfl] at hn
    rw [e, hn]
    rfl
  have e1 : (fours (nums x) ++ (beN x.ops.length 1 ++ opsB x.ops)).take m = fours (nums x) ++ (beN x.ops.length 1 ++ opsB x.ops).take (m - 24) := by
    have := take_ge (a := fours (nums x)) (t := beN x.ops.length 1 ++ opsB x.ops) (m := m) (by omega)
    rw [hf] at this
    exact this
  have e2 := gNums_app (nums x) ((beN x.ops.length 1 ++ opsB x.ops).take (m - 24)) h4
  rw [show (nums x).length = 6 from rfl] at e2
  rw [e1, e2]
  simp only
  by_cases q2 : m - 24 < 1
  · rw [take_lt (by rw [beN_len]; omega), gB_cut _ _ _ q2]
    rfl
  rw [take_ge (by rw [beN_len]; omega), beN_len, gB1_app (by omega) (by omega)]
  simp only [Int.toNat_natCast]
  rw [if_neg (by omega), gOps_cut x.ops (m - 24 - 1) h5 (by omega)]
theorem itB_body {x : ItT} (h : itOk x = true) : ∃ c : UInt8, (c.toNat : Int) = x.kind ∧ itB x = c :: bodyB x := by
  obtain ⟨c, h1, h2⟩ := itB_eq h []
  refine ⟨c, h1, ?_⟩
  rw [List.append_nil, List.append_nil] at h2
  exact h2
theorem decL_cut : ∀ (l : List ItT) (f k n : Nat), l.all itOk = true → l.length ≤ k → (itsB l).length < f → ∃ m, m ≤ l.length ∧ decL f k ((itsB l).take n) = l.take m
  | [], f, k, n, _, _, _ => ⟨0, Nat.le_refl _, by simp [itsB, decL_nil]⟩
  | x :: r, f, k, n, h, hk, hf => by
    rw [List.all_cons, Bool.and_eq_true] at h
    have e : itsB (x :: r) = itB x ++ itsB r := by unfold itsB; rw [List.flatMap_cons]
    obtain ⟨c, hc, e2⟩ := itB_body h.1
    have hkk := h.1
    unfold itOk at hkk
    simp only [Bool.and_eq_true, decide_eq_true_eq] at hkk
    rw [e, e2] at hf ⊢
    rw [List.cons_append] at hf ⊢
    simp only [List.length_cons, List.length_append] at hf hk
    cases n with
    | zero => exact ⟨0, Nat.zero_le _, by rw [List.take_zero, decL_nil, List.take_zero]⟩
    | succ n =>
      cases f with
      | zero => omega
      | succ f =>
        rw [List.take_succ_cons, decL_cons, if_neg (by omega), if_neg (by omega), hc]
        by_cases q : n < (bodyB x).length
        · refine ⟨0, Nat.zero_le _, ?_⟩
          rw [take_lt (by omega), gItem_cut h.1 q]
          rfl
        · have hg := gItem_app h.1 ((itsB r).take (n - (bodyB x).length))
          have e3 : (bodyB x ++ itsB r).take n = fours (nums x) ++ (beN x.ops.length 1 ++ (opsB x.ops ++ (itsB r).take (n - (bodyB x).length))) := by
            rw [take_ge (by omega)]
            unfold bodyB
            simp only [List.append_assoc]
          rw [e3, hg]
          simp only
          obtain ⟨m, h1, h2⟩ := decL_cut r f (k - 1) (n - (bodyB x).length) h.2 (by omega) (by omega)
          exact ⟨m + 1, by rw [List.length_cons]; omega, by rw [h2, List.take_succ_cons]⟩
theorem decP_cut {l : List ItT} (h : l.all itOk = true) (hl : l.length ≤ 2048) (n : Nat) : ∃ m, m ≤ l.length ∧ decP ((itsB l).take n) = l.take m := by
  obtain ⟨m, h1, h2⟩ := decL_cut l ((itsB l).length + 1) 2048 n h hl (by omega)
  refine ⟨m, h1, ?_⟩
  rw [← h2]
  unfold decP
  exact decL_fuel _ _ _ _ (by omega) (by rw [List.length_take]; omega)
/-- the bound on items is not felt where the bytes are fewer -/
theorem decL_many : ∀ (r : List UInt8) (f g m k : Nat), r.length < f → r.length < g → r.length < m → r.length < k → decL f m r = decL g k r := by
  intro r
  induction hn : r.length using Nat.strongRecOn generalizing r with
  | _ n ih =>
    intro f g m k hf hg hm hk
    subst hn
    cases r with
    | nil => rw [decL_nil, decL_nil]
    | cons c t =>
      simp only [List.length_cons] at hf hg hm hk ih
      cases f with
      | zero => omega
      | succ f =>
        cases g with
        | zero => omega
        | succ g =>
          rw [decL_cons, decL_cons, if_neg (show ¬ m = 0 by omega), if_neg (show ¬ k = 0 by omega)]
          split
          · exact ih t.length (by omega) t rfl f g m k (by omega) (by omega) (by omega) (by omega)
          · cases hi : gItem c.toNat t with
            | none => rfl
            | some p =>
              obtain ⟨x, t'⟩ := p
              have := gItem_len hi
              simp only
              rw [ih t'.length (by omega) t' rfl f g (m - 1) (k - 1) (by omega) (by omega) (by omega) (by omega)]
/-- what stands behind whole items is read as if alone -/
theorem decP_app {l : List ItT} (h : l.all itOk = true) (b : List UInt8) (hl : l.length + b.length < 2048) : decP (itsB l ++ b) = l ++ decP b := by
  unfold decP
  rw [decL_app l _ 2048 b h (by omega) (by omega)]
  congr 1
  exact decL_many b _ _ _ _ (by rw [List.length_append]; omega) (by omega) (by omega) (by omega)
end Go.Proofs.YtfpigjgomcilbaaGreatDoorR

namespace Go.Proofs.YtfpigjgomcilbaaGreatDoorR
open Go.RowKit Go.Ev

theorem wn_int {k : IntKind} {a b : Int} (h : a = b) : Ending.returned (.int k a) = .returned (.int k b) := by rw [h]

set_option maxHeartbeats 400000 in
theorem within_any (n lo hi : Int) (w : World) (h3 : 0 ≤ lo) (h4 : lo ≤ hi) (h5 : hi ≤ 1000000000) :
    Calls Tryz.prog 10 #[.int .i64 n, .int .i64 lo, .int .i64 hi] w fun e w' => e = .returned (.int .i64 (wthn n lo hi)) ∧ w' = w := by
  have ha := Int.tmod_lt_of_pos n (b := hi - lo + 1) (by omega)
  have hb : -(hi - lo + 1) < n.tmod (hi - lo + 1) := by
    have h3 := Int.tmod_lt_of_pos (-n) (b := hi - lo + 1) (by omega)
    rw [Int.neg_tmod] at h3
    omega
  by_cases hz : n.tmod (hi - lo + 1) < 0
  · have hw : wthn n lo hi = lo + (n.tmod (hi - lo + 1) + (hi - lo + 1)) := by unfold wthn; rw [if_pos hz]
    have HW := Go.Lib.hid hw; clear hw
    go_enter Tryz.func10, Tryz.ntmps10
    go_wp2
    go_ret
    exact ⟨wn_int (by rw [HW.out]; omega), rfl⟩
  · have hw : wthn n lo hi = lo + n.tmod (hi - lo + 1) := by unfold wthn; rw [if_neg hz]
    have HW := Go.Lib.hid hw; clear hw
    go_enter Tryz.func10, Tryz.ntmps10
    go_wp2
    go_ret
    exact ⟨wn_int (by rw [HW.out]), rfl⟩

theorem withinOk : WithinOk Tryz.prog 10 :=
  ⟨⟨_, _, Tryz.func10, by kernel_rfl, rfl⟩, fun n lo hi w h1 h2 h3 => within_any n lo hi w h1 h2 h3⟩
end Go.Proofs.YtfpigjgomcilbaaGreatDoorR

namespace Go.Proofs.YtfpigjgomcilbaaGreatDoorR
open Go.RowKit Go.Ev

theorem its_take {w : World} {a : Option Addr} {c m n : Nat} {l : List ItT} (h : ItsAt w (.slice a n c) l) (hm : m ≤ l.length) : ItsAt w (.slice a m c) (l.take m) := by
  obtain ⟨a', c', hv, hlc, hs⟩ := h
  cases hv
  refine ⟨a, c, by rw [List.length_take, Nat.min_eq_left hm], by rw [List.length_take]; omega, ?_⟩
  rcases hs with h0 | ⟨b, o, rfl, hlt, hs⟩
  · exact .inl (by rw [List.length_take]; omega)
  · refine .inr ⟨b, o, rfl, hlt, fun j x hj => hs j x ?_⟩
    rw [List.getElem?_take] at hj
    split at hj
    · exact hj
    · cases hj
theorem by_take {w : World} {a : Option Addr} {c m n : Nat} {l : List UInt8} (h : ByAt w (.slice a n c) l) (hm : m ≤ l.length) : ByAt w (.slice a m c) (l.take m) := by
  obtain ⟨a', c', hv, hs⟩ := h
  cases hv
  refine ⟨a, c, by rw [List.length_take, Nat.min_eq_left hm], ?_⟩
  rcases hs with ⟨rfl, rfl⟩ | ⟨g, o, rfl, hs⟩
  · exact .inl ⟨rfl, by simp⟩
  · refine .inr ⟨g, o, rfl, fun j x hj => hs j x ?_⟩
    rw [List.getElem?_take] at hj
    split at hj
    · exact hj
    · cases hj
theorem decL_most : ∀ (f m : Nat) (r : List UInt8), (decL f m r).length ≤ m
  | 0, m, r => Nat.zero_le _
  | f + 1, m, [] => Nat.zero_le _
  | f + 1, m, c :: t => by
    rw [decL_cons]
    split
    · exact Nat.zero_le _
    split
    · exact decL_most f m t
    · cases hi : gItem c.toNat t with
      | none => exact Nat.zero_le _
      | some p =>
        obtain ⟨x, t'⟩ := p
        have := decL_most f (m - 1) t'
        simp only [List.length_cons]
        omega
theorem wthn_bounds (n : Int) (k : Nat) : 0 ≤ wthn n 0 k ∧ wthn n 0 k ≤ k := by
  have ha := Int.tmod_lt_of_pos n (b := (k : Int) - 0 + 1) (by omega)
  have hb : -((k : Int) - 0 + 1) < n.tmod ((k : Int) - 0 + 1) := by
    have h3 := Int.tmod_lt_of_pos (-n) (b := (k : Int) - 0 + 1) (by omega)
    rw [Int.neg_tmod] at h3
    omega
  unfold wthn
  split <;> omega
theorem out_slice {B : Nat} {v : Value} {l : List ItT} {w : World} (h : OutO B v l w) : ∃ a c, v = .slice a l.length c ∧ l.length ≤ c := by
  obtain ⟨xs, hrow, _⟩ := h
  obtain ⟨a, c, h1, h2, _⟩ := row_src hrow
  exact ⟨a, c, h1, h2⟩
theorem ops_below {w w' : World} {v : Value} {l : List OpT} (h : OpsAt w v l) (hb : Below w.heap.size w w') : OpsAt w' v l := h.below hb

set_option maxHeartbeats 8000000 in
set_option maxRecDepth 100000 in
theorem shellCuts_cut (a : Option Addr) (n c : Nat) (l : List ItT) (cut : Int) (ba : Option Addr) (bn bc : Nat) (bs : List UInt8) (w : World) (hl : l.length = n) (hnc : n ≤ c) (hI0 : ItsAt w (.slice a n c) l)
    (hn1 : bn ≤ 500 → bs.length = bn) (hn2 : 500 < bn → bs.length = 500) (hbnc : bn ≤ bc) (hb : ByAt w (.slice ba bs.length bc) bs) (htab : Lib.TabIs Tryz.prog w tabName .u64 Lib.pow10Tab) :
    Calls Tryz.prog 4 #[.slice a n c, .int .i64 cut, .slice ba bn bc] w fun e w' => e = .returned (.bool true) ∧ Below w.heap.size w w' := by
  obtain ⟨i0, hi, hz0, hz1, hz2⟩ := info_parts itInfoB
  obtain ⟨j0, hj, hy0, hy1, hy2⟩ := info_parts wrInfoB
  have h500 : bs.length ≤ 500 := by
    by_cases h : bn ≤ 500
    · rw [hn1 h]; exact h
    · rw [hn2 (by omega)]; exact Nat.le_refl _
  have HTab := Lib.hid htab; clear htab
  have HN := Lib.hid (And.intro hn1 hn2); clear hn1 hn2
  have HBy := Lib.hid hb; clear hb
  obtain ⟨a', c', hv, hlc, hI⟩ := hI0
  cases hv
  have HI := Lib.hid hI; clear hI
  clear hl
  go_enter Tryz.func4, Tryz.ntmps4
  go_wp2_with (fail)
  go_loopw [7, 8] (fun sv i wr => ∃ (k : Nat) (sel : List ItT) (xs : List Value) (sa : Option Addr) (sc : Nat), sv = .slice sa sel.length sc ∧ i = .int .i64 k ∧ k ≤ l.length ∧ k ≤ 20 ∧ sel.length ≤ k ∧ Hid (sel.all itOk = true) ∧ Hid (wr.ownsRow w.heap.size 34 8 (.slice sa sel.length sc) sel.length xs) ∧ Hid (RowP (fun vo o => OpsAt w vo o) sel xs) ∧ Below w.heap.size w wr) (fun _ i _ => l.length - (intOf i).toNat)
  case atStart => exact ⟨0, [], [], none, 0, rfl, rfl, by omega, by omega, Nat.le_refl _, Lib.hid rfl, Lib.hid ⟨rfl, .inl ⟨rfl, rfl⟩⟩, Lib.hid (RowP.nil _), Below.refl _ _⟩
  case round =>
    obtain ⟨k, sel, xs, sa, sc, rfl, rfl, hk, hk20, hsk, HAl, HRow, HRP, hbw⟩ := hrel
    by_cases hgo : k < l.length ∧ k < 20
    · obtain ⟨hlt, hlt20⟩ := hgo
      have hx : ∃ x, l[k]? = some x := ⟨_, List.getElem?_eq_getElem hlt⟩
      obtain ⟨x, hx⟩ := hx
      rcases HI.out with h0 | ⟨ib, io, rfl, hib, his⟩
      · omega
      obtain ⟨d0, d1, d2, d3, d4, d5, d6, vo, d7, hO⟩ := his k x hx
      have c0 := (hbw.cell (p := ⟨ib, io + k * 8, none⟩) hib).trans d0
      have c1 := (hbw.cell (p := ⟨ib, io + k * 8 + 1, none⟩) hib).trans d1
      have c2 := (hbw.cell (p := ⟨ib, io + k * 8 + 2, none⟩) hib).trans d2
      have c3 := (hbw.cell (p := ⟨ib, io + k * 8 + 3, none⟩) hib).trans d3
      have c4 := (hbw.cell (p := ⟨ib, io + k * 8 + 4, none⟩) hib).trans d4
      have c5 := (hbw.cell (p := ⟨ib, io + k * 8 + 5, none⟩) hib).trans d5
      have c6 := (hbw.cell (p := ⟨ib, io + k * 8 + 6, none⟩) hib).trans d6
      have c7 := (hbw.cell (p := ⟨ib, io + k * 8 + 7, none⟩) hib).trans d7
      have hOr := hO.below hbw
      have HO := Lib.hid hO
      have HDs := Lib.hid (And.intro d0 (And.intro d1 (And.intro d2 (And.intro d3 (And.intro d4 (And.intro d5 (And.intro d6 d7)))))))
      have hvo := ops_one hO
      have HVo := Lib.hid hvo
      obtain ⟨ao, co, rfl, hoc, hom, hO2⟩ := hO
      have HS := Lib.hid his
      have HBw := Lib.hid hbw
      clear his d0 d1 d2 d3 d4 d5 d6 d7 hO2 hx hbw hvo
      have hkB : decide ((k : Int) < (l.length : Int)) = true := by simp; omega
      have hk2B : decide ((k : Int) < 20) = true := by simp; omega
      go_wp2_with (fail)
      refine (right_any x _ wr hOr).mono ?_
      rintro e Y ⟨rfl, hbY⟩
      have HBY := Lib.hid (HBw.out.trans (hbY.mono HBw.out.size))
      have HRowY := Lib.hid (row_kept HRow.out (w' := Y) (fun g _ hg => hbY.block g hg))
      clear hbY c0 c1 c2 c3 c4 c5 c6 c7
      cases hok : itOk x with
      | false =>
        clear hok
        go_wp2_with (fail)
        go_roundw
        case rel => exact ⟨k + 1, sel, xs, sa, sc, rfl, by simp, by omega, by omega, by omega, HAl, HRowY, HRP, HBY.out⟩
        case measure => simp [intOf]; omega
      | true =>
        have HOk := Lib.hid hok
        obtain ⟨d0, d1, d2, d3, d4, d5, d6, d7⟩ := HDs.out
        have c0 := (HBY.out.cell (p := ⟨ib, io + k * 8, none⟩) hib).trans d0
        have c1 := (HBY.out.cell (p := ⟨ib, io + k * 8 + 1, none⟩) hib).trans d1
        have c2 := (HBY.out.cell (p := ⟨ib, io + k * 8 + 2, none⟩) hib).trans d2
        have c3 := (HBY.out.cell (p := ⟨ib, io + k * 8 + 3, none⟩) hib).trans d3
        have c4 := (HBY.out.cell (p := ⟨ib, io + k * 8 + 4, none⟩) hib).trans d4
        have c5 := (HBY.out.cell (p := ⟨ib, io + k * 8 + 5, none⟩) hib).trans d5
        have c6 := (HBY.out.cell (p := ⟨ib, io + k * 8 + 6, none⟩) hib).trans d6
        have c7 := (HBY.out.cell (p := ⟨ib, io + k * 8 + 7, none⟩) hib).trans d7
        have hba : Below Y.heap.size Y (Y.alloc (.cells (itCells x (.slice ao x.ops.length co)) 34)) := (Below.refl _ _).alloc (Nat.le_refl _) _
        have HRowA := Lib.hid (row_kept HRowY.out (fun g _ hg => hba.block g hg))
        have HNews := Lib.hid (World.news_of_block (cs := itCells x (.slice ao x.ops.length co)) (t := 34) (fr := (0, 0)) (heap_alloc_new Y _))
        have HBa := Lib.hid hba
        have hwY : w.heap.size ≤ (Y.alloc (.cells (itCells x (.slice ao x.ops.length co)) 34)).heap.size := by
          have := HBY.out.size
          simp
          omega
        clear hok d0 d1 d2 d3 d4 d5 d6 d7 hba
        unfold itCells at HRowA HNews hwY HBa
        have hvoc : (Value.slice ao x.ops.length co).oneCell' = true := rfl
        go_wp2_with (at_builtin; refine wpList_append_own _ rfl _ _ 22 rfl w.heap.size 34 i0 _ 8 80 Tryz.underlying22 hi hz0 hz1 hz2 rfl (by omega) (.slice sa sel.length sc) sel.length xs rfl HRowA.out ⟨Y.heap.size, 0, none⟩ 1 1 (itCells x (.slice ao x.ops.length co)).toList rfl rfl HNews.out ?c1 ?c2 ?c3 ?c4 ?_)
        case c1 => exact (RowP.one (Pv := fun _ _ => True) (x := x) hvoc trivial).2.1
        case c2 => unfold maxLen; omega
        case c3 => omega
        case c4 => exact hwY
        intro v' w6 hown6 hg6 _
        obtain ⟨sa', sc', rfl⟩ : ∃ sa' sc', v' = .slice sa' (sel.length + 1) sc' := by
          obtain ⟨q1, q2, q3, _⟩ := row_src hown6
          exact ⟨q1, q2, q3⟩
        have HOw := Lib.hid hown6
        have HB6 := Lib.hid ((HBY.out.trans (HBa.out.mono HBY.out.size)).grown hg6 (by exact hwY) (fun g hg => (HRowA.out.lt g hg).1))
        clear hown6 hg6
        go_wp2_with (fail)
        go_roundw
        case rel =>
          refine ⟨k + 1, sel ++ [x], xs ++ (itCells x (.slice ao x.ops.length co)).toList, sa', sc', by simp, by simp, by omega, by omega, by simp; omega, Lib.hid (by rw [List.all_append, HAl.out]; simp [HOk.out]), Lib.hid ?_, Lib.hid (HRP.out.append (RowP.one hvoc HO.out)), HB6.out⟩
          rw [List.length_append]
          exact HOw.out
        case measure => simp [intOf]; omega
    · have hlast := hgo
      have hkk : k = l.length ∨ (k < l.length ∧ k = 20) := by omega
      have HK := Lib.hid hkk
      have HBw := Lib.hid hbw
      clear hgo hlast hbw hkk
      have hit : ItsAt wr (.slice sa sel.length sc) sel := its_of_row HRow.out (HRP.out.mono fun v o h => h.below HBw.out)
      have HIt := Lib.hid hit; clear hit
      have key : ∀ K : Prop, (k = l.length → K) → (k < l.length ∧ k = 20 → K) → K := fun K h1 h2 => HK.out.elim h1 h2
      by_cases hke : k < l.length
      · have hk20e : decide ((k : Int) < 20) = false := by
          have := HK.out
          simp
          omega
        have hkB : decide ((k : Int) < (l.length : Int)) = true := by simp; omega
        clear key
        go_wp2_with (fail)
        refine (encode_any _ sel wr HIt.out (by omega)).mono ?_
        rintro e Y ⟨hpost, hbY⟩
        rcases hpost with ⟨hall, xv, rfl, hown⟩ | ⟨hall, rfl⟩
        case inr =>
          rw [HAl.out] at hall
          cases hall
        obtain ⟨L, hLe⟩ : ∃ L, itsB sel = L := ⟨_, rfl⟩
        have hlenL := itsB_len sel HAl.out
        rw [hLe] at hown hlenL
        have HLe := Lib.hid hLe
        have HBY := Lib.hid (HBw.out.trans (hbY.mono HBw.out.size))
        have HRowY := Lib.hid (row_kept HRow.out (w' := Y) (fun g _ hg => hbY.block g hg))
        obtain ⟨xa, xc, hxv, hxL⟩ := ByAt.of_own hown
        have hxc : L.length ≤ xc := by
          rcases hown.2 with ⟨hv, h0⟩ | ⟨g, cap, cur, hv, _, _, h1, _⟩
          · omega
          · rw [hxv] at hv
            cases hv
            exact h1
        subst hxv
        have HX : Hid (ByAt Y (.slice xa L.length xc) L) := Lib.hid ⟨xa, xc, rfl, hxL⟩
        clear hbY hown hall hLe hxL
        go_wp2_with (fail)
        obtain ⟨hq0, hq1⟩ := wthn_bounds cut L.length
        refine (within_any cut 0 L.length Y (by omega) (by omega) (by omega)).mono ?_
        rintro e Y' ⟨rfl, rfl⟩
        obtain ⟨q, hq⟩ : ∃ q : Nat, wthn cut 0 L.length = (q : Int) := ⟨_, (Int.toNat_of_nonneg hq0).symm⟩
        rw [hq] at hq0 hq1 ⊢
        have hqL : q ≤ L.length := by omega
        have hqc : (q : Int) ≤ (xc : Int) := by omega
        clear hq
        go_wp2_with (fail)
        refine (decode_any _ (L.take q) Y' (by_take HX.out hqL) ?len).mono ?_
        case len => rw [List.length_take]; omega
        rintro e Z ⟨vd, rfl, hO, hbZ⟩
        obtain ⟨m, hm, hdm⟩ : ∃ m, m ≤ sel.length ∧ decP (L.take q) = sel.take m := by
          rw [← HLe.out]
          exact decP_cut HAl.out (by omega) q
        rw [hdm] at hO
        have hml : (sel.take m).length = m := by rw [List.length_take, Nat.min_eq_left hm]
        obtain ⟨da, dc, rfl, hdc⟩ := out_slice hO
        have HD := Lib.hid hO.its
        rw [hml] at hdc HD ⊢
        have HBZ := Lib.hid (HBY.out.trans (hbZ.mono HBY.out.size))
        have HRowZ := Lib.hid (row_kept HRowY.out (w' := Z) (fun g _ hg => hbZ.block g hg))
        have HXZ := Lib.hid (HX.out.below hbZ)
        have hsc : sel.length ≤ sc := by
          obtain ⟨q1, q2, q3, q4, _⟩ := row_src HRow.out
          cases q3
          exact q4
        have HItZ := Lib.hid (its_take (its_of_row HRowZ.out (HRP.out.mono fun v o h => h.below HBZ.out)) hm)
        clear hO hbZ hdm HX
        have hmB : decide ((sel.length : Int) < (m : Int)) = false := by simp; omega
        have hmc : (m : Int) ≤ (sc : Int) := by omega
        go_wp2_with (fail)
        refine (keepItems_any _ _ (sel.take m) Z HD.out HItZ.out (by omega)).mono ?_
        rintro e X ⟨rfl, hbX⟩
        have HBX := Lib.hid (HBZ.out.trans (hbX.mono HBZ.out.size))
        have HRowX := Lib.hid (row_kept HRowZ.out (w' := X) (fun g _ hg => hbX.block g hg))
        have HXX := Lib.hid (HXZ.out.below hbX)
        have HByX := Lib.hid (HBy.out.below HBX.out)
        have HTX := Lib.hid (tab_below HTab.out HBX.out)
        clear hbX
        go_upto_if 65 with (fail)
        go_cut [2] (fun v wx => v = .slice ba bs.length bc ∧ X = wx)
        case first =>
          by_cases h : 500 < bn
          · have HLb := Lib.hid (HN.out.2 h)
            have h500c : 500 ≤ bc := by omega
            go_wp2_with (fail)
            go_meet
            exact ⟨by rw [HLb.out], rfl⟩
          · have HLb := Lib.hid (HN.out.1 (by omega))
            go_wp2_with (fail)
            go_meet
            exact ⟨by rw [HLb.out], rfl⟩
        case rest =>
        obtain ⟨rfl, rfl⟩ := hcut
        have bE : Below X.heap.size X (X.alloc (.cells #[] 5)) := (Below.refl _ _).alloc (Nat.le_refl _) _
        have o1 : (X.alloc (.cells #[] 5)).ownsRow X.heap.size 5 1 (.slice (some ⟨X.heap.size, 0, none⟩) 0 0) 0 [] := own_empty _ _ _ _ (Nat.le_refl _) (heap_alloc_new X _)
        have HO1 := Lib.hid o1
        have HXa := Lib.hid (HXX.out.below bE)
        have hs0 : X.heap.size ≤ (X.alloc (.cells #[] 5)).heap.size := bE.size
        have HBE := Lib.hid bE
        clear o1 bE
        go_wp2_with (at_builtin; refine wpList_append_by _ rfl _ _ 23 rfl 5 j0 Tryz.underlying23 hj hy0 hy1 hy2 X.heap.size (.slice (some ⟨X.heap.size, 0, none⟩) 0 0) 0 [] rfl HO1.out (.slice xa L.length xc) L rfl HXa.out ?c1 ?c2 ?_)
        case c1 => omega
        case c2 => exact hs0
        intro v1 w1 ho1 hg1 _
        have HB1 := Lib.hid (HBE.out.grown hg1 hs0 (fun g hg => (HO1.out.lt g hg).1))
        have HOwn1 : Hid (w1.ownsRow X.heap.size 5 1 v1 L.length (Lib.byteCells L)) := Lib.hid (by simpa using ho1)
        have HByw1 := Lib.hid (HByX.out.below HB1.out)
        have hs1 := HB1.out.size
        clear ho1 hg1
        go_wp2_with (at_builtin; refine wpList_append_by _ rfl _ _ 23 rfl 5 j0 Tryz.underlying23 hj hy0 hy1 hy2 X.heap.size v1 L.length (Lib.byteCells L) rfl HOwn1.out (.slice ba bs.length bc) bs rfl HByw1.out ?c1 ?c2 ?_)
        case c1 => omega
        case c2 => exact hs1
        intro v2 w2 ho2 hg2 _
        have HB2 := Lib.hid (HB1.out.grown hg2 hs1 (fun g hg => (HOwn1.out.lt g hg).1))
        have hby2 : ByAt w2 v2 (L ++ bs) := by
          refine ByAt.of_own (B := X.heap.size) (e := 5) ?_
          rw [List.length_append, Lib.byteCells_append]
          exact ho2
        have HBy2 := Lib.hid hby2
        have HBW2 := Lib.hid (HBX.out.trans (HB2.out.mono HBX.out.size))
        clear ho2 hg2 hby2
        go_wp2_with (fail)
        refine (decode_any v2 (L ++ bs) w2 HBy2.out ?len2).mono ?_
        case len2 => rw [List.length_append]; omega
        rintro e Z2 ⟨vy, rfl, hOy, hbZ2⟩
        have hdy : decP (L ++ bs) = sel ++ decP bs := by
          rw [← HLe.out]
          exact decP_app HAl.out bs (by omega)
        rw [hdy] at hOy
        obtain ⟨D, hD⟩ : ∃ D, decP bs = D := ⟨_, rfl⟩
        rw [hD] at hOy
        have hDl : D.length ≤ 2048 := by rw [← hD]; exact decL_most _ _ _
        have HDe := Lib.hid hD
        have HOy := Lib.hid hOy
        have HBZ2 := Lib.hid (HBW2.out.trans (hbZ2.mono HBW2.out.size))
        have HXZ2 := Lib.hid (HB2.out.trans (hbZ2.mono HB2.out.size))
        clear hOy hbZ2 hdy hD
        have bE2 : Below Z2.heap.size Z2 (Z2.alloc (.cells #[] 34)) := (Below.refl _ _).alloc (Nat.le_refl _) _
        have o2 : (Z2.alloc (.cells #[] 34)).ownsRow Z2.heap.size 34 8 (.slice (some ⟨Z2.heap.size, 0, none⟩) 0 0) 0 [] := ⟨rfl, .inr ⟨Z2.heap.size, 0, #[], rfl, Nat.le_refl _, heap_alloc_new Z2 _, Nat.le_refl _, by unfold maxLen; omega, rfl, rfl⟩⟩
        have HO2 := Lib.hid o2
        have hs2 : Z2.heap.size ≤ (Z2.alloc (.cells #[] 34)).heap.size := bE2.size
        have hrow2 : (Z2.alloc (.cells #[] 34)).ownsRow w.heap.size 34 8 (.slice sa sel.length sc) sel.length xs := row_kept HRowX.out (fun g _ hg => by
          have h1 := HXZ2.out.block g hg
          exact (bE2.block g (Nat.lt_of_lt_of_le hg HXZ2.out.size)).trans h1)
        have hsrc2 : (sel.length = 0 ∧ sa = none) ∨ ∃ ad, sa = some ad ∧ ∀ j u, xs[j]? = some u → (Z2.alloc (.cells #[] 34)).cell? (ad.add j) = some u := by
          obtain ⟨q1, q2, q3, _, q5⟩ := row_src hrow2
          cases q3
          exact q5
        have HSrc2 := Lib.hid hsrc2
        have HBE2 := Lib.hid bE2
        clear o2 bE2 hrow2 hsrc2
        go_wp2_with (at_builtin; refine wpList_append_any _ rfl _ _ 22 rfl 34 i0 _ 8 80 Tryz.underlying22 hi hz0 hz1 hz2 rfl (by omega) Z2.heap.size (.slice (some ⟨Z2.heap.size, 0, none⟩) 0 0) 0 [] rfl HO2.out sa sel.length sc xs rfl HRP.out.1 HRP.out.2.1 HSrc2.out ?d1 ?d2 ?d3 ?_)
        case d1 => unfold maxLen; omega
        case d2 => omega
        case d3 => exact hs2
        intro v3 w3 ho3 hg3
        have HB3 := Lib.hid (HBE2.out.grown hg3 hs2 (fun g hg => (HO2.out.lt g hg).1))
        have HOwn3 : Hid (w3.ownsRow Z2.heap.size 34 8 v3 sel.length xs) := Lib.hid (by simpa using ho3)
        have HBW3 := Lib.hid (HBZ2.out.trans (HB3.out.mono HBZ2.out.size))
        have HByw3 := Lib.hid (HBy.out.below HBW3.out)
        clear ho3 hg3
        go_wp2_with (fail)
        refine (decode_any _ bs w3 HByw3.out (by omega)).mono ?_
        rintro e Z3 ⟨vz, rfl, hOz, hbZ3⟩
        rw [HDe.out] at hOz
        obtain ⟨ys, hrowD, hrpD⟩ := hOz.row
        obtain ⟨ea, ec, rfl, hec, hsrcD⟩ := row_src hrowD
        have HRpD := Lib.hid hrpD
        have HSrcD := Lib.hid hsrcD
        have HB3z := Lib.hid (HB3.out.trans (hbZ3.mono HB3.out.size))
        have HOwn3z := Lib.hid (row_kept HOwn3.out (w' := Z3) (fun g _ hg => hbZ3.block g hg))
        have HBWz := Lib.hid (HBW3.out.trans (hbZ3.mono HBW3.out.size))
        have hz3 := HB3z.out.size
        clear hOz hrowD hrpD hsrcD hbZ3
        go_wp2_with (at_builtin; refine wpList_append_any _ rfl _ _ 22 rfl 34 i0 _ 8 80 Tryz.underlying22 hi hz0 hz1 hz2 rfl (by omega) Z2.heap.size v3 sel.length xs rfl HOwn3z.out ea D.length ec ys rfl HRpD.out.1 HRpD.out.2.1 HSrcD.out ?d1 ?d2 ?d3 ?_)
        case d1 => unfold maxLen; omega
        case d2 => omega
        case d3 => exact hz3
        intro v4 w4 ho4 hg4
        have HB4 := Lib.hid (HB3z.out.grown hg4 hz3 (fun g hg => (HOwn3z.out.lt g hg).1))
        have HBW4 := Lib.hid (HBZ2.out.trans (HB4.out.mono HBZ2.out.size))
        have hrp4 : RowP (fun vo o => OpsAt w4 vo o) (sel ++ D) (xs ++ ys) := by
          refine (HRP.out.mono fun v o h => h.below HBW4.out).append (HRpD.out.mono fun v o h => ?_)
          refine (own_typed h fun k cs hk => hg4.block k (Array.getElem?_eq_some_iff.1 hk).1 fun e => ?_).ops
          obtain ⟨_, ⟨hv3, h0⟩ | ⟨g', cap, cur, hv3, hbg, hh, r⟩⟩ := HOwn3z.out
          · rw [hv3] at e
            cases e
          · rw [hv3] at e
            cases e
            exact typ_ne hk hh (by decide) rfl
        have hit4 : ItsAt w4 v4 (sel ++ D) := by
          refine its_of_row (B := Z2.heap.size) (xs := xs ++ ys) ?_ hrp4
          rw [List.length_append]
          exact ho4
        have HIt4 := Lib.hid hit4
        have HIty := Lib.hid (HOy.out.below HB4.out).its
        have HT4 := Lib.hid (tab_below HTab.out HBW4.out)
        clear ho4 hg4 hrp4 hit4
        go_wp2_with (fail)
        refine (keepItems_any _ _ (sel ++ D) w4 HIty.out HIt4.out (by rw [List.length_append]; omega)).mono ?_
        rintro e w5 ⟨rfl, hb5⟩
        have HBW5 := Lib.hid (HBW4.out.trans (hb5.mono HBW4.out.size))
        have HT5 := Lib.hid (tab_below HT4.out hb5)
        clear hb5
        go_wp2_with (fail)
        refine (known_tab w5 HT5.out).mono ?_
        rintro e w6 ⟨rfl, hb6⟩
        have HBW6 := Lib.hid (HBW5.out.trans (hb6.mono HBW5.out.size))
        clear hb6
        go_wp2_with (fail)
        go_ret
        exact ⟨rfl, HBW6.out⟩
      · have hkB : decide ((k : Int) < (l.length : Int)) = false := by simp; omega
        clear key
        go_wp2_with (fail)
        refine (encode_any _ sel wr HIt.out (by omega)).mono ?_
        rintro e Y ⟨hpost, hbY⟩
        rcases hpost with ⟨hall, xv, rfl, hown⟩ | ⟨hall, rfl⟩
        case inr =>
          rw [HAl.out] at hall
          cases hall
        obtain ⟨L, hLe⟩ : ∃ L, itsB sel = L := ⟨_, rfl⟩
        have hlenL := itsB_len sel HAl.out
        rw [hLe] at hown hlenL
        have HLe := Lib.hid hLe
        have HBY := Lib.hid (HBw.out.trans (hbY.mono HBw.out.size))
        have HRowY := Lib.hid (row_kept HRow.out (w' := Y) (fun g _ hg => hbY.block g hg))
        obtain ⟨xa, xc, hxv, hxL⟩ := ByAt.of_own hown
        have hxc : L.length ≤ xc := by
          rcases hown.2 with ⟨hv, h0⟩ | ⟨g, cap, cur, hv, _, _, h1, _⟩
          · omega
          · rw [hxv] at hv
            cases hv
            exact h1
        subst hxv
        have HX : Hid (ByAt Y (.slice xa L.length xc) L) := Lib.hid ⟨xa, xc, rfl, hxL⟩
        clear hbY hown hall hLe hxL
        go_wp2_with (fail)
        obtain ⟨hq0, hq1⟩ := wthn_bounds cut L.length
        refine (within_any cut 0 L.length Y (by omega) (by omega) (by omega)).mono ?_
        rintro e Y' ⟨rfl, rfl⟩
        obtain ⟨q, hq⟩ : ∃ q : Nat, wthn cut 0 L.length = (q : Int) := ⟨_, (Int.toNat_of_nonneg hq0).symm⟩
        rw [hq] at hq0 hq1 ⊢
        have hqL : q ≤ L.length := by omega
        have hqc : (q : Int) ≤ (xc : Int) := by omega
        clear hq
        go_wp2_with (fail)
        refine (decode_any _ (L.take q) Y' (by_take HX.out hqL) ?len).mono ?_
        case len => rw [List.length_take]; omega
        rintro e Z ⟨vd, rfl, hO, hbZ⟩
        obtain ⟨m, hm, hdm⟩ : ∃ m, m ≤ sel.length ∧ decP (L.take q) = sel.take m := by
          rw [← HLe.out]
          exact decP_cut HAl.out (by omega) q
        rw [hdm] at hO
        have hml : (sel.take m).length = m := by rw [List.length_take, Nat.min_eq_left hm]
        obtain ⟨da, dc, rfl, hdc⟩ := out_slice hO
        have HD := Lib.hid hO.its
        rw [hml] at hdc HD ⊢
        have HBZ := Lib.hid (HBY.out.trans (hbZ.mono HBY.out.size))
        have HRowZ := Lib.hid (row_kept HRowY.out (w' := Z) (fun g _ hg => hbZ.block g hg))
        have HXZ := Lib.hid (HX.out.below hbZ)
        have hsc : sel.length ≤ sc := by
          obtain ⟨q1, q2, q3, q4, _⟩ := row_src HRow.out
          cases q3
          exact q4
        have HItZ := Lib.hid (its_take (its_of_row HRowZ.out (HRP.out.mono fun v o h => h.below HBZ.out)) hm)
        clear hO hbZ hdm HX
        have hmB : decide ((sel.length : Int) < (m : Int)) = false := by simp; omega
        have hmc : (m : Int) ≤ (sc : Int) := by omega
        go_wp2_with (fail)
        refine (keepItems_any _ _ (sel.take m) Z HD.out HItZ.out (by omega)).mono ?_
        rintro e X ⟨rfl, hbX⟩
        have HBX := Lib.hid (HBZ.out.trans (hbX.mono HBZ.out.size))
        have HRowX := Lib.hid (row_kept HRowZ.out (w' := X) (fun g _ hg => hbX.block g hg))
        have HXX := Lib.hid (HXZ.out.below hbX)
        have HByX := Lib.hid (HBy.out.below HBX.out)
        have HTX := Lib.hid (tab_below HTab.out HBX.out)
        clear hbX
        go_upto_if 65 with (fail)
        go_cut [2] (fun v wx => v = .slice ba bs.length bc ∧ X = wx)
        case first =>
          by_cases h : 500 < bn
          · have HLb := Lib.hid (HN.out.2 h)
            have h500c : 500 ≤ bc := by omega
            go_wp2_with (fail)
            go_meet
            exact ⟨by rw [HLb.out], rfl⟩
          · have HLb := Lib.hid (HN.out.1 (by omega))
            go_wp2_with (fail)
            go_meet
            exact ⟨by rw [HLb.out], rfl⟩
        case rest =>
        obtain ⟨rfl, rfl⟩ := hcut
        have bE : Below X.heap.size X (X.alloc (.cells #[] 5)) := (Below.refl _ _).alloc (Nat.le_refl _) _
        have o1 : (X.alloc (.cells #[] 5)).ownsRow X.heap.size 5 1 (.slice (some ⟨X.heap.size, 0, none⟩) 0 0) 0 [] := own_empty _ _ _ _ (Nat.le_refl _) (heap_alloc_new X _)
        have HO1 := Lib.hid o1
        have HXa := Lib.hid (HXX.out.below bE)
        have hs0 : X.heap.size ≤ (X.alloc (.cells #[] 5)).heap.size := bE.size
        have HBE := Lib.hid bE
        clear o1 bE
        go_wp2_with (at_builtin; refine wpList_append_by _ rfl _ _ 23 rfl 5 j0 Tryz.underlying23 hj hy0 hy1 hy2 X.heap.size (.slice (some ⟨X.heap.size, 0, none⟩) 0 0) 0 [] rfl HO1.out (.slice xa L.length xc) L rfl HXa.out ?c1 ?c2 ?_)
        case c1 => omega
        case c2 => exact hs0
        intro v1 w1 ho1 hg1 _
        have HB1 := Lib.hid (HBE.out.grown hg1 hs0 (fun g hg => (HO1.out.lt g hg).1))
        have HOwn1 : Hid (w1.ownsRow X.heap.size 5 1 v1 L.length (Lib.byteCells L)) := Lib.hid (by simpa using ho1)
        have HByw1 := Lib.hid (HByX.out.below HB1.out)
        have hs1 := HB1.out.size
        clear ho1 hg1
        go_wp2_with (at_builtin; refine wpList_append_by _ rfl _ _ 23 rfl 5 j0 Tryz.underlying23 hj hy0 hy1 hy2 X.heap.size v1 L.length (Lib.byteCells L) rfl HOwn1.out (.slice ba bs.length bc) bs rfl HByw1.out ?c1 ?c2 ?_)
        case c1 => omega
        case c2 => exact hs1
        intro v2 w2 ho2 hg2 _
        have HB2 := Lib.hid (HB1.out.grown hg2 hs1 (fun g hg => (HOwn1.out.lt g hg).1))
        have hby2 : ByAt w2 v2 (L ++ bs) := by
          refine ByAt.of_own (B := X.heap.size) (e := 5) ?_
          rw [List.length_append, Lib.byteCells_append]
          exact ho2
        have HBy2 := Lib.hid hby2
        have HBW2 := Lib.hid (HBX.out.trans (HB2.out.mono HBX.out.size))
        clear ho2 hg2 hby2
        go_wp2_with (fail)
        refine (decode_any v2 (L ++ bs) w2 HBy2.out ?len2).mono ?_
        case len2 => rw [List.length_append]; omega
        rintro e Z2 ⟨vy, rfl, hOy, hbZ2⟩
        have hdy : decP (L ++ bs) = sel ++ decP bs := by
          rw [← HLe.out]
          exact decP_app HAl.out bs (by omega)
        rw [hdy] at hOy
        obtain ⟨D, hD⟩ : ∃ D, decP bs = D := ⟨_, rfl⟩
        rw [hD] at hOy
        have hDl : D.length ≤ 2048 := by rw [← hD]; exact decL_most _ _ _
        have HDe := Lib.hid hD
        have HOy := Lib.hid hOy
        have HBZ2 := Lib.hid (HBW2.out.trans (hbZ2.mono HBW2.out.size))
        have HXZ2 := Lib.hid (HB2.out.trans (hbZ2.mono HB2.out.size))
        clear hOy hbZ2 hdy hD
        have bE2 : Below Z2.heap.size Z2 (Z2.alloc (.cells #[] 34)) := (Below.refl _ _).alloc (Nat.le_refl _) _
        have o2 : (Z2.alloc (.cells #[] 34)).ownsRow Z2.heap.size 34 8 (.slice (some ⟨Z2.heap.size, 0, none⟩) 0 0) 0 [] := ⟨rfl, .inr ⟨Z2.heap.size, 0, #[], rfl, Nat.le_refl _, heap_alloc_new Z2 _, Nat.le_refl _, by unfold maxLen; omega, rfl, rfl⟩⟩
        have HO2 := Lib.hid o2
        have hs2 : Z2.heap.size ≤ (Z2.alloc (.cells #[] 34)).heap.size := bE2.size
        have hrow2 : (Z2.alloc (.cells #[] 34)).ownsRow w.heap.size 34 8 (.slice sa sel.length sc) sel.length xs := row_kept HRowX.out (fun g _ hg => by
          have h1 := HXZ2.out.block g hg
          exact (bE2.block g (Nat.lt_of_lt_of_le hg HXZ2.out.size)).trans h1)
        have hsrc2 : (sel.length = 0 ∧ sa = none) ∨ ∃ ad, sa = some ad ∧ ∀ j u, xs[j]? = some u → (Z2.alloc (.cells #[] 34)).cell? (ad.add j) = some u := by
          obtain ⟨q1, q2, q3, _, q5⟩ := row_src hrow2
          cases q3
          exact q5
        have HSrc2 := Lib.hid hsrc2
        have HBE2 := Lib.hid bE2
        clear o2 bE2 hrow2 hsrc2
        go_wp2_with (at_builtin; refine wpList_append_any _ rfl _ _ 22 rfl 34 i0 _ 8 80 Tryz.underlying22 hi hz0 hz1 hz2 rfl (by omega) Z2.heap.size (.slice (some ⟨Z2.heap.size, 0, none⟩) 0 0) 0 [] rfl HO2.out sa sel.length sc xs rfl HRP.out.1 HRP.out.2.1 HSrc2.out ?d1 ?d2 ?d3 ?_)
        case d1 => unfold maxLen; omega
        case d2 => omega
        case d3 => exact hs2
        intro v3 w3 ho3 hg3
        have HB3 := Lib.hid (HBE2.out.grown hg3 hs2 (fun g hg => (HO2.out.lt g hg).1))
        have HOwn3 : Hid (w3.ownsRow Z2.heap.size 34 8 v3 sel.length xs) := Lib.hid (by simpa using ho3)
        have HBW3 := Lib.hid (HBZ2.out.trans (HB3.out.mono HBZ2.out.size))
        have HByw3 := Lib.hid (HBy.out.below HBW3.out)
        clear ho3 hg3
        go_wp2_with (fail)
        refine (decode_any _ bs w3 HByw3.out (by omega)).mono ?_
        rintro e Z3 ⟨vz, rfl, hOz, hbZ3⟩
        rw [HDe.out] at hOz
        obtain ⟨ys, hrowD, hrpD⟩ := hOz.row
        obtain ⟨ea, ec, rfl, hec, hsrcD⟩ := row_src hrowD
        have HRpD := Lib.hid hrpD
        have HSrcD := Lib.hid hsrcD
        have HB3z := Lib.hid (HB3.out.trans (hbZ3.mono HB3.out.size))
        have HOwn3z := Lib.hid (row_kept HOwn3.out (w' := Z3) (fun g _ hg => hbZ3.block g hg))
        have HBWz := Lib.hid (HBW3.out.trans (hbZ3.mono HBW3.out.size))
        have hz3 := HB3z.out.size
        clear hOz hrowD hrpD hsrcD hbZ3
        go_wp2_with (at_builtin; refine wpList_append_any _ rfl _ _ 22 rfl 34 i0 _ 8 80 Tryz.underlying22 hi hz0 hz1 hz2 rfl (by omega) Z2.heap.size v3 sel.length xs rfl HOwn3z.out ea D.length ec ys rfl HRpD.out.1 HRpD.out.2.1 HSrcD.out ?d1 ?d2 ?d3 ?_)
        case d1 => unfold maxLen; omega
        case d2 => omega
        case d3 => exact hz3
        intro v4 w4 ho4 hg4
        have HB4 := Lib.hid (HB3z.out.grown hg4 hz3 (fun g hg => (HOwn3z.out.lt g hg).1))
        have HBW4 := Lib.hid (HBZ2.out.trans (HB4.out.mono HBZ2.out.size))
        have hrp4 : RowP (fun vo o => OpsAt w4 vo o) (sel ++ D) (xs ++ ys) := by
          refine (HRP.out.mono fun v o h => h.below HBW4.out).append (HRpD.out.mono fun v o h => ?_)
          refine (own_typed h fun k cs hk => hg4.block k (Array.getElem?_eq_some_iff.1 hk).1 fun e => ?_).ops
          obtain ⟨_, ⟨hv3, h0⟩ | ⟨g', cap, cur, hv3, hbg, hh, r⟩⟩ := HOwn3z.out
          · rw [hv3] at e
            cases e
          · rw [hv3] at e
            cases e
            exact typ_ne hk hh (by decide) rfl
        have hit4 : ItsAt w4 v4 (sel ++ D) := by
          refine its_of_row (B := Z2.heap.size) (xs := xs ++ ys) ?_ hrp4
          rw [List.length_append]
          exact ho4
        have HIt4 := Lib.hid hit4
        have HIty := Lib.hid (HOy.out.below HB4.out).its
        have HT4 := Lib.hid (tab_below HTab.out HBW4.out)
        clear ho4 hg4 hrp4 hit4
        go_wp2_with (fail)
        refine (keepItems_any _ _ (sel ++ D) w4 HIty.out HIt4.out (by rw [List.length_append]; omega)).mono ?_
        rintro e w5 ⟨rfl, hb5⟩
        have HBW5 := Lib.hid (HBW4.out.trans (hb5.mono HBW4.out.size))
        have HT5 := Lib.hid (tab_below HT4.out hb5)
        clear hb5
        go_wp2_with (fail)
        refine (known_tab w5 HT5.out).mono ?_
        rintro e w6 ⟨rfl, hb6⟩
        have HBW6 := Lib.hid (HBW5.out.trans (hb6.mono HBW5.out.size))
        clear hb6
        go_wp2_with (fail)
        go_ret
        exact ⟨rfl, HBW6.out⟩

theorem shellCuts_row (a : Option Addr) (n c : Nat) (l : List ItT) (cut : Int) (ba : Option Addr) (bn bc : Nat) (bs : List UInt8) (W : World) (hnc : n ≤ c) (hln : l.length = n) (hat : n = 0 ∨ ∃ b o, a = some ⟨b, o, none⟩ ∧ b < W.heap.size ∧ ∀ j z, l[j]? = some z → ItAt W b (o + j * 8) z)
    (hbnc : bn ≤ bc) (hb : ByAt W (.slice ba bn bc) bs) (htab : Lib.TabIs Tryz.prog W tabName .u64 Lib.pow10Tab) :
    Calls Tryz.prog 4 #[.slice a n c, .int .i64 cut, .slice ba bn bc] W fun e w' => e = .returned (.bool true) ∧ Below W.heap.size W w' := by
  subst hln
  have hbl : bs.length = bn := by
    obtain ⟨_, _, hv, _⟩ := hb
    cases hv
    rfl
  refine shellCuts_cut a l.length c l cut ba bn bc (bs.take 500) W rfl hnc ⟨a, c, rfl, hnc, hat⟩ (fun h => by rw [List.length_take]; omega) (fun h => by rw [List.length_take]; omega) hbnc ?_ htab
  have h5 : (bs.take 500).length ≤ bs.length := by rw [List.length_take]; omega
  have := by_take (m := (bs.take 500).length) hb h5
  rw [show bs.take (bs.take 500).length = bs.take 500 by rw [List.length_take]; exact List.take_eq_take_iff.2 (by omega)] at this
  exact this
end Go.Proofs.YtfpigjgomcilbaaGreatDoorR

