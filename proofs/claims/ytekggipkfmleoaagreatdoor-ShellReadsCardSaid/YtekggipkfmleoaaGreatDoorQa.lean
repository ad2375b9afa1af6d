/- conclavekeep.Items; bytes and items appended; conclaveref1's writers, the law's bytes; Within; bytes that are cut off. -/
import Derived.Test.YtekggipkfmleoaaGreatDoorEa
import Derived.Deep.QuietTactic
import Derived.BigQuiet
import Derived.Deep.RegionLaw
import Derived.Test.YtekggipkfmleoaaGreatDoorWa
import Derived.Deep.Onto
import Derived.Laws.IdiomStrings
import Derived.Lib.BufferRead
import Derived.Deep.RegionHeld3
import Derived.Test.YtekggipkfmleoaaGreatDoorDa
import Derived.Test.YtekggipkfmleoaaGreatDoorEvPr
import Derived.Test.YtekggipkfmleoaaGreatDoorProg
import Derived.WalkKit
import Derived.Lib.Hide
import Derived.KernelRfl
set_option linter.unusedVariables false
set_option linter.unusedSimpArgs false
namespace Go.Proofs.YtekggipkfmleoaaGreatDoor
open Go.RowKit

set_option maxHeartbeats 4000000 in
set_option maxRecDepth 100000 in
theorem keepOps_any (va vb : Value) (l : List OpT) (w : World) (ha : OpsAt w va l) (hb : OpsAt w vb l) :
    Calls Tryz.prog 30 #[va, vb] w fun e w' => e = .returned (.bool true) ∧ Below w.heap.size w w' := by
  obtain ⟨a, c, rfl, hlc, hcm, ha⟩ := ha
  obtain ⟨a', c', rfl, hlc', hcm', hb⟩ := hb
  have hm : c ≤ 9223372036854775807 := by unfold maxLen at hcm; omega
  have HA := Lib.hid ha
  have HB := Lib.hid hb
  clear ha hb
  go_enter Tryz.func30, Tryz.ntmps30
  go_wp2_with (fail)
  go_loopw [5] (fun i wr => ∃ k : Nat, i = .int .i64 k ∧ k ≤ l.length ∧ Below w.heap.size w wr) (fun i _ => l.length - (intOf i).toNat)
  case atStart => exact ⟨0, rfl, by omega, Below.refl _ _⟩
  case round =>
    obtain ⟨k, rfl, hk, hbw⟩ := hrel
    by_cases hlt : k < l.length
    · have ho : ∃ o, l[k]? = some o := ⟨_, List.getElem?_eq_getElem hlt⟩
      obtain ⟨o, ho⟩ := ho
      rcases HA.out with h0 | ⟨b1, o1, rfl, hb1, hs1⟩
      · omega
      rcases HB.out with h0 | ⟨b2, o2, rfl, hb2, hs2⟩
      · omega
      obtain ⟨d0, d1, d2, d3⟩ := hs1 k o ho
      obtain ⟨g0, g1, g2, g3⟩ := hs2 k o ho
      have c0 := (hbw.cell (p := ⟨b1, o1 + k * 4, none⟩) hb1).trans d0
      have c1 := (hbw.cell (p := ⟨b1, o1 + k * 4 + 1, none⟩) hb1).trans d1
      have c2 := (hbw.cell (p := ⟨b1, o1 + k * 4 + 2, none⟩) hb1).trans d2
      have c3 := (hbw.cell (p := ⟨b1, o1 + k * 4 + 3, none⟩) hb1).trans d3
      have e0 := (hbw.cell (p := ⟨b2, o2 + k * 4, none⟩) hb2).trans g0
      have e1 := (hbw.cell (p := ⟨b2, o2 + k * 4 + 1, none⟩) hb2).trans g1
      have e2 := (hbw.cell (p := ⟨b2, o2 + k * 4 + 2, none⟩) hb2).trans g2
      have e3 := (hbw.cell (p := ⟨b2, o2 + k * 4 + 3, none⟩) hb2).trans g3
      have HS1 := Lib.hid hs1
      have HS2 := Lib.hid hs2
      have HBw := Lib.hid hbw
      clear hs1 hs2 d0 d1 d2 d3 g0 g1 g2 g3 ho hbw
      go_wp2
      go_quiet (fail)
      go_wp2
      go_roundw
      case rel => exact ⟨k + 1, by simp, by omega, ⟨HBw.out.os, HBw.out.tape, HBw.out.output, HBw.out.size, HBw.out.block⟩⟩
      case measure => simp [intOf]; omega
    · obtain rfl : k = l.length := by omega
      have HBw := Lib.hid hbw; clear hbw
      go_wp2_with (fail)
      go_ret
      exact ⟨rfl, HBw.out⟩

set_option maxHeartbeats 4000000 in
set_option maxRecDepth 100000 in
theorem keepItem_any (va vb : Value) (x : ItT) (w : World) (ha : OpsAt w va x.ops) (hb : OpsAt w vb x.ops) :
    Calls Tryz.prog 17 #[.agg (itCells x va), .agg (itCells x vb)] w fun e w' => e = .returned (.bool true) ∧ Below w.heap.size w w' := by
  have b1 : Below w.heap.size w (w.alloc (.cells (itCells x va) 27)) := (Below.refl _ _).alloc (Nat.le_refl _) _
  have b2 : Below w.heap.size w ((w.alloc (.cells (itCells x va) 27)).alloc (.cells (itCells x vb) 27)) := b1.alloc b1.size _
  have HA := Lib.hid (ha.below b2)
  have HB := Lib.hid (hb.below b2)
  have HW := Lib.hid b2
  obtain ⟨a, c, rfl, _, _, _⟩ := ha
  obtain ⟨a', c', rfl, _, _, _⟩ := hb
  clear b1 b2
  unfold itCells at *
  go_enter Tryz.func17, Tryz.ntmps17
  go_wp2_with (fail)
  refine (keepOps_any _ _ x.ops _ HA.out HB.out).mono ?_
  rintro e w' ⟨rfl, hbw⟩
  have HBw := Lib.hid (HW.out.trans (hbw.mono HW.out.size))
  clear hbw
  go_wp2_with (fail)
  go_ret
  exact ⟨rfl, HBw.out⟩

set_option maxHeartbeats 4000000 in
set_option maxRecDepth 100000 in
theorem keepItems_any (va vb : Value) (l : List ItT) (w : World) (ha : ItsAt w va l) (hb : ItsAt w vb l) (hlm : l.length ≤ 4096) :
    Calls Tryz.prog 8 #[va, vb] w fun e w' => e = .returned (.bool true) ∧ Below w.heap.size w w' := by
  obtain ⟨a, c, rfl, hlc, ha⟩ := ha
  obtain ⟨a', c', rfl, hlc', hb⟩ := hb
  have HA := Lib.hid ha
  have HB := Lib.hid hb
  clear ha hb
  go_enter Tryz.func8, Tryz.ntmps8
  go_wp2_with (fail)
  go_loopw [5] (fun i wr => ∃ k : Nat, i = .int .i64 k ∧ k ≤ l.length ∧ Below w.heap.size w wr) (fun i _ => l.length - (intOf i).toNat)
  case atStart => exact ⟨0, rfl, by omega, Below.refl _ _⟩
  case round =>
    obtain ⟨k, rfl, hk, hbw⟩ := hrel
    by_cases hlt : k < l.length
    · have ho : ∃ o, l[k]? = some o := ⟨_, List.getElem?_eq_getElem hlt⟩
      obtain ⟨x, ho⟩ := ho
      rcases HA.out with h0 | ⟨b1, o1, rfl, hb1, hs1⟩
      · omega
      rcases HB.out with h0 | ⟨b2, o2, rfl, hb2, hs2⟩
      · omega
      obtain ⟨d0, d1, d2, d3, d4, d5, d6, v1, d7, hO1⟩ := hs1 k x ho
      obtain ⟨g0, g1, g2, g3, g4, g5, g6, v2, g7, hO2⟩ := hs2 k x ho
      have c0 := (hbw.cell (p := ⟨b1, o1 + k * 8, none⟩) hb1).trans d0
      have c1 := (hbw.cell (p := ⟨b1, o1 + k * 8 + 1, none⟩) hb1).trans d1
      have c2 := (hbw.cell (p := ⟨b1, o1 + k * 8 + 2, none⟩) hb1).trans d2
      have c3 := (hbw.cell (p := ⟨b1, o1 + k * 8 + 3, none⟩) hb1).trans d3
      have c4 := (hbw.cell (p := ⟨b1, o1 + k * 8 + 4, none⟩) hb1).trans d4
      have c5 := (hbw.cell (p := ⟨b1, o1 + k * 8 + 5, none⟩) hb1).trans d5
      have c6 := (hbw.cell (p := ⟨b1, o1 + k * 8 + 6, none⟩) hb1).trans d6
      have c7 := (hbw.cell (p := ⟨b1, o1 + k * 8 + 7, none⟩) hb1).trans d7
      have e0 := (hbw.cell (p := ⟨b2, o2 + k * 8, none⟩) hb2).trans g0
      have e1 := (hbw.cell (p := ⟨b2, o2 + k * 8 + 1, none⟩) hb2).trans g1
      have e2 := (hbw.cell (p := ⟨b2, o2 + k * 8 + 2, none⟩) hb2).trans g2
      have e3 := (hbw.cell (p := ⟨b2, o2 + k * 8 + 3, none⟩) hb2).trans g3
      have e4 := (hbw.cell (p := ⟨b2, o2 + k * 8 + 4, none⟩) hb2).trans g4
      have e5 := (hbw.cell (p := ⟨b2, o2 + k * 8 + 5, none⟩) hb2).trans g5
      have e6 := (hbw.cell (p := ⟨b2, o2 + k * 8 + 6, none⟩) hb2).trans g6
      have e7 := (hbw.cell (p := ⟨b2, o2 + k * 8 + 7, none⟩) hb2).trans g7
      have HO1 := Lib.hid (hO1.below hbw)
      have HO2 := Lib.hid (hO2.below hbw)
      obtain ⟨a1, q1, rfl, _, _, _⟩ := hO1
      obtain ⟨a2, q2, rfl, _, _, _⟩ := hO2
      have HS1 := Lib.hid hs1
      have HS2 := Lib.hid hs2
      have HBw := Lib.hid hbw
      clear hs1 hs2 d0 d1 d2 d3 d4 d5 d6 d7 g0 g1 g2 g3 g4 g5 g6 g7 ho hbw
      go_wp2
      go_region_law (go_simp; go_at_call 17; refine (keepItem_any _ _ x wr.drew HO1.out HO2.out).mono ?_; rintro e w' ⟨rfl, hb2⟩)
      all_goals
        go_wp2
        go_roundw
        case rel => exact ⟨k + 1, by simp, by omega, HBw.out.trans ((show Below wr.heap.size wr _ from ⟨hb2.os, hb2.tape, hb2.output, hb2.size, hb2.block⟩).mono HBw.out.size)⟩
        case measure => simp [intOf]; omega
    · obtain rfl : k = l.length := by omega
      have HBw := Lib.hid hbw; clear hbw
      go_wp2_with (fail)
      go_ret
      exact ⟨rfl, HBw.out⟩
end Go.Proofs.YtekggipkfmleoaaGreatDoor

namespace Go.Proofs.YtekggipkfmleoaaGreatDoor
open Go.RowKit

section
variable {P : Program} (w : World)
/-- bytes that lie somewhere, behind what is owned -/
theorem run_append_by (t ty e : TypeId) (i : TypeInfo) (ht : P.underlying t = some (.slice e)) (hi : P.info? e = some i) (hz : i.zero = some (.int .u8 0)) (hsize : i.size = 1) (hby : i.bytes = 1)
    (base : Nat) (v : Value) (n : Nat) (xs : List Value) (hown : w.ownsRow base e 1 v n xs) (s : Value) (L : List UInt8) (hs : ByAt w s L) (hlen : n + L.length ≤ 140737488355328) (hbase : base ≤ w.heap.size) :
    ∃ v' w', (Builtin.append_ #[t, t] ty #[v, s]).run P w = .ok v' w' ∧ w'.ownsRow base e 1 v' (n + L.length) (xs ++ Lib.byteCells L) ∧ w.grownBy w' v.ownBlock ∧ (v'.ownBlock = v.ownBlock ∨ v'.ownBlock = some w.heap.size) := by
  obtain ⟨a, c, rfl, ⟨rfl, rfl⟩ | ⟨g, o, rfl, hc⟩⟩ := hs
  · refine ⟨v, w, ?_, ?_, ⟨rfl, rfl, rfl, Nat.le_refl _, fun _ _ _ => rfl⟩, .inl rfl⟩
    · rcases hown.2 with ⟨rfl, rfl⟩ | ⟨g, cap, cur, rfl, _, _, hnc, _⟩
      · simp [Builtin.append_, run_underlying ht, sizeOf, typeInfo, hi, Builtin.lenOf, Builtin.firstCells]
      · simp [Builtin.append_, run_underlying ht, sizeOf, typeInfo, hi, Builtin.lenOf, Builtin.firstCells, hnc, storeCells]
    · show w.ownsRow base e 1 v (n + 0) (xs ++ [])
      rw [List.append_nil]
      exact hown
  · obtain ⟨v', w', hr, h2, h3, _, h5⟩ := run_append_own_at (P := P) w base t ty e i (.int .u8 0) 1 1 ht hi hz hsize hby rfl (by omega) v n xs hown ⟨g, o, none⟩ L.length c (Lib.byteCells L) (by rw [Lib.byteCells_length]; omega)
      (fun j u hj => by
        unfold Lib.byteCells at hj
        rw [List.getElem?_map, Option.map_eq_some_iff] at hj
        obtain ⟨x, hx, rfl⟩ := hj
        have e : (⟨g, o, none⟩ : Addr).add j = ⟨g, o + j, none⟩ := by
          unfold Addr.add
          split
          · rename_i h; subst h; rfl
          · rfl
        rw [e]
        exact hc j x hx)
      (fun u hu => by
        unfold Lib.byteCells at hu
        obtain ⟨x, _, rfl⟩ := List.mem_map.1 hu
        rfl) (by unfold maxLen; omega) (by omega) hbase
    exact ⟨v', w', hr, h2, h3, h5⟩
theorem wp_append_by {o : Oper} {a : Act} {K : Act → World → Prop} {Q : Exit → Act → World → Prop} (sl x : Operand) (t : TypeId) (ho : o.op = .call { callee := .builtin .append, args := #[sl, x], argTypes := #[t, t] })
    (e : TypeId) (i : TypeInfo) (ht : P.underlying t = some (.slice e)) (hi : P.info? e = some i) (hz : i.zero = some (.int .u8 0)) (hsize : i.size = 1) (hby : i.bytes = 1)
    (base : Nat) (v : Value) (n : Nat) (xs : List Value) (hs : a.eval sl = v) (hown : w.ownsRow base e 1 v n xs) (s : Value) (L : List UInt8) (hx : a.eval x = s) (hL : ByAt w s L) (hlen : n + L.length ≤ 140737488355328) (hbase : base ≤ w.heap.size)
    (h : ∀ v' w', w'.ownsRow base e 1 v' (n + L.length) (xs ++ Lib.byteCells L) → w.grownBy w' v.ownBlock → (v'.ownBlock = v.ownBlock ∨ v'.ownBlock = some w.heap.size) → K (a.put o.dst v') w') : o.wp P a w K Q := by
  obtain ⟨v', w', hr, h2, h3, h4⟩ := run_append_by (P := P) w t o.type e i ht hi hz hsize hby base v n xs hown s L hL hlen hbase
  unfold Oper.wp execOp
  simp only [ho, resolve, invoke, builtin, Sem.run_bind, Sem.run_pure, Result.andThen_ok, List.map_toArray, List.map_cons, List.map_nil, hs, hx, hr]
  exact h v' w' h2 h3 h4
theorem wpList_append_by {ops : Array Oper} {rest : List Oper} {o : Oper} {a : Act} {Q : Exit → Act → World → Prop} (hgd : o.guard = none) (sl x : Operand) (t : TypeId) (ho : o.op = .call { callee := .builtin .append, args := #[sl, x], argTypes := #[t, t] })
    (e : TypeId) (i : TypeInfo) (ht : P.underlying t = some (.slice e)) (hi : P.info? e = some i) (hz : i.zero = some (.int .u8 0)) (hsize : i.size = 1) (hby : i.bytes = 1)
    (base : Nat) (v : Value) (n : Nat) (xs : List Value) (hs : a.eval sl = v) (hown : w.ownsRow base e 1 v n xs) (s : Value) (L : List UInt8) (hx : a.eval x = s) (hL : ByAt w s L) (hlen : n + L.length ≤ 140737488355328) (hbase : base ≤ w.heap.size)
    (h : ∀ v' w', w'.ownsRow base e 1 v' (n + L.length) (xs ++ Lib.byteCells L) → w.grownBy w' v.ownBlock → (v'.ownBlock = v.ownBlock ∨ v'.ownBlock = some w.heap.size) → wpList P ops Q rest (a.put o.dst v') w') : wpList P ops Q (o :: rest) a w :=
  wpList_plain hgd fun _ hK => wp_append_by w sl x t ho e i ht hi hz hsize hby base v n xs hs hown s L hx hL hlen hbase fun v' w' h2 h3 h4 => hK _ _ (h v' w' h2 h3 h4)
theorem step_append_by {ops : Array Oper} {o : Oper} {a : Act} {K : Act → World → Prop} {Q : Exit → Act → World → Prop} {E : Prop} (hgd : o.guard = none) (sl x : Operand) (t : TypeId) (ho : o.op = .call { callee := .builtin .append, args := #[sl, x], argTypes := #[t, t] })
    (e : TypeId) (i : TypeInfo) (ht : P.underlying t = some (.slice e)) (hi : P.info? e = some i) (hz : i.zero = some (.int .u8 0)) (hsize : i.size = 1) (hby : i.bytes = 1)
    (base : Nat) (v : Value) (n : Nat) (xs : List Value) (hs : a.eval sl = v) (hown : w.ownsRow base e 1 v n xs) (s : Value) (L : List UInt8) (hx : a.eval x = s) (hL : ByAt w s L) (hlen : n + L.length ≤ 140737488355328) (hbase : base ≤ w.heap.size)
    (h : ∀ v' w', w'.ownsRow base e 1 v' (n + L.length) (xs ++ Lib.byteCells L) → w.grownBy w' v.ownBlock → (v'.ownBlock = v.ownBlock ∨ v'.ownBlock = some w.heap.size) → K (a.put o.dst v') w') :
    if Region.wanted o (yielded ops a.tmps) = true then Oper.wp P o a w K Q else E := by
  have hw : Region.wanted o (yielded ops a.tmps) = true := by simp [Region.wanted, hgd]
  rw [if_pos hw]
  exact wp_append_by w sl x t ho e i ht hi hz hsize hby base v n xs hs hown s L hx hL hlen hbase h
end

/-- one byte in a block of its own -/
theorem ByAt.one (w : World) (c : UInt8) (z : Int) (hz : z = (c.toNat : Int)) (t : TypeId) (b : Nat) (hb : w.heap[b]? = some (.cells #[.int .u8 z] t (0, 0))) : ByAt w (.slice (some ⟨b, 0, none⟩) 1 1) [c] := by
  subst hz
  refine ⟨_, 1, rfl, .inr ⟨b, 0, rfl, fun j x hj => ?_⟩⟩
  cases j with
  | zero =>
    simp at hj
    subst hj
    rw [Nat.zero_add, Lib.cell_of_heap hb]
    rfl
  | succ j => simp at hj
theorem own_empty (w : World) (B : Nat) (e : TypeId) (b : Nat) (hB : B ≤ b) (hb : w.heap[b]? = some (.cells #[] e (0, 0))) : w.ownsRow B e 1 (.slice (some ⟨b, 0, none⟩) 0 0) 0 [] :=
  ⟨rfl, .inr ⟨b, 0, #[], rfl, hB, hb, Nat.le_refl _, by unfold maxLen; omega, rfl, rfl⟩⟩
/-- bytes that fill a block -/
theorem byAt_blk {w : World} {b : Nat} {L : List UInt8} {t : TypeId} (h : w.heap[b]? = some (.cells (Lib.byteCells L).toArray t (0, 0))) : ByAt w (.slice (some ⟨b, 0, none⟩) L.length L.length) L := by
  refine ⟨_, L.length, rfl, .inr ⟨b, 0, rfl, fun j x hj => ?_⟩⟩
  rw [Nat.zero_add, Lib.cell_of_heap h]
  unfold Lib.byteCells
  simp [hj]
theorem hcell {w : World} {b : Nat} {c c' : Array Value} {t : TypeId} (h : c = c') (hb : w.heap[b]? = some (.cells c t (0, 0))) : w.heap[b]? = some (.cells c' t (0, 0)) := by
  rw [← h]
  exact hb
/-- bytes that are the call's own, from block B on -/
def OwnB (B : Nat) (v : Value) (bs : List UInt8) (w : World) : Prop := w.ownsRow B 5 1 v bs.length (Lib.byteCells bs)
theorem OwnB.by {B : Nat} {v : Value} {bs : List UInt8} {w : World} (h : OwnB B v bs w) : ByAt w v bs := ByAt.of_own h
theorem OwnB.mono {B B' : Nat} {v : Value} {bs : List UInt8} {w : World} (h : OwnB B v bs w) (hb : B' ≤ B) : OwnB B' v bs w := World.ownsRow.mono h hb


end Go.Proofs.YtekggipkfmleoaaGreatDoor

namespace Go.Proofs.YtekggipkfmleoaaGreatDoor
open Go.RowKit

section
variable {P : Program} (w : World)
/-- things that lie somewhere, behind what is owned; the source may be nil -/
theorem run_append_any (t ty e : TypeId) (i : TypeInfo) (z : Value) (size bytes : Nat) (ht : P.underlying t = some (.slice e)) (hi : P.info? e = some i) (hz : i.zero = some z) (hsize : i.size = size) (hby : i.bytes = bytes) (hzs : z.cells.size = size) (hsz : 0 < size)
    (base : Nat) (v : Value) (n : Nat) (xs : List Value) (hown : w.ownsRow base e size v n xs) (a : Option Addr) (m c : Nat) (ys : List Value) (hyl : ys.length = m * size) (h1 : ∀ u ∈ ys, u.oneCell' = true)
    (hs : (m = 0 ∧ a = none) ∨ ∃ ad, a = some ad ∧ ∀ j u, ys[j]? = some u → w.cell? (ad.add j) = some u) (h63 : n + m ≤ maxLen) (hlen : (n + m) * bytes ≤ 140737488355328) (hbase : base ≤ w.heap.size) :
    ∃ v' w', (Builtin.append_ #[t, t] ty #[v, .slice a m c]).run P w = .ok v' w' ∧ w'.ownsRow base e size v' (n + m) (xs ++ ys) ∧ w.grownBy w' v.ownBlock := by
  rcases hs with ⟨rfl, rfl⟩ | ⟨ad, rfl, hc⟩
  · have hy0 : ys = [] := List.eq_nil_of_length_eq_zero (by omega)
    subst hy0
    refine ⟨v, w, ?_, ?_, ⟨rfl, rfl, rfl, Nat.le_refl _, fun _ _ _ => rfl⟩⟩
    · rcases hown.2 with ⟨rfl, rfl⟩ | ⟨g, cap, cur, rfl, _, _, hnc, _⟩
      · simp [Builtin.append_, run_underlying ht, sizeOf, typeInfo, hi, Builtin.lenOf, Builtin.firstCells]
      · simp [Builtin.append_, run_underlying ht, sizeOf, typeInfo, hi, Builtin.lenOf, Builtin.firstCells, hnc, storeCells]
    · show w.ownsRow base e size v (n + 0) (xs ++ [])
      rw [List.append_nil]
      exact hown
  · obtain ⟨v', w', hr, h2, h3, _, _⟩ := run_append_own_at (P := P) w base t ty e i z size bytes ht hi hz hsize hby hzs hsz v n xs hown ad m c ys hyl hc h1 h63 hlen hbase
    exact ⟨v', w', hr, h2, h3⟩
theorem wpList_append_any {ops : Array Oper} {rest : List Oper} {o : Oper} {ac : Act} {Q : Exit → Act → World → Prop} (hgd : o.guard = none) (sl x : Operand) (t : TypeId) (ho : o.op = .call { callee := .builtin .append, args := #[sl, x], argTypes := #[t, t] })
    (e : TypeId) (i : TypeInfo) (z : Value) (size bytes : Nat) (ht : P.underlying t = some (.slice e)) (hi : P.info? e = some i) (hz : i.zero = some z) (hsize : i.size = size) (hby : i.bytes = bytes) (hzs : z.cells.size = size) (hsz : 0 < size)
    (base : Nat) (v : Value) (n : Nat) (xs : List Value) (hv : ac.eval sl = v) (hown : w.ownsRow base e size v n xs) (a : Option Addr) (m c : Nat) (ys : List Value) (hx : ac.eval x = .slice a m c) (hyl : ys.length = m * size) (h1 : ∀ u ∈ ys, u.oneCell' = true)
    (hs : (m = 0 ∧ a = none) ∨ ∃ ad, a = some ad ∧ ∀ j u, ys[j]? = some u → w.cell? (ad.add j) = some u) (h63 : n + m ≤ maxLen) (hlen : (n + m) * bytes ≤ 140737488355328) (hbase : base ≤ w.heap.size)
    (h : ∀ v' w', w'.ownsRow base e size v' (n + m) (xs ++ ys) → w.grownBy w' v.ownBlock → wpList P ops Q rest (ac.put o.dst v') w') : wpList P ops Q (o :: rest) ac w := by
  refine wpList_plain hgd fun K hK => ?_
  obtain ⟨v', w', hr, h2, h3⟩ := run_append_any (P := P) w t o.type e i z size bytes ht hi hz hsize hby hzs hsz base v n xs hown a m c ys hyl h1 hs h63 hlen hbase
  unfold Oper.wp execOp
  simp only [ho, resolve, invoke, builtin, Sem.run_bind, Sem.run_pure, Result.andThen_ok, List.map_toArray, List.map_cons, List.map_nil, hv, hx, hr]
  exact hK _ _ (h v' w' h2 h3)
end

/-- items' cells, one after another; what is known of each one's operations -/
def RowP (Pv : Value → List OpT → Prop) (l : List ItT) (xs : List Value) : Prop :=
  xs.length = l.length * 8 ∧ (∀ u ∈ xs, u.oneCell' = true) ∧ ∀ j x, l[j]? = some x → ∃ vo, (∀ k, k < 8 → xs[j * 8 + k]? = (itCells x vo)[k]?) ∧ Pv vo x.ops
theorem RowP.nil (Pv : Value → List OpT → Prop) : RowP Pv [] [] := ⟨rfl, fun u h => by simp at h, fun j x h => by simp at h⟩
theorem RowP.mono {Pv Pw : Value → List OpT → Prop} {l : List ItT} {xs : List Value} (h : RowP Pv l xs) (hm : ∀ v o, Pv v o → Pw v o) : RowP Pw l xs :=
  ⟨h.1, h.2.1, fun j x hj => by obtain ⟨vo, h1, h2⟩ := h.2.2 j x hj; exact ⟨vo, h1, hm _ _ h2⟩⟩
theorem RowP.append {Pv : Value → List OpT → Prop} {l m : List ItT} {xs ys : List Value} (h : RowP Pv l xs) (k : RowP Pv m ys) : RowP Pv (l ++ m) (xs ++ ys) := by
  refine ⟨by rw [List.length_append, List.length_append, h.1, k.1]; omega, fun u hu => ?_, fun j x hj => ?_⟩
  · rcases List.mem_append.1 hu with h' | h'
    · exact h.2.1 u h'
    · exact k.2.1 u h'
  · have hl := h.1
    by_cases hlt : j < l.length
    · rw [List.getElem?_append_left hlt] at hj
      obtain ⟨vo, h1, h2⟩ := h.2.2 j x hj
      exact ⟨vo, fun q hq => by rw [List.getElem?_append_left (by omega)]; exact h1 q hq, h2⟩
    · rw [List.getElem?_append_right (by omega)] at hj
      obtain ⟨vo, h1, h2⟩ := k.2.2 _ x hj
      refine ⟨vo, fun q hq => ?_, h2⟩
      rw [List.getElem?_append_right (by omega), ← h1 q hq]
      congr 1
      omega
theorem RowP.one {Pv : Value → List OpT → Prop} {x : ItT} {vo : Value} (h1 : vo.oneCell' = true) (h : Pv vo x.ops) : RowP Pv [x] (itCells x vo).toList := by
  refine ⟨rfl, fun u hu => ?_, fun j y hj => ?_⟩
  · simp [itCells] at hu
    rcases hu with rfl | rfl | rfl | rfl | rfl | rfl | rfl | rfl <;> first | rfl | exact h1
  · have hje : j = 0 := by
      have := (List.getElem?_eq_some_iff.1 hj).1
      simp at this
      omega
    subst hje
    simp at hj
    subst hj
    exact ⟨vo, fun k hk => by rw [Nat.zero_mul, Nat.zero_add, Array.getElem?_toList], h⟩
/-- a row that is owned holds items -/
theorem its_of_row {B : Nat} {v : Value} {l : List ItT} {xs : List Value} {w : World} (hrow : w.ownsRow B 27 8 v l.length xs) (h : RowP (fun vo o => OpsAt w vo o) l xs) : ItsAt w v l := by
  have hrow' := hrow
  obtain ⟨hl, ⟨rfl, h0⟩ | ⟨g, cap, cur, rfl, hg, hh, h1, h3, h4, h5⟩⟩ := hrow
  · exact ⟨none, 0, by rw [h0], by omega, .inl h0⟩
  · refine ⟨_, cap, rfl, h1, .inr ⟨g, 0, rfl, (Array.getElem?_eq_some_iff.1 hh).1, fun j x hj => ?_⟩⟩
    obtain ⟨vo, hc, ho⟩ := h.2.2 j x hj
    have key : ∀ k u, k < 8 → (itCells x vo)[k]? = some u → w.cell? ⟨g, 0 + j * 8 + k, none⟩ = some u := fun k u hk hu => by
      have := hrow'.cells (g := g) rfl (j * 8 + k) u (by rw [hc k hk]; exact hu)
      rw [addr_add] at this
      rw [show 0 + j * 8 + k = 0 + (j * 8 + k) by omega]
      exact this
    exact ⟨key 0 _ (by omega) rfl, key 1 _ (by omega) rfl, key 2 _ (by omega) rfl, key 3 _ (by omega) rfl, key 4 _ (by omega) rfl, key 5 _ (by omega) rfl, key 6 _ (by omega) rfl, vo, key 7 _ (by omega) rfl, ho⟩
/-- where a row that is owned lies -/
theorem row_src {B : Nat} {v : Value} {n : Nat} {xs : List Value} {T : TypeId} {w : World} (hrow : w.ownsRow B T 8 v n xs) : ∃ a c, v = .slice a n c ∧ n ≤ c ∧ ((n = 0 ∧ a = none) ∨ ∃ ad, a = some ad ∧ ∀ j u, xs[j]? = some u → w.cell? (ad.add j) = some u) := by
  have hrow' := hrow
  obtain ⟨hl, ⟨rfl, rfl⟩ | ⟨g, cap, cur, rfl, hg, hh, h1, h3, h4, h5⟩⟩ := hrow
  · exact ⟨none, 0, rfl, Nat.le_refl _, .inl ⟨rfl, rfl⟩⟩
  · exact ⟨_, cap, rfl, h1, .inr ⟨_, rfl, fun j u hj => hrow'.cells (g := g) rfl j u hj⟩⟩
theorem own_one {B : Nat} {v : Value} {l : List OpT} {w : World} (h : OwnO B v l w) : v.oneCell' = true := by
  obtain ⟨_, ⟨rfl, _⟩ | ⟨_, _, _, rfl, _⟩⟩ := h
  · rfl
  · rfl
theorem ops_one {v : Value} {l : List OpT} {w : World} (h : OpsAt w v l) : v.oneCell' = true := by
  obtain ⟨_, _, rfl, _⟩ := h
  rfl
/-- what Decode leaves, as a row -/
theorem OutO.row {B : Nat} {v : Value} {l : List ItT} {w : World} (h : OutO B v l w) : ∃ xs, w.ownsRow B 27 8 v l.length xs ∧ RowP (fun vo o => OwnO 0 vo o w) l xs := by
  obtain ⟨xs, hrow, h2⟩ := h
  have hl : xs.length = l.length * 8 := hrow.1
  refine ⟨xs, hrow, hl, fun u hu => ?_, h2⟩
  obtain ⟨i, hi⟩ := List.getElem?_of_mem hu
  have hil := (List.getElem?_eq_some_iff.1 hi).1
  have hx : ∃ x, l[i / 8]? = some x := ⟨_, List.getElem?_eq_getElem (by omega)⟩
  obtain ⟨x, hx⟩ := hx
  obtain ⟨vo, hc, ho⟩ := h2 _ x hx
  have h8 := hc (i % 8) (Nat.mod_lt _ (by omega))
  rw [show i / 8 * 8 + i % 8 = i by omega, hi] at h8
  have hm : u ∈ (itCells x vo) := Array.mem_of_getElem? h8.symm
  simp [itCells] at hm
  rcases hm with rfl | rfl | rfl | rfl | rfl | rfl | rfl | rfl <;> first | rfl | exact own_one ho
end Go.Proofs.YtekggipkfmleoaaGreatDoor

namespace Go.Proofs.YtekggipkfmleoaaGreatDoor
open Go.RowKit

set_option maxHeartbeats 4000000 in
set_option maxRecDepth 100000 in
theorem refByte_any (v : Value) (bs : List UInt8) (n : Int) (w : World) (h : ByAt w v bs) (hlen : bs.length ≤ 1099511627776) :
    Calls Tryz.prog 14 #[v, .int .i64 n] w fun e w' => ∃ v', e = .returned v' ∧ OwnB w.heap.size v' (bs ++ beN n 1) w' ∧ Below w.heap.size w w' := by
  obtain ⟨i0, hi, hz0, hz1, hz2⟩ := info_parts wrInfoB
  obtain ⟨z, hz⟩ : ∃ z, IntKind.u8.wrap n = z := ⟨_, rfl⟩
  have hzb : z = ((bN n 0).toNat : Int) := by
    rw [← hz, bN_toNat, IntKind.wrap_u8]
    simp
  have hcc : (#[.int .u8 z] : Array Value) = (Lib.byteCells [bN n 0]).toArray := by rw [hzb]; rfl
  have HC := Lib.hid hcc; clear hcc hzb
  obtain ⟨va, vc, rfl, hvv⟩ := h
  have h : ByAt w (.slice va bs.length vc) bs := ⟨va, vc, rfl, hvv⟩
  have Hvv := Lib.hid hvv; clear hvv
  have bE : Below w.heap.size w (w.alloc (.cells #[] 5)) := (Below.refl _ _).alloc (Nat.le_refl _) _
  have o1 : (w.alloc (.cells #[] 5)).ownsRow w.heap.size 5 1 (.slice (some ⟨w.heap.size, 0, none⟩) 0 0) 0 [] := own_empty _ _ _ _ (Nat.le_refl _) (heap_alloc_new w _)
  have HY := Lib.hid (h.below bE)
  have HO := Lib.hid o1
  have HB := Lib.hid bE
  have hs0 : w.heap.size ≤ (w.alloc (.cells #[] 5)).heap.size := bE.size
  clear bE o1 h
  go_enter Tryz.func14, Tryz.ntmps14
  go_wp2_with (at_builtin; refine wpList_append_by _ rfl _ _ 22 rfl 5 i0 Tryz.underlying22 hi hz0 hz1 hz2 w.heap.size (.slice (some ⟨w.heap.size, 0, none⟩) 0 0) 0 [] rfl HO.out (.slice va bs.length vc) bs rfl HY.out ?c1 ?c2 ?_)
  case c1 => omega
  case c2 => exact hs0
  intro v1 w1 ho1 hg1 ha1
  have hs1 := hg1.size
  have HO1 := Lib.hid ho1
  have HG1 := Lib.hid hg1
  clear ho1 hg1 ha1
  go_wp2_with (at_builtin; refine wpList_append_by _ rfl _ _ 22 rfl 5 i0 Tryz.underlying22 hi hz0 hz1 hz2 w.heap.size v1 bs.length (Lib.byteCells bs) rfl (HO1.out.alloc _) (.slice (some ⟨w1.heap.size, 0, none⟩) 1 1) [bN n 0] rfl (byAt_blk (hcell HC.out (heap_alloc_new w1 (.cells #[.int .u8 z] 5)))) ?c1 ?c2 ?_)
  case c1 => simp; omega
  case c2 => simp at *; omega
  intro v2 w2 ho2 hg2 ha2
  have HO2 := Lib.hid ho2
  have HG2 := Lib.hid hg2
  clear ho2 hg2 ha2
  go_wp2
  go_ret
  refine ⟨_, rfl, ?_, ?_⟩
  · have e1 : (bs ++ beN n 1).length = bs.length + [bN n 0].length := by rw [List.length_append, beN_len]; simp
    unfold OwnB
    rw [e1, Lib.byteCells_append]
    exact HO2.out
  · exact ((HB.out.grown HG1.out hs0 (fun k hk => (HO.out.lt k hk).1)).alloc (by omega) _).grown HG2.out (by simp; omega) (fun k hk => (HO1.out.lt k hk).1)

set_option maxHeartbeats 4000000 in
set_option maxRecDepth 100000 in
theorem refFour_any (v : Value) (bs : List UInt8) (n : Int) (w : World) (h : ByAt w v bs) (hlen : bs.length ≤ 1099511627776) :
    Calls Tryz.prog 15 #[v, .int .i64 n] w fun e w' => ∃ v', e = .returned v' ∧ OwnB w.heap.size v' (bs ++ beN n 4) w' ∧ Below w.heap.size w w' := by
  obtain ⟨i0, hi, hz0, hz1, hz2⟩ := info_parts wrInfoB
  obtain ⟨z0, hz0'⟩ : ∃ z, IntKind.u8.wrap n = z := ⟨_, rfl⟩
  obtain ⟨z1, hz1'⟩ : ∃ z, n / 256 % 256 = z := ⟨_, rfl⟩
  obtain ⟨z2, hz2'⟩ : ∃ z, n / 65536 % 256 = z := ⟨_, rfl⟩
  obtain ⟨z3, hz3'⟩ : ∃ z, n / 16777216 % 256 = z := ⟨_, rfl⟩
  have hzb : z0 = ((bN n 0).toNat : Int) ∧ z1 = ((bN n 1).toNat : Int) ∧ z2 = ((bN n 2).toNat : Int) ∧ z3 = ((bN n 3).toNat : Int) := by
    rw [← hz0', ← hz1', ← hz2', ← hz3', bN_toNat, bN_toNat, bN_toNat, bN_toNat, IntKind.wrap_u8]
    simp
  have hcc : (#[.int .u8 z3, .int .u8 z2, .int .u8 z1, .int .u8 z0] : Array Value) = (Lib.byteCells [bN n 3, bN n 2, bN n 1, bN n 0]).toArray := by rw [hzb.1, hzb.2.1, hzb.2.2.1, hzb.2.2.2]; rfl
  have HC := Lib.hid hcc; clear hcc hzb
  obtain ⟨va, vc, rfl, hvv⟩ := h
  have h : ByAt w (.slice va bs.length vc) bs := ⟨va, vc, rfl, hvv⟩
  have Hvv := Lib.hid hvv; clear hvv
  have bE : Below w.heap.size w (w.alloc (.cells #[] 5)) := (Below.refl _ _).alloc (Nat.le_refl _) _
  have o1 : (w.alloc (.cells #[] 5)).ownsRow w.heap.size 5 1 (.slice (some ⟨w.heap.size, 0, none⟩) 0 0) 0 [] := own_empty _ _ _ _ (Nat.le_refl _) (heap_alloc_new w _)
  have HY := Lib.hid (h.below bE)
  have HO := Lib.hid o1
  have HB := Lib.hid bE
  have hs0 : w.heap.size ≤ (w.alloc (.cells #[] 5)).heap.size := bE.size
  clear bE o1 h
  go_enter Tryz.func15, Tryz.ntmps15
  go_wp2_with (at_builtin; refine wpList_append_by _ rfl _ _ 22 rfl 5 i0 Tryz.underlying22 hi hz0 hz1 hz2 w.heap.size (.slice (some ⟨w.heap.size, 0, none⟩) 0 0) 0 [] rfl HO.out (.slice va bs.length vc) bs rfl HY.out ?c1 ?c2 ?_)
  case c1 => omega
  case c2 => exact hs0
  intro v1 w1 ho1 hg1 ha1
  have hs1 := hg1.size
  have HO1 := Lib.hid ho1
  have HG1 := Lib.hid hg1
  clear ho1 hg1 ha1
  go_wp2_with (at_builtin; refine wpList_append_by _ rfl _ _ 22 rfl 5 i0 Tryz.underlying22 hi hz0 hz1 hz2 w.heap.size v1 bs.length (Lib.byteCells bs) rfl (HO1.out.alloc _) (.slice (some ⟨w1.heap.size, 0, none⟩) 4 4) [bN n 3, bN n 2, bN n 1, bN n 0] rfl (byAt_blk (hcell HC.out (heap_alloc_new w1 (.cells #[.int .u8 z3, .int .u8 z2, .int .u8 z1, .int .u8 z0] 5)))) ?c1 ?c2 ?_)
  case c1 => simp; omega
  case c2 => simp at *; omega
  intro v2 w2 ho2 hg2 ha2
  have HO2 := Lib.hid ho2
  have HG2 := Lib.hid hg2
  clear ho2 hg2 ha2
  go_wp2
  go_ret
  refine ⟨_, rfl, ?_, ?_⟩
  · have e1 : (bs ++ beN n 4).length = bs.length + [bN n 3, bN n 2, bN n 1, bN n 0].length := by rw [List.length_append, beN_len]; simp
    unfold OwnB
    rw [e1, Lib.byteCells_append]
    exact HO2.out
  · exact ((HB.out.grown HG1.out hs0 (fun k hk => (HO.out.lt k hk).1)).alloc (by omega) _).grown HG2.out (by simp; omega) (fun k hk => (HO1.out.lt k hk).1)

set_option maxHeartbeats 2000000 in
set_option maxRecDepth 100000 in
theorem refText_any (v : Value) (bs : List UInt8) (s : ByteArray) (w : World) (h : ByAt w v bs) (hlen : bs.length ≤ 549755813888) (hs : s.size ≤ 4294967296) :
    Calls Tryz.prog 16 #[v, .string s] w fun e w' => ∃ v', e = .returned v' ∧ OwnB w.heap.size v' (bs ++ textB s) w' ∧ Below w.heap.size w w' := by
  obtain ⟨i0, hi, hz0, hz1, hz2⟩ := info_parts wrInfoB
  have HY := Lib.hid h; clear h
  go_enter Tryz.func16, Tryz.ntmps16
  go_wp2_with (fail)
  refine (refFour_any v bs _ w HY.out (by omega)).mono ?_
  rintro e w1 ⟨v1, rfl, ho, hb⟩
  have hz := hb.size
  have hl1 : (bs ++ beN (s.size : Int) 4).length = bs.length + 4 := by rw [List.length_append, beN_len]
  have HO := Lib.hid ho
  have HB := Lib.hid hb
  have Hl := Lib.hid hl1
  clear ho hb hl1
  go_wp2_with (at_builtin; refine wpList_append_str _ rfl _ _ 22 9 rfl w.heap.size 5 i0 Tryz.underlying22 Tryz.underlying9 hi hz0 hz1 hz2 _ _ _ rfl HO.out s rfl ?c3 ?c4 ?c5 ?_)
  case c3 => rw [Hl.out]; unfold maxLen; omega
  case c4 => rw [Hl.out]; omega
  case c5 => omega
  intro v2 w2 ho2 hg2 hat
  go_wp2
  go_ret
  refine ⟨_, rfl, ?_, HB.out.grown hg2 hz (fun k hk => (HO.out.lt k hk).1)⟩
  have e1 : bs ++ textB s = (bs ++ beN (s.size : Int) 4) ++ s.data.toList := by unfold textB; rw [List.append_assoc]
  have e2 : s.data.toList.length = s.size := by rw [Array.length_toList]; rfl
  have e3 : (bs ++ beN (s.size : Int) 4 ++ s.data.toList).length = (bs ++ beN (s.size : Int) 4).length + s.size := by
    rw [List.length_append, e2]
  unfold OwnB
  rw [e1, e3, Lib.byteCells_append, List.length_append]
  exact ho2
theorem addr_ad2 (g o k : Nat) : (⟨g, o, none⟩ : Addr).add k = ⟨g, o + k, none⟩ := by
  unfold Addr.add
  split
  · rename_i h; subst h; rfl
  · rfl
theorem conv_own {w : World} {v : Value} {L : List UInt8} (h : ByAt w v L) : (convert 22 9 v).run Tryz.prog w = .ok (.string ⟨L.toArray⟩) w := by
  obtain ⟨a, c, rfl, ⟨rfl, rfl⟩ | ⟨g, o, rfl, hs⟩⟩ := h
  · exact Lib.run_convert_nil_bytes w _ _ _ c Tryz.underlying22 Tryz.underlying5 Tryz.underlying9
  · refine run_convert_bytes_back w _ _ _ ⟨g, o, none⟩ c L Tryz.underlying22 Tryz.underlying5 Tryz.underlying9 fun j hj => ?_
    rw [addr_ad2]
    exact hs j _ (List.getElem?_eq_getElem hj)
end Go.Proofs.YtekggipkfmleoaaGreatDoor

namespace Go.Proofs.YtekggipkfmleoaaGreatDoor
open Go.RowKit

theorem keptO {bo n : Nat} {p q r s : Value} {V w1 w' : World} (hb : Below n w1 w') (h : w1.cell? ⟨bo, 0, none⟩ = some p ∧ w1.cell? ⟨bo, 1, none⟩ = some q ∧ w1.cell? ⟨bo, 2, none⟩ = some r ∧ w1.cell? ⟨bo, 3, none⟩ = some s ∧ bo < w1.heap.size ∧ Below V.heap.size V w1) (hn : n = w1.heap.size) :
    w'.cell? ⟨bo, 0, none⟩ = some p ∧ w'.cell? ⟨bo, 1, none⟩ = some q ∧ w'.cell? ⟨bo, 2, none⟩ = some r ∧ w'.cell? ⟨bo, 3, none⟩ = some s ∧ bo < w'.heap.size ∧ Below V.heap.size V w' := by
  subst hn
  obtain ⟨h0, h1, h2, h3, h4, h5⟩ := h
  exact ⟨(hb.cell (p := ⟨bo, 0, none⟩) h4).trans h0, (hb.cell (p := ⟨bo, 1, none⟩) h4).trans h1, (hb.cell (p := ⟨bo, 2, none⟩) h4).trans h2, (hb.cell (p := ⟨bo, 3, none⟩) h4).trans h3, Nat.lt_of_lt_of_le h4 hb.size, h5.trans (hb.mono h5.size)⟩
theorem below_O {V w' : World} {p q r s t : Prop} (h : p ∧ q ∧ r ∧ s ∧ t ∧ Below V.heap.size V w') : Below V.heap.size V w' := h.2.2.2.2.2

set_option maxHeartbeats 8000000 in
set_option maxRecDepth 100000 in
theorem bytes_any (v : Value) (l : List ItT) (w : World) (hI : ItsAt w v l) (hl : l.length ≤ 2048) (hok : l.all itOk = true) :
    Calls Tryz.prog 5 #[v] w fun e w' => ∃ v', e = .returned v' ∧ OwnB w.heap.size v' (itsB l) w' ∧ Below w.heap.size w w' := by
  obtain ⟨a, c, rfl, hlc, hI⟩ := hI
  have HI := Lib.hid hI; clear hI
  have HOkAll := Lib.hid hok; clear hok
  go_enter Tryz.func5, Tryz.ntmps5
  go_wp2_with (fail)
  go_loopw [3, 4] (fun bv i wr => ∃ (k : Nat) (v1 : Value), v1 = bv ∧ i = .int .i64 k ∧ k ≤ l.length ∧ Hid (OwnB w.heap.size v1 (itsB (l.take k)) wr) ∧ Below w.heap.size w wr) (fun _ i _ => l.length - (intOf i).toNat)
  case atStart => exact ⟨0, _, rfl, rfl, by omega, Lib.hid (World.ownsRow_nil _ _ _ _), Below.refl _ _⟩
  case round =>
    obtain ⟨k, v1, rfl, rfl, hk, HA, hbw⟩ := hrel
    by_cases hlt : k < l.length
    · have hx : ∃ x, l[k]? = some x := ⟨_, List.getElem?_eq_getElem hlt⟩
      obtain ⟨x, hx⟩ := hx
      rcases HI.out with h0 | ⟨ib, io, rfl, hib, his⟩
      · omega
      obtain ⟨d0, d1, d2, d3, d4, d5, d6, vo, d7, hO⟩ := his k x hx
      have c0 := (hbw.cell (p := ⟨ib, io + k * 8, none⟩) hib).trans d0
      have c1 := (hbw.cell (p := ⟨ib, io + k * 8 + 1, none⟩) hib).trans d1
      have c2 := (hbw.cell (p := ⟨ib, io + k * 8 + 2, none⟩) hib).trans d2
      have c3 := (hbw.cell (p := ⟨ib, io + k * 8 + 3, none⟩) hib).trans d3
      have c4 := (hbw.cell (p := ⟨ib, io + k * 8 + 4, none⟩) hib).trans d4
      have c5 := (hbw.cell (p := ⟨ib, io + k * 8 + 5, none⟩) hib).trans d5
      have c6 := (hbw.cell (p := ⟨ib, io + k * 8 + 6, none⟩) hib).trans d6
      have c7 := (hbw.cell (p := ⟨ib, io + k * 8 + 7, none⟩) hib).trans d7
      have hxok : itOk x = true := by
        have := HOkAll.out
        rw [List.all_eq_true] at this
        exact this x (List.mem_of_getElem? hx)
      have hall : (l.take k).all itOk = true := by
        have := HOkAll.out
        rw [List.all_eq_true] at this ⊢
        exact fun y hy => this y (List.mem_of_mem_take hy)
      obtain ⟨_, hp2, hp3, hp4⟩ := itOk_parts hxok
      have HP4 := Lib.hid hp4
      have HO := Lib.hid hO
      obtain ⟨ao, co, rfl, hoc, hom, hO2⟩ := hO
      have HX := Lib.hid hx
      have HS := Lib.hid his
      have HBw := Lib.hid hbw
      have hpre := itsB_le hall hl
      have hsz0 := hbw.size
      obtain ⟨pre, hpr⟩ : ∃ pre, itsB (l.take k) = pre := ⟨_, rfl⟩
      rw [hpr] at HA hpre
      have HPr := Lib.hid hpr
      have hX1 : Below wr.heap.size wr (wr.alloc (.cells (itCells x (.slice ao x.ops.length co)) 27)) := (Below.refl _ _).alloc (Nat.le_refl _) _
      have hXb := heap_alloc_new wr (.cells (itCells x (.slice ao x.ops.length co)) 27)
      have hXs : wr.heap.size < (wr.alloc (.cells (itCells x (.slice ao x.ops.length co)) 27)).heap.size := by simp
      have HWX := Lib.hid (HBw.out.trans (hX1.mono hsz0))
      have HAX := Lib.hid (HA.out.by.below hX1)
      have HXb := Lib.hid hXb
      clear his d0 d1 d2 d3 d4 d5 d6 d7 hO2 hx hbw hxok hall hp3 hp4 hpr hX1 hXb
      unfold itCells at HWX HAX HXb hXs
      go_wp2_with (fail)
      generalize wr.alloc (.cells #[.int .i64 x.kind, .int .i64 x.client, .int .i64 x.node, .int .i64 x.n, .int .i64 x.lo, .int .i64 x.hi, .int .i64 x.group, .slice ao x.ops.length co] 27) = X at *
      clear c0 c1 c2 c3 c4 c5 c6 c7 HBw HA
      generalize wr.heap.size = bi at *
      refine (refByte_any v1 pre x.kind X HAX.out (by omega)).mono ?_
      rintro e Z1 ⟨v2, rfl, ho2, hb2⟩
      have hz1 := hb2.size
      have hZb := (hb2.block bi hXs).trans HXb.out
      have e1 : Z1.cell? ⟨bi, 1, none⟩ = some (.int .i64 x.client) := cell_blk hZb rfl
      have e2 : Z1.cell? ⟨bi, 2, none⟩ = some (.int .i64 x.node) := cell_blk hZb rfl
      have e3 : Z1.cell? ⟨bi, 3, none⟩ = some (.int .i64 x.n) := cell_blk hZb rfl
      have e4 : Z1.cell? ⟨bi, 4, none⟩ = some (.int .i64 x.lo) := cell_blk hZb rfl
      have e5 : Z1.cell? ⟨bi, 5, none⟩ = some (.int .i64 x.hi) := cell_blk hZb rfl
      have e6 : Z1.cell? ⟨bi, 6, none⟩ = some (.int .i64 x.group) := cell_blk hZb rfl
      have hwZ := HWX.out.trans (hb2.mono (by have := HWX.out.size; omega))
      have hl1 : (pre ++ beN x.kind 1).length = pre.length + 1 := by rw [List.length_append, beN_len]
      have hU1 : Below Z1.heap.size Z1 (Z1.alloc (.cells #[.int .i64 x.client, .int .i64 x.node, .int .i64 x.n, .int .i64 x.lo, .int .i64 x.hi, .int .i64 x.group] 3)) := (Below.refl _ _).alloc (Nat.le_refl _) _
      have hUb := heap_alloc_new Z1 (.cells #[.int .i64 x.client, .int .i64 x.node, .int .i64 x.n, .int .i64 x.lo, .int .i64 x.hi, .int .i64 x.group] 3)
      have hUs : Z1.heap.size < (Z1.alloc (.cells #[.int .i64 x.client, .int .i64 x.node, .int .i64 x.n, .int .i64 x.lo, .int .i64 x.hi, .int .i64 x.group] 3)).heap.size := by simp
      have HXU := Lib.hid (hb2.trans (hU1.mono hz1))
      have HWU := Lib.hid (hwZ.trans (hU1.mono hwZ.size))
      have HOU := Lib.hid ((OwnB.mono ho2 (by have := HWX.out.size; omega) : OwnB w.heap.size v2 (pre ++ beN x.kind 1) Z1))
      have hOU2 : OwnB w.heap.size v2 (pre ++ beN x.kind 1) (Z1.alloc (.cells #[.int .i64 x.client, .int .i64 x.node, .int .i64 x.n, .int .i64 x.lo, .int .i64 x.hi, .int .i64 x.group] 3)) := World.ownsRow.alloc HOU.out _
      have HOU2 := Lib.hid hOU2
      have HUb := Lib.hid hUb
      have Hl1 := Lib.hid hl1
      clear hb2 hZb hwZ hU1 hUb hl1 ho2 hOU2 HOU
      go_wp2_with (fail)
      generalize Z1.alloc (.cells #[.int .i64 x.client, .int .i64 x.node, .int .i64 x.n, .int .i64 x.lo, .int .i64 x.hi, .int .i64 x.group] 3) = U at *
      clear e1 e2 e3 e4 e5 e6
      generalize Z1.heap.size = bu at *
      have hszX := HWX.out.size
      go_loopw [3, 38] (fun bv i wr2 => ∃ (j : Nat) (v3 : Value), v3 = bv ∧ i = .int .i64 j ∧ j ≤ 6 ∧ Hid (OwnB w.heap.size v3 ((pre ++ beN x.kind 1) ++ fours ((nums x).take j)) wr2) ∧ Hid (Below U.heap.size U wr2)) (fun _ i _ => 6 - (intOf i).toNat)
      case atStart =>
        refine ⟨0, v2, rfl, rfl, by omega, ?_, Lib.hid (Below.refl _ _)⟩
        have e : (pre ++ beN x.kind 1) ++ fours ((nums x).take 0) = pre ++ beN x.kind 1 := List.append_nil _
        rw [e]
        exact HOU2
      case round =>
        obtain ⟨j, v3, rfl, rfl, hj, HA3, HS3⟩ := hrel
        have hz3 := HS3.out.size
        by_cases hj6 : j < 6
        · have hn : ∃ n, (nums x)[j]? = some n := ⟨_, List.getElem?_eq_getElem hj6⟩
          obtain ⟨n, hn⟩ := hn
          have HN := Lib.hid hn
          have hub := (HS3.out.block bu hUs).trans HUb.out
          have cn : wr.cell? ⟨bu, j, none⟩ = some (.int .i64 n) := by
            refine cell_blk hub ?_
            have h0 : j = 0 ∨ j = 1 ∨ j = 2 ∨ j = 3 ∨ j = 4 ∨ j = 5 := by omega
            rcases h0 with rfl | rfl | rfl | rfl | rfl | rfl <;> (simp [nums] at hn; subst hn; rfl)
          have hlen : ((pre ++ beN x.kind 1) ++ fours ((nums x).take j)).length ≤ 1099511627776 := by
            rw [List.length_append, Hl1.out, fours_len, List.length_take]
            omega
          clear hn hub
          go_wp2_with (fail)
          refine (refFour_any v3 _ n wr HA3.out.by hlen).mono ?_
          rintro e w4 ⟨v4, rfl, h1, h2⟩
          have H1 := Lib.hid h1
          have H2 := Lib.hid h2
          clear h1 h2 cn
          go_wp2_with (fail)
          go_roundw
          case rel =>
            have hm := HWU.out.size
            refine ⟨j + 1, v4, rfl, by simp, by omega, ?_, Lib.hid (HS3.out.trans (H2.out.mono hz3))⟩
            rw [fours_at HN.out, ← List.append_assoc]
            exact OwnB.mono H1.out (by omega)
          case measure => simp [intOf]; omega
        · obtain rfl : j = 6 := by omega
          have hXw := HXU.out.trans (HS3.out.mono HXU.out.size)
          have hWw := HWU.out.trans (HS3.out.mono HWU.out.size)
          have hib := (hXw.block bi hXs).trans HXb.out
          have c7 : wr.cell? ⟨bi, 7, none⟩ = some (.slice ao x.ops.length co) := cell_blk hib rfl
          have e4 : (pre ++ beN x.kind 1) ++ fours ((nums x).take 6) = (pre ++ beN x.kind 1) ++ fours (nums x) := rfl
          rw [e4] at HA3
          obtain ⟨p3, hp3⟩ : ∃ p3, (pre ++ beN x.kind 1) ++ fours (nums x) = p3 := ⟨_, rfl⟩
          have hl3 : p3.length = pre.length + 25 := by
            rw [← hp3, List.length_append, Hl1.out, fours_len]
            rfl
          rw [hp3] at HA3
          have hl3' : p3.length ≤ 4337700 := by omega
          have HP3 := Lib.hid hp3
          have HXw := Lib.hid hXw
          have HWw := Lib.hid hWw
          clear hp3 hib hXw hWw hl3 e4
          go_wp2_with (fail)
          refine (refByte_any v3 p3 _ wr HA3.out.by (by omega)).mono ?_
          rintro e Z4 ⟨v5, rfl, ho5, hb5⟩
          have hz4 := hb5.size
          have HX4 := Lib.hid (HXw.out.trans (hb5.mono HXw.out.size))
          have HW4 := Lib.hid (HWw.out.trans (hb5.mono HWw.out.size))
          obtain ⟨p4, hp4⟩ : ∃ p4, p3 ++ beN (x.ops.length : Int) 1 = p4 := ⟨_, rfl⟩
          have hl4 : p4.length ≤ 4337701 := by rw [← hp4, List.length_append, beN_len]; omega
          rw [hp4] at ho5
          have HO5 := Lib.hid (OwnB.mono ho5 (by have := HWw.out.size; omega) : OwnB w.heap.size v5 p4 Z4)
          have HP4b := Lib.hid hp4
          clear hp4 ho5 hb5 c7
          go_wp2_with (fail)
          go_loopw [3, 8] (fun bv i wr3 => ∃ (q : Nat) (v6 : Value), v6 = bv ∧ i = .int .i64 q ∧ q ≤ x.ops.length ∧ Hid (OwnB w.heap.size v6 (p4 ++ opsB (x.ops.take q)) wr3) ∧ Hid (Below X.heap.size X wr3)) (fun _ i _ => x.ops.length - (intOf i).toNat)
          case atStart =>
            refine ⟨0, v5, rfl, rfl, by omega, ?_, HX4⟩
            have e : p4 ++ opsB (x.ops.take 0) = p4 := List.append_nil _
            rw [e]
            exact HO5
          case round =>
            obtain ⟨q, v6, rfl, rfl, hq, HA6, HX6⟩ := hrel
            have hib := (HX6.out.block bi hXs).trans HXb.out
            have c7 : wr.cell? ⟨bi, 7, none⟩ = some (.slice ao x.ops.length co) := cell_blk hib rfl
            have hb6 := HWX.out.trans (HX6.out.mono hszX)
            clear hib
            by_cases hql : q < x.ops.length
            · have ho : ∃ o, x.ops[q]? = some o := ⟨_, List.getElem?_eq_getElem hql⟩
              obtain ⟨o, ho⟩ := ho
              obtain ⟨ao', co', hv', _, _, h0 | ⟨ob, oo, rfl, hob, hos⟩⟩ := HO.out
              · omega
              cases hv'
              obtain ⟨d0, d1, d2, d3⟩ := hos q o ho
              have f0 := (hb6.cell (p := ⟨ob, oo + q * 4, none⟩) hob).trans d0
              have f1 := (hb6.cell (p := ⟨ob, oo + q * 4 + 1, none⟩) hob).trans d1
              have f2 := (hb6.cell (p := ⟨ob, oo + q * 4 + 2, none⟩) hob).trans d2
              have f3 := (hb6.cell (p := ⟨ob, oo + q * 4 + 3, none⟩) hob).trans d3
              have hoOk : opOk o = true := by
                have := HP4.out
                rw [List.all_eq_true] at this
                exact this o (List.mem_of_getElem? ho)
              obtain ⟨hs1, hs2⟩ := opOk_sizes hoOk
              have hpo := opsB_le (k := q) HP4.out hp2
              obtain ⟨p6, hp6⟩ : ∃ p6, p4 ++ opsB (x.ops.take q) = p6 := ⟨_, rfl⟩
              have hl6 : p6.length ≤ 4339793 := by rw [← hp6, List.length_append]; omega
              rw [hp6] at HA6
              have HP6 := Lib.hid hp6
              have HOo := Lib.hid ho
              have hz6 := hb6.size
              have hzX := HX6.out.size
              have hX6 : Below wr.heap.size wr (wr.alloc (.cells (opCells o) 38)) := (Below.refl _ _).alloc (Nat.le_refl _) _
              have hV6b := heap_alloc_new wr (.cells (opCells o) 38)
              have hX6s : wr.heap.size < (wr.alloc (.cells (opCells o) 38)).heap.size := by simp
              have HBy6 := Lib.hid (HA6.out.by.below hX6)
              have HXV := Lib.hid (HX6.out.trans (hX6.mono hzX))
              have HV6b := Lib.hid hV6b
              clear hos d0 d1 d2 d3 ho hp6 hb6 hoOk hpo hX6 hV6b
              unfold opCells at HBy6 HXV HV6b hX6s
              go_wp2_with (fail)
              generalize wr.alloc (.cells #[.int .i64 o.kind, .string o.cas, .string o.name, .int .i64 o.n] 38) = V at *
              clear f0 f1 f2 f3 c7
              generalize wr.heap.size = bo at *
              have hby7 : ByAt V.drew v6 p6 := HBy6.out
              have HBy7 := Lib.hid hby7; clear hby7
              have g0 : V.cell? ⟨bo, 0, none⟩ = some (.int .i64 o.kind) := cell_blk HV6b.out rfl
              have g1 : V.cell? ⟨bo, 1, none⟩ = some (.string o.cas) := cell_blk HV6b.out rfl
              have g2 : V.cell? ⟨bo, 2, none⟩ = some (.string o.name) := cell_blk HV6b.out rfl
              have g3 : V.cell? ⟨bo, 3, none⟩ = some (.int .i64 o.n) := cell_blk HV6b.out rfl
              have hS0 : V.cell? ⟨bo, 0, none⟩ = some (.int .i64 o.kind) ∧ V.cell? ⟨bo, 1, none⟩ = some (.string o.cas) ∧ V.cell? ⟨bo, 2, none⟩ = some (.string o.name) ∧ V.cell? ⟨bo, 3, none⟩ = some (.int .i64 o.n) ∧ bo < V.heap.size ∧ Below V.heap.size V V := ⟨g0, g1, g2, g3, hX6s, Below.refl _ _⟩
              have hlb1 : (p6 ++ beN o.kind 1).length ≤ 4339794 := by rw [List.length_append, beN_len]; omega
              have hlb2 : (p6 ++ beN o.kind 1 ++ textB o.cas).length ≤ 4340060 := by rw [List.length_append, textB_len]; omega
              have hlb3 : (p6 ++ beN o.kind 1 ++ textB o.cas ++ textB o.name).length ≤ 4340400 := by rw [List.length_append, textB_len]; omega
              have HLB := Lib.hid (And.intro hlb1 (And.intro hlb2 hlb3))
              have HBd := Lib.hid (And.intro hl6 (And.intro hs1 hs2))
              clear g0 g1 g2 g3 hlb1 hlb2 hlb3
              go_region_held3 (fun w' => w'.cell? ⟨bo, 0, none⟩ = some (.int .i64 o.kind) ∧ w'.cell? ⟨bo, 1, none⟩ = some (.string o.cas) ∧ w'.cell? ⟨bo, 2, none⟩ = some (.string o.name) ∧ w'.cell? ⟨bo, 3, none⟩ = some (.int .i64 o.n) ∧ bo < w'.heap.size ∧ Below V.heap.size V w')
                (first | assumption | exact keptO hb4 (by assumption) rfl | exact keptO hb3 (by assumption) rfl | exact keptO hb2 (by assumption) rfl | exact keptO hb1 (by assumption) rfl | exact ⟨hS0.1, hS0.2.1, hS0.2.2.1, hS0.2.2.2.1, hS0.2.2.2.2.1, hS0.2.2.2.2.2.drew⟩ | fail)
                (first
                  | (go_at_call_of 14 o.kind; refine (refByte_any v6 p6 o.kind V.drew HBy7.out (Nat.le_trans HBd.out.1 (by decide))).mono ?_; rintro e w' ⟨u1, rfl, ho1, hb1⟩)
                  | (go_at_call_of 16 o.cas; refine (refText_any u1 (p6 ++ beN o.kind 1) o.cas _ (OwnB.by ho1) (Nat.le_trans HLB.out.1 (by decide)) (Nat.le_trans HBd.out.2.1 (by decide))).mono ?_; rintro e w' ⟨u2, rfl, ho2, hb2⟩)
                  | (go_at_call_of 16 o.name; refine (refText_any u2 (p6 ++ beN o.kind 1 ++ textB o.cas) o.name _ (OwnB.by ho2) (Nat.le_trans HLB.out.2.1 (by decide)) (Nat.le_trans HBd.out.2.2 (by decide))).mono ?_; rintro e w' ⟨u3, rfl, ho3, hb3⟩)
                  | (go_at_call_of 15 o.n; refine (refFour_any u3 (p6 ++ beN o.kind 1 ++ textB o.cas ++ textB o.name) o.n _ (OwnB.by ho3) (Nat.le_trans HLB.out.2.2 (by decide))).mono ?_; rintro e w' ⟨u4, rfl, ho4, hb4⟩))
              all_goals
                have hbV : Below V.heap.size V _ := below_O (by assumption)
                go_wp2_with (fail)
                go_roundw
                case rel =>
                  have hm := HXV.out.size
                  refine ⟨q + 1, u4, rfl, by simp, by omega, ?_, Lib.hid (HXV.out.trans (hbV.mono hm))⟩
                  have e : p4 ++ opsB (x.ops.take (q + 1)) = p6 ++ beN o.kind 1 ++ textB o.cas ++ textB o.name ++ beN o.n 4 := by
                    rw [opsB_at HOo.out, ← List.append_assoc, HP6.out]
                    unfold opB
                    simp only [List.append_assoc]
                  rw [e]
                  exact OwnB.mono ho4 (by have := hbV.size; have := hb1.size; have := hb2.size; have := hb3.size; have hd : V.drew.heap.size = V.heap.size := rfl; omega)
                case measure => simp [intOf]; omega
            · obtain rfl : q = x.ops.length := by omega
              rw [List.take_length] at HA6
              have e : itsB (l.take (k + 1)) = p4 ++ opsB x.ops := by
                rw [itsB_at HX.out, HPr.out, ← HP4b.out, ← HP3.out]
                unfold itB
                simp only [List.append_assoc]
              have HE := Lib.hid e; clear e
              have hb6' := Lib.hid hb6
              clear hb6
              go_wp2_with (fail)
              go_roundw
              case rel =>
                refine ⟨k + 1, v6, rfl, by simp, by omega, ?_, hb6'.out⟩
                rw [HE.out]
                exact HA6
              case measure => simp [intOf]; omega
    · obtain rfl : k = l.length := by omega
      rw [List.take_length] at HA
      have HB := Lib.hid hbw; clear hbw
      go_wp2_with (fail)
      go_ret
      exact ⟨_, rfl, HA.out, HB.out⟩
end Go.Proofs.YtekggipkfmleoaaGreatDoor


namespace Go.Proofs.YtekggipkfmleoaaGreatDoor
open Go.RowKit Go.Ev

theorem wn_int {k : IntKind} {a b : Int} (h : a = b) : Ending.returned (.int k a) = .returned (.int k b) := by rw [h]

set_option maxHeartbeats 400000 in
theorem within_any (n lo hi : Int) (w : World) (h3 : 0 ≤ lo) (h4 : lo ≤ hi) (h5 : hi ≤ 1000000000) :
    Calls Tryz.prog 6 #[.int .i64 n, .int .i64 lo, .int .i64 hi] w fun e w' => e = .returned (.int .i64 (wthn n lo hi)) ∧ w' = w := by
  have ha := Int.tmod_lt_of_pos n (b := hi - lo + 1) (by omega)
  have hb : -(hi - lo + 1) < n.tmod (hi - lo + 1) := by
    have h3 := Int.tmod_lt_of_pos (-n) (b := hi - lo + 1) (by omega)
    rw [Int.neg_tmod] at h3
    omega
  by_cases hz : n.tmod (hi - lo + 1) < 0
  · have hw : wthn n lo hi = lo + (n.tmod (hi - lo + 1) + (hi - lo + 1)) := by unfold wthn; rw [if_pos hz]
    have HW := Go.Lib.hid hw; clear hw
    go_enter Tryz.func6, Tryz.ntmps6
    go_wp2
    go_ret
    exact ⟨wn_int (by rw [HW.out]; omega), rfl⟩
  · have hw : wthn n lo hi = lo + n.tmod (hi - lo + 1) := by unfold wthn; rw [if_neg hz]
    have HW := Go.Lib.hid hw; clear hw
    go_enter Tryz.func6, Tryz.ntmps6
    go_wp2
    go_ret
    exact ⟨wn_int (by rw [HW.out]), rfl⟩

theorem withinOk : WithinOk Tryz.prog 6 :=
  ⟨⟨_, _, Tryz.func6, by kernel_rfl, rfl⟩, fun n lo hi w h1 h2 h3 => within_any n lo hi w h1 h2 h3⟩
end Go.Proofs.YtekggipkfmleoaaGreatDoor

namespace Go.Proofs.YtekggipkfmleoaaGreatDoor
open Go.RowKit

theorem take_lt {α : Type} {a t : List α} {m : Nat} (h : m ≤ a.length) : (a ++ t).take m = a.take m := List.take_append_of_le_length h
theorem take_ge {α : Type} {a t : List α} {m : Nat} (h : a.length ≤ m) : (a ++ t).take m = a ++ t.take (m - a.length) := by
  rw [List.take_append, List.take_of_length_le h]
theorem gC_none (most : Nat) : gC most none = (0, none) := by
  unfold gC
  split <;> rfl
theorem gT_none (most : Nat) : (gT most none).2 = none := by
  unfold gT
  rw [gC_none]
  rfl
theorem gOp_none : (gOp none).2 = none := by
  unfold gOp
  simp only
  have h1 : (gB 1 none).2 = none := rfl
  rw [h1]
  have h2 := gT_none 255
  rw [h2, h2]
  rfl
theorem gOps_none : ∀ k, (gOps k none).2 = none
  | 0 => rfl
  | k + 1 => by
    rw [gOps_succ]
    simp only
    rw [gOp_none]
    exact gOps_none k
theorem gNums_none : ∀ k, (gNums k none).2 = none
  | 0 => rfl
  | k + 1 => by
    rw [gNums_succ]
    simp only
    exact gNums_none k
theorem gB_cut (n : Int) (k m : Nat) (h : m < k) : gB k (some ((beN n k).take m)) = (0, none) := by
  unfold gB
  simp only
  rw [if_neg]
  rw [List.length_take, beN_len]
  omega
theorem gT_cut {s : ByteArray} (hs : s.size ≤ 255) {m : Nat} (h : m < (textB s).length) : (gT 255 (some ((textB s).take m))).2 = none := by
  have hl : s.data.toList.length = s.size := by rw [Array.length_toList]; rfl
  rw [textB_len] at h
  by_cases h4 : m < 4
  · have e : (textB s).take m = (beN s.size 4).take m := take_lt (by rw [beN_len]; omega)
    have e2 : gC 255 (some ((beN s.size 4).take m)) = (0, none) := by
      unfold gC
      rw [gB_cut _ _ _ h4]
      rfl
    unfold gT
    rw [e, e2]
    rfl
  · have e : (textB s).take m = beN s.size 4 ++ s.data.toList.take (m - 4) := by
      have := take_ge (a := beN s.size 4) (t := s.data.toList) (m := m) (by rw [beN_len]; omega)
      rw [beN_len] at this
      exact this
    have hn := num4 s.size
    have e2 : gC 255 (some (beN s.size 4 ++ s.data.toList.take (m - 4))) = (s.size, some (s.data.toList.take (m - 4))) := by
      unfold gC
      rw [gB_app]
      rw [if_neg (by simp only; omega)]
      congr 1
      omega
    unfold gT
    rw [e, e2]
    unfold gRaw
    simp only
    rw [if_neg (by rw [List.length_take]; omega)]
theorem gOp_cut {o : OpT} (h : opOk o = true) {m : Nat} (hm : m < (opB o).length) : (gOp (some ((opB o).take m))).2 = none := by
  have hl := opB_len o
  unfold opOk at h
  simp only [Bool.and_eq_true, decide_eq_true_eq] at h
  obtain ⟨⟨h1, h2⟩, h3, h4, h5⟩ := h
  unfold gOp
  simp only
  by_cases q1 : m < 1
  · have e : (opB o).take m = (beN o.kind 1).take m := take_lt (by rw [beN_len]; omega)
    rw [e, gB_cut _ _ _ q1]
    simp only
    rw [gT_none, gT_none]
    rfl
  have e1 : (opB o).take m = beN o.kind 1 ++ (textB o.cas ++ (textB o.name ++ beN o.n 4)).take (m - 1) := by
    have := take_ge (a := beN o.kind 1) (t := textB o.cas ++ (textB o.name ++ beN o.n 4)) (m := m) (by rw [beN_len]; omega)
    rw [beN_len] at this
    exact this
  rw [e1, gB1_app h1 h2]
  simp only
  by_cases q2 : m - 1 < (textB o.cas).length
  · rw [take_lt (by omega)]
    rw [gT_cut h3 q2, gT_none]
    rfl
  rw [take_ge (by omega), gT_app h3]
  simp only
  by_cases q3 : m - 1 - (textB o.cas).length < (textB o.name).length
  · rw [take_lt (by omega), gT_cut h4 q3]
    rfl
  rw [take_ge (by omega), gT_app h4]
  simp only
  have q4 : m - 1 - (textB o.cas).length - (textB o.name).length < 4 := by
    rw [textB_len, textB_len]
    omega
  unfold gS
  rw [gB_cut _ _ _ q4]
theorem gOps_cut : ∀ (l : List OpT) (m : Nat), l.all opOk = true → m < (opsB l).length → (gOps l.length (some ((opsB l).take m))).2 = none
  | [], m, _, hm => by simp [opsB] at hm
  | o :: r, m, h, hm => by
    rw [List.all_cons, Bool.and_eq_true] at h
    have e : opsB (o :: r) = opB o ++ opsB r := by unfold opsB; rw [List.flatMap_cons]
    rw [e] at hm ⊢
    rw [List.length_append] at hm
    rw [List.length_cons, gOps_succ]
    simp only
    by_cases q : m < (opB o).length
    · rw [take_lt (by omega), gOp_cut h.1 q]
      exact gOps_none _
    · rw [take_ge (by omega), gOp_app h.1]
      simp only
      exact gOps_cut r _ h.2 (by omega)
theorem gNums_cut : ∀ (l : List Int) (m : Nat), l.all sm = true → m < (fours l).length → (gNums l.length (some ((fours l).take m))).2 = none
  | [], m, _, hm => by simp [fours] at hm
  | o :: r, m, h, hm => by
    rw [List.all_cons, Bool.and_eq_true] at h
    have e : fours (o :: r) = beN o 4 ++ fours r := by unfold fours; rw [List.flatMap_cons]
    rw [e] at hm ⊢
    rw [List.length_append, beN_len] at hm
    rw [List.length_cons, gNums_succ]
    simp only
    by_cases q : m < 4
    · rw [take_lt (by rw [beN_len]; omega)]
      unfold gS
      rw [gB_cut _ _ _ q]
      exact gNums_none _
    · rw [take_ge (by rw [beN_len]; omega), gS_app h.1, beN_len]
      simp only
      exact gNums_cut r _ h.2 (by omega)
def bodyB (x : ItT) : List UInt8 := fours (nums x) ++ (beN x.ops.length 1 ++ opsB x.ops)
theorem gItem_cut {x : ItT} (h : itOk x = true) {m : Nat} (hm : m < (bodyB x).length) : gItem x.kind ((bodyB x).take m) = none := by
  unfold itOk at h
  simp only [Bool.and_eq_true, decide_eq_true_eq] at h
  obtain ⟨⟨h1, h2⟩, h3, h4, h5⟩ := h
  have hf : (fours (nums x)).length = 24 := by rw [fours_len]; rfl
  unfold bodyB at hm ⊢
  rw [List.length_append, List.length_append, beN_len, hf] at hm
  have key : ∀ s : RSt, s = none → (if 4 < (gB 1 s).1 then (none : Option (ItT × List UInt8)) else match (gOps (gB 1 s).1 (gB 1 s).2).2 with | none => none | some t => some (itOf x.kind (gNums 6 (some ((fours (nums x) ++ (beN x.ops.length 1 ++ opsB x.ops)).take m))).1 (gOps (gB 1 s).1 (gB 1 s).2).1, t)) = none := by
    rintro s rfl
    rfl
  unfold gItem
  simp only
  by_cases q1 : m < 24
  · have e : (fours (nums x) ++ (beN x.ops.length 1 ++ opsB x.ops)).take m = (fours (nums x)).take m := take_lt (by omega)
    have hn := gNums_cut (nums x) m h4 (by omega)
    rw [show (nums x).length = 6 from rfl] at hn
    rw [e, hn]
    rfl
  have e1 : (fours (nums x) ++ (beN x.ops.length 1 ++ opsB x.ops)).take m = fours (nums x) ++ (beN x.ops.length 1 ++ opsB x.ops).take (m - 24) := by
    have := take_ge (a := fours (nums x)) (t := beN x.ops.length 1 ++ opsB x.ops) (m := m) (by omega)
    rw [hf] at this
    exact this
  have e2 := gNums_app (nums x) ((beN x.ops.length 1 ++ opsB x.ops).take (m - 24)) h4
  rw [show (nums x).length = 6 from rfl] at e2
  rw [e1, e2]
  simp only
  by_cases q2 : m - 24 < 1
  · rw [take_lt (by rw [beN_len]; omega), gB_cut _ _ _ q2]
    rfl
  rw [take_ge (by rw [beN_len]; omega), beN_len, gB1_app (by omega) (by omega)]
  simp only [Int.toNat_natCast]
  rw [if_neg (by omega), gOps_cut x.ops (m - 24 - 1) h5 (by omega)]
theorem itB_body {x : ItT} (h : itOk x = true) : ∃ c : UInt8, (c.toNat : Int) = x.kind ∧ itB x = c :: bodyB x := by
  obtain ⟨c, h1, h2⟩ := itB_eq h []
  refine ⟨c, h1, ?_⟩
  rw [List.append_nil, List.append_nil] at h2
  exact h2
theorem decL_cut : ∀ (l : List ItT) (f k n : Nat), l.all itOk = true → l.length ≤ k → (itsB l).length < f → ∃ m, m ≤ l.length ∧ decL f k ((itsB l).take n) = l.take m
  | [], f, k, n, _, _, _ => ⟨0, Nat.le_refl _, by simp [itsB, decL_nil]⟩
  | x :: r, f, k, n, h, hk, hf => by
    rw [List.all_cons, Bool.and_eq_true] at h
    have e : itsB (x :: r) = itB x ++ itsB r := by unfold itsB; rw [List.flatMap_cons]
    obtain ⟨c, hc, e2⟩ := itB_body h.1
    have hkk := h.1
    unfold itOk at hkk
    simp only [Bool.and_eq_true, decide_eq_true_eq] at hkk
    rw [e, e2] at hf ⊢
    rw [List.cons_append] at hf ⊢
    simp only [List.length_cons, List.length_append] at hf hk
    cases n with
    | zero => exact ⟨0, Nat.zero_le _, by rw [List.take_zero, decL_nil, List.take_zero]⟩
    | succ n =>
      cases f with
      | zero => omega
      | succ f =>
        rw [List.take_succ_cons, decL_cons, if_neg (by omega), if_neg (by omega), hc]
        by_cases q : n < (bodyB x).length
        · refine ⟨0, Nat.zero_le _, ?_⟩
          rw [take_lt (by omega), gItem_cut h.1 q]
          rfl
        · have hg := gItem_app h.1 ((itsB r).take (n - (bodyB x).length))
          have e3 : (bodyB x ++ itsB r).take n = fours (nums x) ++ (beN x.ops.length 1 ++ (opsB x.ops ++ (itsB r).take (n - (bodyB x).length))) := by
            rw [take_ge (by omega)]
            unfold bodyB
            simp only [List.append_assoc]
          rw [e3, hg]
          simp only
          obtain ⟨m, h1, h2⟩ := decL_cut r f (k - 1) (n - (bodyB x).length) h.2 (by omega) (by omega)
          exact ⟨m + 1, by rw [List.length_cons]; omega, by rw [h2, List.take_succ_cons]⟩
theorem decP_cut {l : List ItT} (h : l.all itOk = true) (hl : l.length ≤ 2048) (n : Nat) : ∃ m, m ≤ l.length ∧ decP ((itsB l).take n) = l.take m := by
  obtain ⟨m, h1, h2⟩ := decL_cut l ((itsB l).length + 1) 2048 n h hl (by omega)
  refine ⟨m, h1, ?_⟩
  rw [← h2]
  unfold decP
  exact decL_fuel _ _ _ _ (by omega) (by rw [List.length_take]; omega)
/-- the bound on items is not felt where the bytes are fewer -/
theorem decL_many : ∀ (r : List UInt8) (f g m k : Nat), r.length < f → r.length < g → r.length < m → r.length < k → decL f m r = decL g k r := by
  intro r
  induction hn : r.length using Nat.strongRecOn generalizing r with
  | _ n ih =>
    intro f g m k hf hg hm hk
    subst hn
    cases r with
    | nil => rw [decL_nil, decL_nil]
    | cons c t =>
      simp only [List.length_cons] at hf hg hm hk ih
      cases f with
      | zero => omega
      | succ f =>
        cases g with
        | zero => omega
        | succ g =>
          rw [decL_cons, decL_cons, if_neg (show ¬ m = 0 by omega), if_neg (show ¬ k = 0 by omega)]
          split
          · exact ih t.length (by omega) t rfl f g m k (by omega) (by omega) (by omega) (by omega)
          · cases hi : gItem c.toNat t with
            | none => rfl
            | some p =>
              obtain ⟨x, t'⟩ := p
              have := gItem_len hi
              simp only
              rw [ih t'.length (by omega) t' rfl f g (m - 1) (k - 1) (by omega) (by omega) (by omega) (by omega)]
/-- what stands behind whole items is read as if alone -/
theorem decP_app {l : List ItT} (h : l.all itOk = true) (b : List UInt8) (hl : l.length + b.length < 2048) : decP (itsB l ++ b) = l ++ decP b := by
  unfold decP
  rw [decL_app l _ 2048 b h (by omega) (by omega)]
  congr 1
  exact decL_many b _ _ _ _ (by rw [List.length_append]; omega) (by omega) (by omega) (by omega)
end Go.Proofs.YtekggipkfmleoaaGreatDoor

