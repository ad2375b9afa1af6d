/- conclaveref1: Byte, Four, Text; the law's own 'bytes'. -/
import Derived.Test.YtfchpilaomkhgaaGreatDoorWa
import Derived.Deep.QuietTactic
import Derived.BigQuiet
import Derived.Deep.Onto
import Derived.Laws.IdiomStrings
import Derived.Lib.BufferRead
import Derived.Test.YtfchpilaomkhgaaGreatDoorEa
import Derived.Deep.RegionHeld3
set_option linter.unusedVariables false
set_option linter.unusedSimpArgs false
namespace Go.Proofs.YtfchpilaomkhgaaGreatDoor
open Go.RowKit

section
variable {P : Program} (w : World)
/-- bytes that lie somewhere, behind what is owned -/
theorem run_append_by (t ty e : TypeId) (i : TypeInfo) (ht : P.underlying t = some (.slice e)) (hi : P.info? e = some i) (hz : i.zero = some (.int .u8 0)) (hsize : i.size = 1) (hby : i.bytes = 1)
    (base : Nat) (v : Value) (n : Nat) (xs : List Value) (hown : w.ownsRow base e 1 v n xs) (s : Value) (L : List UInt8) (hs : ByAt w s L) (hlen : n + L.length ≤ 140737488355328) (hbase : base ≤ w.heap.size) :
    ∃ v' w', (Builtin.append_ #[t, t] ty #[v, s]).run P w = .ok v' w' ∧ w'.ownsRow base e 1 v' (n + L.length) (xs ++ Lib.byteCells L) ∧ w.grownBy w' v.ownBlock ∧ (v'.ownBlock = v.ownBlock ∨ v'.ownBlock = some w.heap.size) := by
  obtain ⟨a, c, rfl, ⟨rfl, rfl⟩ | ⟨g, o, rfl, hc⟩⟩ := hs
  · refine ⟨v, w, ?_, ?_, ⟨rfl, rfl, rfl, Nat.le_refl _, fun _ _ _ => rfl⟩, .inl rfl⟩
    · rcases hown.2 with ⟨rfl, rfl⟩ | ⟨g, cap, cur, rfl, _, _, hnc, _⟩
      · simp [Builtin.append_, run_underlying ht, sizeOf, typeInfo, hi, Builtin.lenOf, Builtin.firstCells]
      · simp [Builtin.append_, run_underlying ht, sizeOf, typeInfo, hi, Builtin.lenOf, Builtin.firstCells, hnc, storeCells]
    · show w.ownsRow base e 1 v (n + 0) (xs ++ [])
      rw [List.append_nil]
      exact hown
  · obtain ⟨v', w', hr, h2, h3, _, h5⟩ := run_append_own_at (P := P) w base t ty e i (.int .u8 0) 1 1 ht hi hz hsize hby rfl (by omega) v n xs hown ⟨g, o, none⟩ L.length c (Lib.byteCells L) (by rw [Lib.byteCells_length]; omega)
      (fun j u hj => by
        unfold Lib.byteCells at hj
        rw [List.getElem?_map, Option.map_eq_some_iff] at hj
        obtain ⟨x, hx, rfl⟩ := hj
        have e : (⟨g, o, none⟩ : Addr).add j = ⟨g, o + j, none⟩ := by
          unfold Addr.add
          split
          · rename_i h; subst h; rfl
          · rfl
        rw [e]
        exact hc j x hx)
      (fun u hu => by
        unfold Lib.byteCells at hu
        obtain ⟨x, _, rfl⟩ := List.mem_map.1 hu
        rfl) (by unfold maxLen; omega) (by omega) hbase
    exact ⟨v', w', hr, h2, h3, h5⟩
theorem wp_append_by {o : Oper} {a : Act} {K : Act → World → Prop} {Q : Exit → Act → World → Prop} (sl x : Operand) (t : TypeId) (ho : o.op = .call { callee := .builtin .append, args := #[sl, x], argTypes := #[t, t] })
    (e : TypeId) (i : TypeInfo) (ht : P.underlying t = some (.slice e)) (hi : P.info? e = some i) (hz : i.zero = some (.int .u8 0)) (hsize : i.size = 1) (hby : i.bytes = 1)
    (base : Nat) (v : Value) (n : Nat) (xs : List Value) (hs : a.eval sl = v) (hown : w.ownsRow base e 1 v n xs) (s : Value) (L : List UInt8) (hx : a.eval x = s) (hL : ByAt w s L) (hlen : n + L.length ≤ 140737488355328) (hbase : base ≤ w.heap.size)
    (h : ∀ v' w', w'.ownsRow base e 1 v' (n + L.length) (xs ++ Lib.byteCells L) → w.grownBy w' v.ownBlock → (v'.ownBlock = v.ownBlock ∨ v'.ownBlock = some w.heap.size) → K (a.put o.dst v') w') : o.wp P a w K Q := by
  obtain ⟨v', w', hr, h2, h3, h4⟩ := run_append_by (P := P) w t o.type e i ht hi hz hsize hby base v n xs hown s L hL hlen hbase
  unfold Oper.wp execOp
  simp only [ho, resolve, invoke, builtin, Sem.run_bind, Sem.run_pure, Result.andThen_ok, List.map_toArray, List.map_cons, List.map_nil, hs, hx, hr]
  exact h v' w' h2 h3 h4
theorem wpList_append_by {ops : Array Oper} {rest : List Oper} {o : Oper} {a : Act} {Q : Exit → Act → World → Prop} (hgd : o.guard = none) (sl x : Operand) (t : TypeId) (ho : o.op = .call { callee := .builtin .append, args := #[sl, x], argTypes := #[t, t] })
    (e : TypeId) (i : TypeInfo) (ht : P.underlying t = some (.slice e)) (hi : P.info? e = some i) (hz : i.zero = some (.int .u8 0)) (hsize : i.size = 1) (hby : i.bytes = 1)
    (base : Nat) (v : Value) (n : Nat) (xs : List Value) (hs : a.eval sl = v) (hown : w.ownsRow base e 1 v n xs) (s : Value) (L : List UInt8) (hx : a.eval x = s) (hL : ByAt w s L) (hlen : n + L.length ≤ 140737488355328) (hbase : base ≤ w.heap.size)
    (h : ∀ v' w', w'.ownsRow base e 1 v' (n + L.length) (xs ++ Lib.byteCells L) → w.grownBy w' v.ownBlock → (v'.ownBlock = v.ownBlock ∨ v'.ownBlock = some w.heap.size) → wpList P ops Q rest (a.put o.dst v') w') : wpList P ops Q (o :: rest) a w :=
  wpList_plain hgd fun _ hK => wp_append_by w sl x t ho e i ht hi hz hsize hby base v n xs hs hown s L hx hL hlen hbase fun v' w' h2 h3 h4 => hK _ _ (h v' w' h2 h3 h4)
theorem step_append_by {ops : Array Oper} {o : Oper} {a : Act} {K : Act → World → Prop} {Q : Exit → Act → World → Prop} {E : Prop} (hgd : o.guard = none) (sl x : Operand) (t : TypeId) (ho : o.op = .call { callee := .builtin .append, args := #[sl, x], argTypes := #[t, t] })
    (e : TypeId) (i : TypeInfo) (ht : P.underlying t = some (.slice e)) (hi : P.info? e = some i) (hz : i.zero = some (.int .u8 0)) (hsize : i.size = 1) (hby : i.bytes = 1)
    (base : Nat) (v : Value) (n : Nat) (xs : List Value) (hs : a.eval sl = v) (hown : w.ownsRow base e 1 v n xs) (s : Value) (L : List UInt8) (hx : a.eval x = s) (hL : ByAt w s L) (hlen : n + L.length ≤ 140737488355328) (hbase : base ≤ w.heap.size)
    (h : ∀ v' w', w'.ownsRow base e 1 v' (n + L.length) (xs ++ Lib.byteCells L) → w.grownBy w' v.ownBlock → (v'.ownBlock = v.ownBlock ∨ v'.ownBlock = some w.heap.size) → K (a.put o.dst v') w') :
    if Region.wanted o (yielded ops a.tmps) = true then Oper.wp P o a w K Q else E := by
  have hw : Region.wanted o (yielded ops a.tmps) = true := by simp [Region.wanted, hgd]
  rw [if_pos hw]
  exact wp_append_by w sl x t ho e i ht hi hz hsize hby base v n xs hs hown s L hx hL hlen hbase h
end

/-- one byte in a block of its own -/
theorem ByAt.one (w : World) (c : UInt8) (z : Int) (hz : z = (c.toNat : Int)) (t : TypeId) (b : Nat) (hb : w.heap[b]? = some (.cells #[.int .u8 z] t (0, 0))) : ByAt w (.slice (some ⟨b, 0, none⟩) 1 1) [c] := by
  subst hz
  refine ⟨_, 1, rfl, .inr ⟨b, 0, rfl, fun j x hj => ?_⟩⟩
  cases j with
  | zero =>
    simp at hj
    subst hj
    rw [Nat.zero_add, Lib.cell_of_heap hb]
    rfl
  | succ j => simp at hj
theorem own_empty (w : World) (B : Nat) (e : TypeId) (b : Nat) (hB : B ≤ b) (hb : w.heap[b]? = some (.cells #[] e (0, 0))) : w.ownsRow B e 1 (.slice (some ⟨b, 0, none⟩) 0 0) 0 [] :=
  ⟨rfl, .inr ⟨b, 0, #[], rfl, hB, hb, Nat.le_refl _, by unfold maxLen; omega, rfl, rfl⟩⟩
/-- bytes that fill a block -/
theorem byAt_blk {w : World} {b : Nat} {L : List UInt8} {t : TypeId} (h : w.heap[b]? = some (.cells (Lib.byteCells L).toArray t (0, 0))) : ByAt w (.slice (some ⟨b, 0, none⟩) L.length L.length) L := by
  refine ⟨_, L.length, rfl, .inr ⟨b, 0, rfl, fun j x hj => ?_⟩⟩
  rw [Nat.zero_add, Lib.cell_of_heap h]
  unfold Lib.byteCells
  simp [hj]
theorem hcell {w : World} {b : Nat} {c c' : Array Value} {t : TypeId} (h : c = c') (hb : w.heap[b]? = some (.cells c t (0, 0))) : w.heap[b]? = some (.cells c' t (0, 0)) := by
  rw [← h]
  exact hb
/-- bytes that are the call's own, from block B on -/
def OwnB (B : Nat) (v : Value) (bs : List UInt8) (w : World) : Prop := w.ownsRow B 5 1 v bs.length (Lib.byteCells bs)
theorem OwnB.by {B : Nat} {v : Value} {bs : List UInt8} {w : World} (h : OwnB B v bs w) : ByAt w v bs := ByAt.of_own h
theorem OwnB.mono {B B' : Nat} {v : Value} {bs : List UInt8} {w : World} (h : OwnB B v bs w) (hb : B' ≤ B) : OwnB B' v bs w := World.ownsRow.mono h hb


set_option maxHeartbeats 4000000 in
set_option maxRecDepth 100000 in
theorem refByte_any (v : Value) (bs : List UInt8) (n : Int) (w : World) (h : ByAt w v bs) (hlen : bs.length ≤ 1099511627776) :
    Calls Tryz.prog 18 #[v, .int .i64 n] w fun e w' => ∃ v', e = .returned v' ∧ OwnB w.heap.size v' (bs ++ beN n 1) w' ∧ Below w.heap.size w w' := by
  obtain ⟨i0, hi, hz0, hz1, hz2⟩ := info_parts wrInfoB
  obtain ⟨z, hz⟩ : ∃ z, IntKind.u8.wrap n = z := ⟨_, rfl⟩
  have hzb : z = ((bN n 0).toNat : Int) := by
    rw [← hz, bN_toNat, IntKind.wrap_u8]
    simp
  have hcc : (#[.int .u8 z] : Array Value) = (Lib.byteCells [bN n 0]).toArray := by rw [hzb]; rfl
  have HC := Lib.hid hcc; clear hcc hzb
  obtain ⟨va, vc, rfl, hvv⟩ := h
  have h : ByAt w (.slice va bs.length vc) bs := ⟨va, vc, rfl, hvv⟩
  have Hvv := Lib.hid hvv; clear hvv
  have bE : Below w.heap.size w (w.alloc (.cells #[] 5)) := (Below.refl _ _).alloc (Nat.le_refl _) _
  have o1 : (w.alloc (.cells #[] 5)).ownsRow w.heap.size 5 1 (.slice (some ⟨w.heap.size, 0, none⟩) 0 0) 0 [] := own_empty _ _ _ _ (Nat.le_refl _) (heap_alloc_new w _)
  have HY := Lib.hid (h.below bE)
  have HO := Lib.hid o1
  have HB := Lib.hid bE
  have hs0 : w.heap.size ≤ (w.alloc (.cells #[] 5)).heap.size := bE.size
  clear bE o1 h
  go_enter Tryz.func18, Tryz.ntmps18
  go_wp2_with (at_builtin; refine wpList_append_by _ rfl _ _ 22 rfl 5 i0 Tryz.underlying22 hi hz0 hz1 hz2 w.heap.size (.slice (some ⟨w.heap.size, 0, none⟩) 0 0) 0 [] rfl HO.out (.slice va bs.length vc) bs rfl HY.out ?c1 ?c2 ?_)
  case c1 => omega
  case c2 => exact hs0
  intro v1 w1 ho1 hg1 ha1
  have hs1 := hg1.size
  have HO1 := Lib.hid ho1
  have HG1 := Lib.hid hg1
  clear ho1 hg1 ha1
  go_wp2_with (at_builtin; refine wpList_append_by _ rfl _ _ 22 rfl 5 i0 Tryz.underlying22 hi hz0 hz1 hz2 w.heap.size v1 bs.length (Lib.byteCells bs) rfl (HO1.out.alloc _) (.slice (some ⟨w1.heap.size, 0, none⟩) 1 1) [bN n 0] rfl (byAt_blk (hcell HC.out (heap_alloc_new w1 (.cells #[.int .u8 z] 5)))) ?c1 ?c2 ?_)
  case c1 => simp; omega
  case c2 => simp at *; omega
  intro v2 w2 ho2 hg2 ha2
  have HO2 := Lib.hid ho2
  have HG2 := Lib.hid hg2
  clear ho2 hg2 ha2
  go_wp2
  go_ret
  refine ⟨_, rfl, ?_, ?_⟩
  · have e1 : (bs ++ beN n 1).length = bs.length + [bN n 0].length := by rw [List.length_append, beN_len]; simp
    unfold OwnB
    rw [e1, Lib.byteCells_append]
    exact HO2.out
  · exact ((HB.out.grown HG1.out hs0 (fun k hk => (HO.out.lt k hk).1)).alloc (by omega) _).grown HG2.out (by simp; omega) (fun k hk => (HO1.out.lt k hk).1)

set_option maxHeartbeats 4000000 in
set_option maxRecDepth 100000 in
theorem refFour_any (v : Value) (bs : List UInt8) (n : Int) (w : World) (h : ByAt w v bs) (hlen : bs.length ≤ 1099511627776) :
    Calls Tryz.prog 19 #[v, .int .i64 n] w fun e w' => ∃ v', e = .returned v' ∧ OwnB w.heap.size v' (bs ++ beN n 4) w' ∧ Below w.heap.size w w' := by
  obtain ⟨i0, hi, hz0, hz1, hz2⟩ := info_parts wrInfoB
  obtain ⟨z0, hz0'⟩ : ∃ z, IntKind.u8.wrap n = z := ⟨_, rfl⟩
  obtain ⟨z1, hz1'⟩ : ∃ z, n / 256 % 256 = z := ⟨_, rfl⟩
  obtain ⟨z2, hz2'⟩ : ∃ z, n / 65536 % 256 = z := ⟨_, rfl⟩
  obtain ⟨z3, hz3'⟩ : ∃ z, n / 16777216 % 256 = z := ⟨_, rfl⟩
  have hzb : z0 = ((bN n 0).toNat : Int) ∧ z1 = ((bN n 1).toNat : Int) ∧ z2 = ((bN n 2).toNat : Int) ∧ z3 = ((bN n 3).toNat : Int) := by
    rw [← hz0', ← hz1', ← hz2', ← hz3', bN_toNat, bN_toNat, bN_toNat, bN_toNat, IntKind.wrap_u8]
    simp
  have hcc : (#[.int .u8 z3, .int .u8 z2, .int .u8 z1, .int .u8 z0] : Array Value) = (Lib.byteCells [bN n 3, bN n 2, bN n 1, bN n 0]).toArray := by rw [hzb.1, hzb.2.1, hzb.2.2.1, hzb.2.2.2]; rfl
  have HC := Lib.hid hcc; clear hcc hzb
  obtain ⟨va, vc, rfl, hvv⟩ := h
  have h : ByAt w (.slice va bs.length vc) bs := ⟨va, vc, rfl, hvv⟩
  have Hvv := Lib.hid hvv; clear hvv
  have bE : Below w.heap.size w (w.alloc (.cells #[] 5)) := (Below.refl _ _).alloc (Nat.le_refl _) _
  have o1 : (w.alloc (.cells #[] 5)).ownsRow w.heap.size 5 1 (.slice (some ⟨w.heap.size, 0, none⟩) 0 0) 0 [] := own_empty _ _ _ _ (Nat.le_refl _) (heap_alloc_new w _)
  have HY := Lib.hid (h.below bE)
  have HO := Lib.hid o1
  have HB := Lib.hid bE
  have hs0 : w.heap.size ≤ (w.alloc (.cells #[] 5)).heap.size := bE.size
  clear bE o1 h
  go_enter Tryz.func19, Tryz.ntmps19
  go_wp2_with (at_builtin; refine wpList_append_by _ rfl _ _ 22 rfl 5 i0 Tryz.underlying22 hi hz0 hz1 hz2 w.heap.size (.slice (some ⟨w.heap.size, 0, none⟩) 0 0) 0 [] rfl HO.out (.slice va bs.length vc) bs rfl HY.out ?c1 ?c2 ?_)
  case c1 => omega
  case c2 => exact hs0
  intro v1 w1 ho1 hg1 ha1
  have hs1 := hg1.size
  have HO1 := Lib.hid ho1
  have HG1 := Lib.hid hg1
  clear ho1 hg1 ha1
  go_wp2_with (at_builtin; refine wpList_append_by _ rfl _ _ 22 rfl 5 i0 Tryz.underlying22 hi hz0 hz1 hz2 w.heap.size v1 bs.length (Lib.byteCells bs) rfl (HO1.out.alloc _) (.slice (some ⟨w1.heap.size, 0, none⟩) 4 4) [bN n 3, bN n 2, bN n 1, bN n 0] rfl (byAt_blk (hcell HC.out (heap_alloc_new w1 (.cells #[.int .u8 z3, .int .u8 z2, .int .u8 z1, .int .u8 z0] 5)))) ?c1 ?c2 ?_)
  case c1 => simp; omega
  case c2 => simp at *; omega
  intro v2 w2 ho2 hg2 ha2
  have HO2 := Lib.hid ho2
  have HG2 := Lib.hid hg2
  clear ho2 hg2 ha2
  go_wp2
  go_ret
  refine ⟨_, rfl, ?_, ?_⟩
  · have e1 : (bs ++ beN n 4).length = bs.length + [bN n 3, bN n 2, bN n 1, bN n 0].length := by rw [List.length_append, beN_len]; simp
    unfold OwnB
    rw [e1, Lib.byteCells_append]
    exact HO2.out
  · exact ((HB.out.grown HG1.out hs0 (fun k hk => (HO.out.lt k hk).1)).alloc (by omega) _).grown HG2.out (by simp; omega) (fun k hk => (HO1.out.lt k hk).1)

set_option maxHeartbeats 2000000 in
set_option maxRecDepth 100000 in
theorem refText_any (v : Value) (bs : List UInt8) (s : ByteArray) (w : World) (h : ByAt w v bs) (hlen : bs.length ≤ 549755813888) (hs : s.size ≤ 4294967296) :
    Calls Tryz.prog 20 #[v, .string s] w fun e w' => ∃ v', e = .returned v' ∧ OwnB w.heap.size v' (bs ++ textB s) w' ∧ Below w.heap.size w w' := by
  obtain ⟨i0, hi, hz0, hz1, hz2⟩ := info_parts wrInfoB
  have HY := Lib.hid h; clear h
  go_enter Tryz.func20, Tryz.ntmps20
  go_wp2_with (fail)
  refine (refFour_any v bs _ w HY.out (by omega)).mono ?_
  rintro e w1 ⟨v1, rfl, ho, hb⟩
  have hz := hb.size
  have hl1 : (bs ++ beN (s.size : Int) 4).length = bs.length + 4 := by rw [List.length_append, beN_len]
  have HO := Lib.hid ho
  have HB := Lib.hid hb
  have Hl := Lib.hid hl1
  clear ho hb hl1
  go_wp2_with (at_builtin; refine wpList_append_str _ rfl _ _ 22 9 rfl w.heap.size 5 i0 Tryz.underlying22 Tryz.underlying9 hi hz0 hz1 hz2 _ _ _ rfl HO.out s rfl ?c3 ?c4 ?c5 ?_)
  case c3 => rw [Hl.out]; unfold maxLen; omega
  case c4 => rw [Hl.out]; omega
  case c5 => omega
  intro v2 w2 ho2 hg2 hat
  go_wp2
  go_ret
  refine ⟨_, rfl, ?_, HB.out.grown hg2 hz (fun k hk => (HO.out.lt k hk).1)⟩
  have e1 : bs ++ textB s = (bs ++ beN (s.size : Int) 4) ++ s.data.toList := by unfold textB; rw [List.append_assoc]
  have e2 : s.data.toList.length = s.size := by rw [Array.length_toList]; rfl
  have e3 : (bs ++ beN (s.size : Int) 4 ++ s.data.toList).length = (bs ++ beN (s.size : Int) 4).length + s.size := by
    rw [List.length_append, e2]
  unfold OwnB
  rw [e1, e3, Lib.byteCells_append, List.length_append]
  exact ho2
theorem addr_ad2 (g o k : Nat) : (⟨g, o, none⟩ : Addr).add k = ⟨g, o + k, none⟩ := by
  unfold Addr.add
  split
  · rename_i h; subst h; rfl
  · rfl
theorem conv_own {w : World} {v : Value} {L : List UInt8} (h : ByAt w v L) : (convert 22 9 v).run Tryz.prog w = .ok (.string ⟨L.toArray⟩) w := by
  obtain ⟨a, c, rfl, ⟨rfl, rfl⟩ | ⟨g, o, rfl, hs⟩⟩ := h
  · exact Lib.run_convert_nil_bytes w _ _ _ c Tryz.underlying22 Tryz.underlying5 Tryz.underlying9
  · refine run_convert_bytes_back w _ _ _ ⟨g, o, none⟩ c L Tryz.underlying22 Tryz.underlying5 Tryz.underlying9 fun j hj => ?_
    rw [addr_ad2]
    exact hs j _ (List.getElem?_eq_getElem hj)
end Go.Proofs.YtfchpilaomkhgaaGreatDoor

namespace Go.Proofs.YtfchpilaomkhgaaGreatDoor
open Go.RowKit

theorem keptO {bo n : Nat} {p q r s : Value} {V w1 w' : World} (hb : Below n w1 w') (h : w1.cell? ⟨bo, 0, none⟩ = some p ∧ w1.cell? ⟨bo, 1, none⟩ = some q ∧ w1.cell? ⟨bo, 2, none⟩ = some r ∧ w1.cell? ⟨bo, 3, none⟩ = some s ∧ bo < w1.heap.size ∧ Below V.heap.size V w1) (hn : n = w1.heap.size) :
    w'.cell? ⟨bo, 0, none⟩ = some p ∧ w'.cell? ⟨bo, 1, none⟩ = some q ∧ w'.cell? ⟨bo, 2, none⟩ = some r ∧ w'.cell? ⟨bo, 3, none⟩ = some s ∧ bo < w'.heap.size ∧ Below V.heap.size V w' := by
  subst hn
  obtain ⟨h0, h1, h2, h3, h4, h5⟩ := h
  exact ⟨(hb.cell (p := ⟨bo, 0, none⟩) h4).trans h0, (hb.cell (p := ⟨bo, 1, none⟩) h4).trans h1, (hb.cell (p := ⟨bo, 2, none⟩) h4).trans h2, (hb.cell (p := ⟨bo, 3, none⟩) h4).trans h3, Nat.lt_of_lt_of_le h4 hb.size, h5.trans (hb.mono h5.size)⟩
theorem below_O {V w' : World} {p q r s t : Prop} (h : p ∧ q ∧ r ∧ s ∧ t ∧ Below V.heap.size V w') : Below V.heap.size V w' := h.2.2.2.2.2

set_option maxHeartbeats 8000000 in
set_option maxRecDepth 100000 in
theorem bytes_any (v : Value) (l : List ItT) (w : World) (hI : ItsAt w v l) (hl : l.length ≤ 2048) (hok : l.all itOk = true) :
    Calls Tryz.prog 8 #[v] w fun e w' => ∃ v', e = .returned v' ∧ OwnB w.heap.size v' (itsB l) w' ∧ Below w.heap.size w w' := by
  obtain ⟨a, c, rfl, hlc, hI⟩ := hI
  have HI := Lib.hid hI; clear hI
  have HOkAll := Lib.hid hok; clear hok
  go_enter Tryz.func8, Tryz.ntmps8
  go_wp2_with (fail)
  go_loopw [3, 4] (fun bv i wr => ∃ (k : Nat) (v1 : Value), v1 = bv ∧ i = .int .i64 k ∧ k ≤ l.length ∧ Hid (OwnB w.heap.size v1 (itsB (l.take k)) wr) ∧ Below w.heap.size w wr) (fun _ i _ => l.length - (intOf i).toNat)
  case atStart => exact ⟨0, _, rfl, rfl, by omega, Lib.hid (World.ownsRow_nil _ _ _ _), Below.refl _ _⟩
  case round =>
    obtain ⟨k, v1, rfl, rfl, hk, HA, hbw⟩ := hrel
    by_cases hlt : k < l.length
    · have hx : ∃ x, l[k]? = some x := ⟨_, List.getElem?_eq_getElem hlt⟩
      obtain ⟨x, hx⟩ := hx
      rcases HI.out with h0 | ⟨ib, io, rfl, hib, his⟩
      · omega
      obtain ⟨d0, d1, d2, d3, d4, d5, d6, vo, d7, hO⟩ := his k x hx
      have c0 := (hbw.cell (p := ⟨ib, io + k * 8, none⟩) hib).trans d0
      have c1 := (hbw.cell (p := ⟨ib, io + k * 8 + 1, none⟩) hib).trans d1
      have c2 := (hbw.cell (p := ⟨ib, io + k * 8 + 2, none⟩) hib).trans d2
      have c3 := (hbw.cell (p := ⟨ib, io + k * 8 + 3, none⟩) hib).trans d3
      have c4 := (hbw.cell (p := ⟨ib, io + k * 8 + 4, none⟩) hib).trans d4
      have c5 := (hbw.cell (p := ⟨ib, io + k * 8 + 5, none⟩) hib).trans d5
      have c6 := (hbw.cell (p := ⟨ib, io + k * 8 + 6, none⟩) hib).trans d6
      have c7 := (hbw.cell (p := ⟨ib, io + k * 8 + 7, none⟩) hib).trans d7
      have hxok : itOk x = true := by
        have := HOkAll.out
        rw [List.all_eq_true] at this
        exact this x (List.mem_of_getElem? hx)
      have hall : (l.take k).all itOk = true := by
        have := HOkAll.out
        rw [List.all_eq_true] at this ⊢
        exact fun y hy => this y (List.mem_of_mem_take hy)
      obtain ⟨_, hp2, hp3, hp4⟩ := itOk_parts hxok
      have HP4 := Lib.hid hp4
      have HO := Lib.hid hO
      obtain ⟨ao, co, rfl, hoc, hom, hO2⟩ := hO
      have HX := Lib.hid hx
      have HS := Lib.hid his
      have HBw := Lib.hid hbw
      have hpre := itsB_le hall hl
      have hsz0 := hbw.size
      obtain ⟨pre, hpr⟩ : ∃ pre, itsB (l.take k) = pre := ⟨_, rfl⟩
      rw [hpr] at HA hpre
      have HPr := Lib.hid hpr
      have hX1 : Below wr.heap.size wr (wr.alloc (.cells (itCells x (.slice ao x.ops.length co)) 27)) := (Below.refl _ _).alloc (Nat.le_refl _) _
      have hXb := heap_alloc_new wr (.cells (itCells x (.slice ao x.ops.length co)) 27)
      have hXs : wr.heap.size < (wr.alloc (.cells (itCells x (.slice ao x.ops.length co)) 27)).heap.size := by simp
      have HWX := Lib.hid (HBw.out.trans (hX1.mono hsz0))
      have HAX := Lib.hid (HA.out.by.below hX1)
      have HXb := Lib.hid hXb
      clear his d0 d1 d2 d3 d4 d5 d6 d7 hO2 hx hbw hxok hall hp3 hp4 hpr hX1 hXb
      unfold itCells at HWX HAX HXb hXs
      go_wp2_with (fail)
      generalize wr.alloc (.cells #[.int .i64 x.kind, .int .i64 x.client, .int .i64 x.node, .int .i64 x.n, .int .i64 x.lo, .int .i64 x.hi, .int .i64 x.group, .slice ao x.ops.length co] 27) = X at *
      clear c0 c1 c2 c3 c4 c5 c6 c7 HBw HA
      generalize wr.heap.size = bi at *
      refine (refByte_any v1 pre x.kind X HAX.out (by omega)).mono ?_
      rintro e Z1 ⟨v2, rfl, ho2, hb2⟩
      have hz1 := hb2.size
      have hZb := (hb2.block bi hXs).trans HXb.out
      have e1 : Z1.cell? ⟨bi, 1, none⟩ = some (.int .i64 x.client) := cell_blk hZb rfl
      have e2 : Z1.cell? ⟨bi, 2, none⟩ = some (.int .i64 x.node) := cell_blk hZb rfl
      have e3 : Z1.cell? ⟨bi, 3, none⟩ = some (.int .i64 x.n) := cell_blk hZb rfl
      have e4 : Z1.cell? ⟨bi, 4, none⟩ = some (.int .i64 x.lo) := cell_blk hZb rfl
      have e5 : Z1.cell? ⟨bi, 5, none⟩ = some (.int .i64 x.hi) := cell_blk hZb rfl
      have e6 : Z1.cell? ⟨bi, 6, none⟩ = some (.int .i64 x.group) := cell_blk hZb rfl
      have hwZ := HWX.out.trans (hb2.mono (by have := HWX.out.size; omega))
      have hl1 : (pre ++ beN x.kind 1).length = pre.length + 1 := by rw [List.length_append, beN_len]
      have hU1 : Below Z1.heap.size Z1 (Z1.alloc (.cells #[.int .i64 x.client, .int .i64 x.node, .int .i64 x.n, .int .i64 x.lo, .int .i64 x.hi, .int .i64 x.group] 3)) := (Below.refl _ _).alloc (Nat.le_refl _) _
      have hUb := heap_alloc_new Z1 (.cells #[.int .i64 x.client, .int .i64 x.node, .int .i64 x.n, .int .i64 x.lo, .int .i64 x.hi, .int .i64 x.group] 3)
      have hUs : Z1.heap.size < (Z1.alloc (.cells #[.int .i64 x.client, .int .i64 x.node, .int .i64 x.n, .int .i64 x.lo, .int .i64 x.hi, .int .i64 x.group] 3)).heap.size := by simp
      have HXU := Lib.hid (hb2.trans (hU1.mono hz1))
      have HWU := Lib.hid (hwZ.trans (hU1.mono hwZ.size))
      have HOU := Lib.hid ((OwnB.mono ho2 (by have := HWX.out.size; omega) : OwnB w.heap.size v2 (pre ++ beN x.kind 1) Z1))
      have hOU2 : OwnB w.heap.size v2 (pre ++ beN x.kind 1) (Z1.alloc (.cells #[.int .i64 x.client, .int .i64 x.node, .int .i64 x.n, .int .i64 x.lo, .int .i64 x.hi, .int .i64 x.group] 3)) := World.ownsRow.alloc HOU.out _
      have HOU2 := Lib.hid hOU2
      have HUb := Lib.hid hUb
      have Hl1 := Lib.hid hl1
      clear hb2 hZb hwZ hU1 hUb hl1 ho2 hOU2 HOU
      go_wp2_with (fail)
      generalize Z1.alloc (.cells #[.int .i64 x.client, .int .i64 x.node, .int .i64 x.n, .int .i64 x.lo, .int .i64 x.hi, .int .i64 x.group] 3) = U at *
      clear e1 e2 e3 e4 e5 e6
      generalize Z1.heap.size = bu at *
      have hszX := HWX.out.size
      go_loopw [3, 38] (fun bv i wr2 => ∃ (j : Nat) (v3 : Value), v3 = bv ∧ i = .int .i64 j ∧ j ≤ 6 ∧ Hid (OwnB w.heap.size v3 ((pre ++ beN x.kind 1) ++ fours ((nums x).take j)) wr2) ∧ Hid (Below U.heap.size U wr2)) (fun _ i _ => 6 - (intOf i).toNat)
      case atStart =>
        refine ⟨0, v2, rfl, rfl, by omega, ?_, Lib.hid (Below.refl _ _)⟩
        have e : (pre ++ beN x.kind 1) ++ fours ((nums x).take 0) = pre ++ beN x.kind 1 := List.append_nil _
        rw [e]
        exact HOU2
      case round =>
        obtain ⟨j, v3, rfl, rfl, hj, HA3, HS3⟩ := hrel
        have hz3 := HS3.out.size
        by_cases hj6 : j < 6
        · have hn : ∃ n, (nums x)[j]? = some n := ⟨_, List.getElem?_eq_getElem hj6⟩
          obtain ⟨n, hn⟩ := hn
          have HN := Lib.hid hn
          have hub := (HS3.out.block bu hUs).trans HUb.out
          have cn : wr.cell? ⟨bu, j, none⟩ = some (.int .i64 n) := by
            refine cell_blk hub ?_
            have h0 : j = 0 ∨ j = 1 ∨ j = 2 ∨ j = 3 ∨ j = 4 ∨ j = 5 := by omega
            rcases h0 with rfl | rfl | rfl | rfl | rfl | rfl <;> (simp [nums] at hn; subst hn; rfl)
          have hlen : ((pre ++ beN x.kind 1) ++ fours ((nums x).take j)).length ≤ 1099511627776 := by
            rw [List.length_append, Hl1.out, fours_len, List.length_take]
            omega
          clear hn hub
          go_wp2_with (fail)
          refine (refFour_any v3 _ n wr HA3.out.by hlen).mono ?_
          rintro e w4 ⟨v4, rfl, h1, h2⟩
          have H1 := Lib.hid h1
          have H2 := Lib.hid h2
          clear h1 h2 cn
          go_wp2_with (fail)
          go_roundw
          case rel =>
            have hm := HWU.out.size
            refine ⟨j + 1, v4, rfl, by simp, by omega, ?_, Lib.hid (HS3.out.trans (H2.out.mono hz3))⟩
            rw [fours_at HN.out, ← List.append_assoc]
            exact OwnB.mono H1.out (by omega)
          case measure => simp [intOf]; omega
        · obtain rfl : j = 6 := by omega
          have hXw := HXU.out.trans (HS3.out.mono HXU.out.size)
          have hWw := HWU.out.trans (HS3.out.mono HWU.out.size)
          have hib := (hXw.block bi hXs).trans HXb.out
          have c7 : wr.cell? ⟨bi, 7, none⟩ = some (.slice ao x.ops.length co) := cell_blk hib rfl
          have e4 : (pre ++ beN x.kind 1) ++ fours ((nums x).take 6) = (pre ++ beN x.kind 1) ++ fours (nums x) := rfl
          rw [e4] at HA3
          obtain ⟨p3, hp3⟩ : ∃ p3, (pre ++ beN x.kind 1) ++ fours (nums x) = p3 := ⟨_, rfl⟩
          have hl3 : p3.length = pre.length + 25 := by
            rw [← hp3, List.length_append, Hl1.out, fours_len]
            rfl
          rw [hp3] at HA3
          have hl3' : p3.length ≤ 4337700 := by omega
          have HP3 := Lib.hid hp3
          have HXw := Lib.hid hXw
          have HWw := Lib.hid hWw
          clear hp3 hib hXw hWw hl3 e4
          go_wp2_with (fail)
          refine (refByte_any v3 p3 _ wr HA3.out.by (by omega)).mono ?_
          rintro e Z4 ⟨v5, rfl, ho5, hb5⟩
          have hz4 := hb5.size
          have HX4 := Lib.hid (HXw.out.trans (hb5.mono HXw.out.size))
          have HW4 := Lib.hid (HWw.out.trans (hb5.mono HWw.out.size))
          obtain ⟨p4, hp4⟩ : ∃ p4, p3 ++ beN (x.ops.length : Int) 1 = p4 := ⟨_, rfl⟩
          have hl4 : p4.length ≤ 4337701 := by rw [← hp4, List.length_append, beN_len]; omega
          rw [hp4] at ho5
          have HO5 := Lib.hid (OwnB.mono ho5 (by have := HWw.out.size; omega) : OwnB w.heap.size v5 p4 Z4)
          have HP4b := Lib.hid hp4
          clear hp4 ho5 hb5 c7
          go_wp2_with (fail)
          go_loopw [3, 8] (fun bv i wr3 => ∃ (q : Nat) (v6 : Value), v6 = bv ∧ i = .int .i64 q ∧ q ≤ x.ops.length ∧ Hid (OwnB w.heap.size v6 (p4 ++ opsB (x.ops.take q)) wr3) ∧ Hid (Below X.heap.size X wr3)) (fun _ i _ => x.ops.length - (intOf i).toNat)
          case atStart =>
            refine ⟨0, v5, rfl, rfl, by omega, ?_, HX4⟩
            have e : p4 ++ opsB (x.ops.take 0) = p4 := List.append_nil _
            rw [e]
            exact HO5
          case round =>
            obtain ⟨q, v6, rfl, rfl, hq, HA6, HX6⟩ := hrel
            have hib := (HX6.out.block bi hXs).trans HXb.out
            have c7 : wr.cell? ⟨bi, 7, none⟩ = some (.slice ao x.ops.length co) := cell_blk hib rfl
            have hb6 := HWX.out.trans (HX6.out.mono hszX)
            clear hib
            by_cases hql : q < x.ops.length
            · have ho : ∃ o, x.ops[q]? = some o := ⟨_, List.getElem?_eq_getElem hql⟩
              obtain ⟨o, ho⟩ := ho
              obtain ⟨ao', co', hv', _, _, h0 | ⟨ob, oo, rfl, hob, hos⟩⟩ := HO.out
              · omega
              cases hv'
              obtain ⟨d0, d1, d2, d3⟩ := hos q o ho
              have f0 := (hb6.cell (p := ⟨ob, oo + q * 4, none⟩) hob).trans d0
              have f1 := (hb6.cell (p := ⟨ob, oo + q * 4 + 1, none⟩) hob).trans d1
              have f2 := (hb6.cell (p := ⟨ob, oo + q * 4 + 2, none⟩) hob).trans d2
              have f3 := (hb6.cell (p := ⟨ob, oo + q * 4 + 3, none⟩) hob).trans d3
              have hoOk : opOk o = true := by
                have := HP4.out
                rw [List.all_eq_true] at this
                exact this o (List.mem_of_getElem? ho)
              obtain ⟨hs1, hs2⟩ := opOk_sizes hoOk
              have hpo := opsB_le (k := q) HP4.out hp2
              obtain ⟨p6, hp6⟩ : ∃ p6, p4 ++ opsB (x.ops.take q) = p6 := ⟨_, rfl⟩
              have hl6 : p6.length ≤ 4339793 := by rw [← hp6, List.length_append]; omega
              rw [hp6] at HA6
              have HP6 := Lib.hid hp6
              have HOo := Lib.hid ho
              have hz6 := hb6.size
              have hzX := HX6.out.size
              have hX6 : Below wr.heap.size wr (wr.alloc (.cells (opCells o) 43)) := (Below.refl _ _).alloc (Nat.le_refl _) _
              have hV6b := heap_alloc_new wr (.cells (opCells o) 43)
              have hX6s : wr.heap.size < (wr.alloc (.cells (opCells o) 43)).heap.size := by simp
              have HBy6 := Lib.hid (HA6.out.by.below hX6)
              have HXV := Lib.hid (HX6.out.trans (hX6.mono hzX))
              have HV6b := Lib.hid hV6b
              clear hos d0 d1 d2 d3 ho hp6 hb6 hoOk hpo hX6 hV6b
              unfold opCells at HBy6 HXV HV6b hX6s
              go_wp2_with (fail)
              generalize wr.alloc (.cells #[.int .i64 o.kind, .string o.cas, .string o.name, .int .i64 o.n] 43) = V at *
              clear f0 f1 f2 f3 c7
              generalize wr.heap.size = bo at *
              have hby7 : ByAt V.drew v6 p6 := HBy6.out
              have HBy7 := Lib.hid hby7; clear hby7
              have g0 : V.cell? ⟨bo, 0, none⟩ = some (.int .i64 o.kind) := cell_blk HV6b.out rfl
              have g1 : V.cell? ⟨bo, 1, none⟩ = some (.string o.cas) := cell_blk HV6b.out rfl
              have g2 : V.cell? ⟨bo, 2, none⟩ = some (.string o.name) := cell_blk HV6b.out rfl
              have g3 : V.cell? ⟨bo, 3, none⟩ = some (.int .i64 o.n) := cell_blk HV6b.out rfl
              have hS0 : V.cell? ⟨bo, 0, none⟩ = some (.int .i64 o.kind) ∧ V.cell? ⟨bo, 1, none⟩ = some (.string o.cas) ∧ V.cell? ⟨bo, 2, none⟩ = some (.string o.name) ∧ V.cell? ⟨bo, 3, none⟩ = some (.int .i64 o.n) ∧ bo < V.heap.size ∧ Below V.heap.size V V := ⟨g0, g1, g2, g3, hX6s, Below.refl _ _⟩
              have hlb1 : (p6 ++ beN o.kind 1).length ≤ 4339794 := by rw [List.length_append, beN_len]; omega
              have hlb2 : (p6 ++ beN o.kind 1 ++ textB o.cas).length ≤ 4340060 := by rw [List.length_append, textB_len]; omega
              have hlb3 : (p6 ++ beN o.kind 1 ++ textB o.cas ++ textB o.name).length ≤ 4340400 := by rw [List.length_append, textB_len]; omega
              have HLB := Lib.hid (And.intro hlb1 (And.intro hlb2 hlb3))
              have HBd := Lib.hid (And.intro hl6 (And.intro hs1 hs2))
              clear g0 g1 g2 g3 hlb1 hlb2 hlb3
              go_region_held3 (fun w' => w'.cell? ⟨bo, 0, none⟩ = some (.int .i64 o.kind) ∧ w'.cell? ⟨bo, 1, none⟩ = some (.string o.cas) ∧ w'.cell? ⟨bo, 2, none⟩ = some (.string o.name) ∧ w'.cell? ⟨bo, 3, none⟩ = some (.int .i64 o.n) ∧ bo < w'.heap.size ∧ Below V.heap.size V w')
                (first | assumption | exact keptO hb4 (by assumption) rfl | exact keptO hb3 (by assumption) rfl | exact keptO hb2 (by assumption) rfl | exact keptO hb1 (by assumption) rfl | exact ⟨hS0.1, hS0.2.1, hS0.2.2.1, hS0.2.2.2.1, hS0.2.2.2.2.1, hS0.2.2.2.2.2.drew⟩ | fail)
                (first
                  | (go_at_call_of 18 o.kind; refine (refByte_any v6 p6 o.kind V.drew HBy7.out (Nat.le_trans HBd.out.1 (by decide))).mono ?_; rintro e w' ⟨u1, rfl, ho1, hb1⟩)
                  | (go_at_call_of 20 o.cas; refine (refText_any u1 (p6 ++ beN o.kind 1) o.cas _ (OwnB.by ho1) (Nat.le_trans HLB.out.1 (by decide)) (Nat.le_trans HBd.out.2.1 (by decide))).mono ?_; rintro e w' ⟨u2, rfl, ho2, hb2⟩)
                  | (go_at_call_of 20 o.name; refine (refText_any u2 (p6 ++ beN o.kind 1 ++ textB o.cas) o.name _ (OwnB.by ho2) (Nat.le_trans HLB.out.2.1 (by decide)) (Nat.le_trans HBd.out.2.2 (by decide))).mono ?_; rintro e w' ⟨u3, rfl, ho3, hb3⟩)
                  | (go_at_call_of 19 o.n; refine (refFour_any u3 (p6 ++ beN o.kind 1 ++ textB o.cas ++ textB o.name) o.n _ (OwnB.by ho3) (Nat.le_trans HLB.out.2.2 (by decide))).mono ?_; rintro e w' ⟨u4, rfl, ho4, hb4⟩))
              all_goals
                have hbV : Below V.heap.size V _ := below_O (by assumption)
                go_wp2_with (fail)
                go_roundw
                case rel =>
                  have hm := HXV.out.size
                  refine ⟨q + 1, u4, rfl, by simp, by omega, ?_, Lib.hid (HXV.out.trans (hbV.mono hm))⟩
                  have e : p4 ++ opsB (x.ops.take (q + 1)) = p6 ++ beN o.kind 1 ++ textB o.cas ++ textB o.name ++ beN o.n 4 := by
                    rw [opsB_at HOo.out, ← List.append_assoc, HP6.out]
                    unfold opB
                    simp only [List.append_assoc]
                  rw [e]
                  exact OwnB.mono ho4 (by have := hbV.size; have := hb1.size; have := hb2.size; have := hb3.size; have hd : V.drew.heap.size = V.heap.size := rfl; omega)
                case measure => simp [intOf]; omega
            · obtain rfl : q = x.ops.length := by omega
              rw [List.take_length] at HA6
              have e : itsB (l.take (k + 1)) = p4 ++ opsB x.ops := by
                rw [itsB_at HX.out, HPr.out, ← HP4b.out, ← HP3.out]
                unfold itB
                simp only [List.append_assoc]
              have HE := Lib.hid e; clear e
              have hb6' := Lib.hid hb6
              clear hb6
              go_wp2_with (fail)
              go_roundw
              case rel =>
                refine ⟨k + 1, v6, rfl, by simp, by omega, ?_, hb6'.out⟩
                rw [HE.out]
                exact HA6
              case measure => simp [intOf]; omega
    · obtain rfl : k = l.length := by omega
      rw [List.take_length] at HA
      have HB := Lib.hid hbw; clear hbw
      go_wp2_with (fail)
      go_ret
      exact ⟨_, rfl, HA.out, HB.out⟩
end Go.Proofs.YtfchpilaomkhgaaGreatDoor

