/- locks.Busy: does somebody else hold one of the wants? A walk: two loops, the inner one over a map. -/
import Derived.Test.YtgjaicainmmdbaaGreatDoorEvBu
import Derived.Test.YtgjaicainmmdbaaGreatDoorProg
import Derived.WalkKit
import Derived.WalkSpells
import Derived.WalkLawsBesides
import Derived.Deep.QuietTactic
import Derived.BigQuiet
import Derived.Maps.Ext
import Derived.Maps.RangeWalk
import Derived.Laws.IdiomRangeMap
import Derived.KernelRfl
import Derived.StillTailTactics
import Derived.Lib.SlMapMerge
set_option linter.unusedVariables false
set_option linter.unusedSimpArgs false
namespace Go.Proofs.YtgjaicainmmdbaaGreatDoor
open Go.RowKit Go.Maps Go.Ev

noncomputable abbrev RB : Value → Option (DataW Value × List MemPlace) := plainElem Tryz.prog 3
theorem grown_drew {W W' : World} (h : W.grownBy W' none) : W.grownBy W'.drew none := ⟨h.os, h.tape, h.output, h.size, h.block⟩
set_option maxHeartbeats 4000000 in
set_option maxRecDepth 100000 in
theorem busy_walk (bt bl o : Nat) (bm : Nat) (tx : ByteArray) (W : List (ByteArray × Bool)) (cap : Nat) (w : World)
    (ht : w.cell? ⟨bt, 0, none⟩ = some (.map (some bm))) (hW : ∀ i p, W[i]? = some p → w.cell? ⟨bl, o + i * 2, none⟩ = some (.string p.1) ∧ w.cell? ⟨bl, o + (i * 2 + 1), none⟩ = some (.bool p.2)) (hlen : W.length ≤ 1048576)
    (M : ByteArray → Option Nat) (hL : ∀ (i : Nat) (p : ByteArray × Bool), W[i]? = some p → ∀ w', w.grownBy w' none → (Instr.lookup 153 (.map (some bm)) (.string p.1) false).run Tryz.prog w' = .ok (.map (M p.1)) w')
    (D : ByteArray → DataW Value) (N : ByteArray → Nat) (hD : ∀ (i : Nat) (p : ByteArray × Bool), W[i]? = some p → (M p.1 = none ∧ D p.1 = .map []) ∨ ∃ bi, M p.1 = some bi ∧ w.ownsMap Tryz.prog 9 RB bi (N p.1) (D p.1)) :
    Calls Tryz.prog 98 #[.pointer (some ⟨bt, 0, none⟩), .string tx, .slice (some ⟨bl, o, none⟩) W.length cap] w fun e w' => e = .returned (.bool (W.any fun p => hitD tx p.2 (D p.1))) ∧ w.grownBy w' none := by
  have hbt : bt < w.heap.size := by
    rcases Nat.lt_or_ge bt w.heap.size with h | h
    · exact h
    · exfalso
      have : w.heap[bt]? = none := Array.getElem?_eq_none h
      simp [World.cell?, this] at ht
  go_enter Tryz.func98, Tryz.ntmps98
  go_wp2_with (fail)
  go_loopw [13] (fun i wr => ∃ k : Nat, i = .int .i64 k ∧ k ≤ W.length ∧ (∀ j p, j < k → W[j]? = some p → hitD tx p.2 (D p.1) = false) ∧ w.grownBy wr none)
    (fun i _ => (W.length - (intOf i).toNat))
  case atStart => exact ⟨0, rfl, by omega, fun j p h => by omega, World.grownBy.refl _ _⟩
  case round =>
    obtain ⟨k, rfl, hk, hno, hg⟩ := hrel
    by_cases hlt : k < W.length
    · have hp : ∃ p, W[k]? = some p := ⟨_, List.getElem?_eq_getElem hlt⟩
      obtain ⟨p, hp⟩ := hp
      obtain ⟨hc0, hc1⟩ := hW k p hp
      have ht' := (World.cell?_of_block (hg.block bt hbt (by simp))).trans ht
      have hbl : bl < w.heap.size := by
        rcases Nat.lt_or_ge bl w.heap.size with h | h
        · exact h
        · exfalso
          have : w.heap[bl]? = none := Array.getElem?_eq_none h
          simp [World.cell?, this] at hc0
      have hc0' := (World.cell?_of_block (a := ⟨bl, o + k * 2, none⟩) (hg.block bl hbl (by simp))).trans hc0
      have hc1' := (World.cell?_of_block (a := ⟨bl, o + k * 2 + 1, none⟩) (hg.block bl hbl (by simp))).trans hc1
      clear ht hc0 hc1
      go_wp2_with (fail)
      have hszg : w.heap.size ≤ wr.heap.size := hg.size
      have hg2 : w.grownBy (wr.alloc (.cells #[.string p.1, .bool p.2] 168)) none := hg.andThen (World.grownBy_alloc wr _ none) (fun j hj => by cases hj)
      have ht2 : (wr.alloc (.cells #[.string p.1, .bool p.2] 168)).cell? ⟨bt, 0, none⟩ = some (.map (some bm)) := (World.cell?_of_block (hg2.block bt hbt (by simp))).trans ((World.cell?_of_block (hg.block bt hbt (by simp))).symm.trans ht')
      have hl2 := hL k p hp _ hg2
      have hb2 : (wr.alloc (.cells #[.string p.1, .bool p.2] 168)).cell? ⟨wr.heap.size, 0, none⟩ = some (.string p.1) := by simp
      have hb4 : (wr.alloc (.cells #[.string p.1, .bool p.2] 168)).cell? ⟨wr.heap.size, 1, none⟩ = some (.bool p.2) := by simp
      have hszX : wr.heap.size < (wr.alloc (.cells #[.string p.1, .bool p.2] 168)).heap.size := by simp
      generalize wr.alloc (.cells #[.string p.1, .bool p.2] 168) = X at *
      generalize wr.heap.size = box at *
      have ht3 : World.cell? ({ heap := X.heap, tape := X.tape, drawn := X.drawn + 1, os := X.os, output := X.output } : World) ⟨bt, 0, none⟩ = some (.map (some bm)) := ht2
      have hb3 : World.cell? ({ heap := X.heap, tape := X.tape, drawn := X.drawn + 1, os := X.os, output := X.output } : World) ⟨box, 0, none⟩ = some (.string p.1) := hb2
      have hl3 : (Instr.lookup 153 (.map (some bm)) (.string p.1) false).run Tryz.prog X.drew = .ok (.map (M p.1)) X.drew := hL k p hp _ ⟨hg2.os, hg2.tape, hg2.output, hg2.size, hg2.block⟩
      go_still_tail 7, (by kernel_rfl)
      have hno1 : hitD tx p.2 (D p.1) = false → ∀ j q, j < k + 1 → W[j]? = some q → hitD tx q.2 (D q.1) = false := fun h j q hj hq => by
        rcases Nat.lt_or_ge j k with h1 | h1
        · exact hno j q h1 hq
        · have : j = k := by omega
          subst this
          rw [hp] at hq
          cases hq
          exact h
      cases hm : M p.1 with
      | none =>
        have hnil : hitD tx p.2 (D p.1) = false := by
          rcases hD k p hp with ⟨_, h⟩ | ⟨bi, h, _⟩
          · rw [h]; rfl
          · rw [hm] at h; cases h
        have hrg := run_range_nilMap (P := Tryz.prog) X.drew 94 _ _ Tryz.underlying94
        have hnx : ∀ ty, (Instr.next (.pointer (some ⟨X.heap.size, 0, none⟩)) false ty).run Tryz.prog (X.alloc (.mapIter none 0 #[] 0)).drew = .ok (.tuple #[.bool false]) (X.alloc (.mapIter none 0 #[] 0)).drew := fun ty => run_next_nilMap X.drew ty 0 0 #[]
        go_wp2_with (fail)
        refine wp_loop_rounds 1 ?_
        rw [rounds_succ]
        go_wp2_with (fail)
        go_roundw
        case rel => exact ⟨k + 1, by simp, by omega, hno1 hnil, hg2.andThen (grown_drew (World.grownBy_alloc X _ none)) (fun j hj => by cases hj)⟩
        case measure => simp [intOf]; omega
      | some bi =>
        have hown : w.ownsMap Tryz.prog 9 RB bi (N p.1) (D p.1) := by
          rcases hD k p hp with ⟨h, _⟩ | ⟨bi', h, ho⟩
          · rw [hm] at h; cases h
          · rw [hm] at h; cases h; exact ho
        have hoX : X.drew.ownsMap Tryz.prog 9 RB bi (N p.1) (D p.1) := (hown.kept hg2 (by simp)).drew
        have KK : Keyed Tryz.prog 9 := string_keyed Tryz.underlying9
        have hbi := hown.lt
        go_wp2_with (first
          | (at_range; refine wpList_range_own _ rfl _ 94 rfl 9 3 KK Tryz.underlying94 RB bi (N p.1) _ rfl hoX ?_; intro w0 hrg0 hg0 hs0)
          | go_in)
        go_loopw [25] (fun _ wr2 => ∃ (left : Lit → Bool) (cnt : Nat), wr2.ranges Tryz.prog 9 RB bi X.heap.size (N p.1) (D p.1) left cnt ∧ cnt ≤ Maps.size (D p.1) ∧
            (∀ kl zd, left kl = false → has (D p.1) kl = true → hitE tx p.2 (kl, (D p.1).atKey kl zd) = false) ∧ X.grownBy wr2 none)
          (fun _ wr2 => wr2.rangeLeft bi X.heap.size)
        case atStart =>
          exact ⟨_, _, hrg0, Nat.le_refl _, (fun kl zd h1 h2 => by rw [h2] at h1; cases h1), ⟨hg0.os, hg0.tape, hg0.output, hg0.size, hg0.block⟩⟩
        case round =>
          obtain ⟨left, cnt, hrg, hcs, hno2, hgX⟩ := hrel
          go_wp2_with (first
            | (at_next; refine wpList_next_ranges _ rfl _ rfl 9 KK RB id id (fun key _ _ => ⟨key, rfl⟩) (fun v _ _ => ⟨v, rfl⟩) bi X.heap.size (N p.1) _ _ _ rfl hrg ?_ ?_)
            | go_in)
          · intro hc0 hl0
            have hfin : hitD tx p.2 (D p.1) = false := by
              obtain ⟨es, he, hr, hks⟩ := hown.canonK KK
              rw [he]
              show es.any (hitE tx p.2) = false
              rw [List.any_eq_false]
              intro q hq
              have hkq := KK.one.key (hks q hq)
              have ha : (DataW.map es).atKey q.1 .nil = q.2 := WideAt.atKey_mem .nil hkq (apart_of_rising hr) hq
              have hh : has (.map es) q.1 = true := List.any_eq_true.2 ⟨q, hq, WideAt.sameKey_self hkq⟩
              have := hno2 q.1 .nil (hl0 q.1) (by rw [he]; exact hh)
              rw [he, ha] at this
              simpa using this
            go_wp2_with (fail)
            go_roundw
            case rel => exact ⟨k + 1, by simp, by omega, hno1 hfin, hg2.andThen hgX (fun j hj => by cases hj)⟩
            case measure => simp [intOf]; omega
          · intro x c kl yd yp w1 cnt1 hkey hlx hv hat hrg1 hlt2 hg1 hs1 hen
            obtain ⟨s, rfl⟩ : ∃ s, x = .string s := by
              simp only [keyOf, Tryz.underlying9] at hkey
              cases x <;> simp [mapKey, Tryz.underlying9] at hkey
              exact ⟨_, rfl⟩
            obtain ⟨n, rfl, hyd⟩ : ∃ n, c = .int .i64 n ∧ yd = .lit (.int .i64 n) := by
              simp only [RB, plainElem, Tryz.underlying3] at hv
              cases c <;> simp at hv
              rename_i q m
              obtain ⟨⟨h1, _⟩, h2, _⟩ := hv
              subst h1
              exact ⟨m, rfl, h2.symm⟩
            have hX1 : X.grownBy w1 none := hgX.andThen hg1 (fun j hj => .inl (by cases hj; exact Nat.le_refl _))
            have hb5 : w1.cell? ⟨box, 1, none⟩ = some (.bool p.2) := (World.cell?_of_block (hX1.block box hszX (by simp))).trans hb4
            have hkl : kl = .string s.data.toList := by
              have hk9 := hkey
              simp [keyOf, mapKey, Tryz.underlying9] at hk9
              first | exact hk9.2.symm | exact hk9.symm | exact hk9.1.symm
            have hrel' : hitE tx p.2 (kl, yd) = false → ∀ kl' zd, (left kl' && !kl'.sameKey kl) = false → has (D p.1) kl' = true → hitE tx p.2 (kl', (D p.1).atKey kl' zd) = false := fun hh kl' zd h1 h2 => by
              cases hl : left kl' with
              | false => exact hno2 kl' zd hl h2
              | true =>
                rw [hl] at h1
                have h3 : kl'.sameKey kl = true := by simpa using h1
                have := WideAt.sameKey_eq h3
                subst this
                rw [hat zd]
                exact hh
            by_cases hst : s = tx
            · have hh : hitE tx p.2 (kl, yd) = false := by rw [hkl, hst]; simp [hitE, Lit.sameKey]
              have hrel2 := hrel' hh
              clear hrel'
              subst hst
              go_wp2_with (fail)
              exact ⟨⟨_, cnt1, hrg1, by omega, hrel2, hX1⟩, by rw [hrg1.left_eq, hrg.left_eq]; exact hlt2⟩
            · have hne : (s.toList == tx.toList) = false := by
                rw [Bool.eq_false_iff]
                intro h
                rw [beq_iff_eq, ByteArray.toList_eq, ByteArray.toList_eq] at h
                exact hst (by cases s; cases tx; congr; exact Array.toList_inj.1 h)
              have hgw : w.grownBy w1 none := hg2.andThen hX1 (fun j hj => by cases hj)
              have hany : hitE tx p.2 (kl, yd) = true → (W.any fun p => hitD tx p.2 (D p.1)) = true := fun h => by
                obtain ⟨es, he, hr, hks⟩ := hown.canonK KK
                have hh := has_true_of_atKey hat
                rw [he] at hh
                obtain ⟨q, hq, hs⟩ := List.any_eq_true.1 hh
                have e1 : q.1 = kl := WideAt.sameKey_eq hs
                have ha : (DataW.map es).atKey q.1 .nil = q.2 := WideAt.atKey_mem .nil (KK.one.key (hks q hq)) (apart_of_rising hr) hq
                have e2 : q.2 = yd := by rw [← ha, e1, ← he]; exact hat .nil
                refine List.any_eq_true.2 ⟨p, List.mem_of_getElem? hp, ?_⟩
                show hitD tx p.2 (D p.1) = true
                rw [he]
                exact List.any_eq_true.2 ⟨q, hq, by rw [show q = (kl, yd) from by rw [← e1, ← e2]]; exact h⟩
              have hke : Lit.sameKey kl (.string tx.data.toList) = false := by
                rw [hkl]
                rw [ByteArray.toList_eq, ByteArray.toList_eq] at hne
                exact hne
              cases hp2 : p.2 with
              | true =>
                have ha := hany (by simp [hitE, hke, hp2])
                go_wp2_with (fail)
                go_ret
                exact ⟨by rw [ha]; rfl, hgw⟩
              | false =>
                by_cases hn2 : n = 2
                · have ha := hany (by simp [hitE, hke, hyd, hn2])
                  go_wp2_with (fail)
                  go_ret
                  exact ⟨by rw [ha]; rfl, hgw⟩
                · have hh : hitE tx p.2 (kl, yd) = false := by simp [hitE, hyd, hp2, hn2]
                  have hrel2 := hrel' hh
                  clear hrel' hany
                  go_wp2_with (fail)
                  refine ⟨?_, by rw [hrg1.left_eq, hrg.left_eq]; exact hlt2⟩
                  exact ⟨_, _, _, _, _, _, _, _, _, _, _, _, _, _, _, _, _, _, _, ⟨_, cnt1, hrg1, by omega, hrel2, hX1⟩, by rw [hp2]⟩
    · have hkl : k = W.length := by omega
      have hall : (W.any fun p => hitD tx p.2 (D p.1)) = false := by
        rw [List.any_eq_false]
        intro q hq
        obtain ⟨j, hj, rfl⟩ := List.getElem_of_mem hq
        rw [hno j _ (by omega) (List.getElem?_eq_getElem hj)]
        simp
      go_wp2_with (fail)
      go_ret
      exact ⟨by rw [hall]; rfl, hg⟩
set_option maxHeartbeats 4000000 in
theorem busy_nil (bt : Nat) (tx : ByteArray) (w : World) : Calls Tryz.prog 98 #[.pointer (some ⟨bt, 0, none⟩), .string tx, .slice none 0 0] w fun e w' => e = .returned (.bool false) ∧ w.grownBy w' none := by
  go_enter Tryz.func98, Tryz.ntmps98
  go_wp2
  refine wp_loop_rounds 1 ?_
  rw [rounds_succ]
  go_wp2
  go_ret
  exact ⟨rfl, World.grownBy.refl _ _⟩
theorem busyOk : BusyOk Tryz.prog 98 :=
  ⟨⟨_, _, Tryz.func98, by kernel_rfl, rfl⟩, busy_nil, 153, _, _, 9, 3, Tryz.underlying153, Tryz.underlying9, by kernel_rfl, Tryz.underlying9, Tryz.underlying3, busy_walk⟩
#print axioms busyOk
end Go.Proofs.YtgjaicainmmdbaaGreatDoor
