/- The iterator that slices.Backward gives, over words: what it hands on, round by round. -/
import Derived.Test.YtcpmgjnlnaigbaaGreatDoorEvV
import Derived.Test.YtcpmgjnlnaigbaaGreatDoorProg
import Derived.WalkKit
import Derived.OwnWalkIn
import Derived.TacticsInMore
import Derived.LoopNIn
import Derived.LoopIn
import Derived.RowKit
import Derived.Shelf.Abstract
set_option linter.unusedVariables false
set_option linter.unusedSimpArgs false
namespace Go.Proofs.YtcpmgjnlnaigbaaGreatDoor
open Go.RowKit Go.Ev Go.Shelf
attribute [local go_sem] Oper.semAt_some

def bkE (cs : List Value) (i : Nat) : Value := .agg #[cs.getD (i * 2) undef, cs.getD (i * 2 + 1) undef]
theorem bkE_eq {cs : List Value} {i : Nat} (h : i * 2 + 1 < cs.length) : elemV (some 2) 2 cs i = bkE cs i := by
  unfold elemV bkE
  have e : (cs.drop (i * 2)).take 2 = [cs.getD (i * 2) undef, cs.getD (i * 2 + 1) undef] := by
    have hd : cs.drop (i * 2) = cs[i * 2] :: cs[i * 2 + 1] :: cs.drop (i * 2 + 1 + 1) := by
      rw [List.drop_eq_getElem_cons (show i * 2 < cs.length by omega), List.drop_eq_getElem_cons (show i * 2 + 1 < cs.length by omega)]
    have h1 : cs.getD (i * 2) undef = cs[i * 2] := by simp [List.getD_eq_getElem?_getD, List.getElem?_eq_getElem (show i * 2 < cs.length by omega)]
    have h2 : cs.getD (i * 2 + 1) undef = cs[i * 2 + 1] := by simp [List.getD_eq_getElem?_getD, List.getElem?_eq_getElem h]
    rw [hd, h1, h2]
    rfl
  simp only [e]

set_option maxRecDepth 100000 in
set_option maxHeartbeats 2000000 in
theorem bk_in (n : Nat) (hn : 1 ≤ n) (ls Bs : Nat) (a : Option Addr) (cap b o len : Nat) (cs : List Value) (hl : len ≤ 1099511627776) (hcl : cs.length = len * 2) (J : Nat → World → Prop)
    (hY : ∀ k W, J k W → k < len → YieldAt Fence.wide (n - 1) Tryz.prog ls #[.int .i64 ((len - 1 - k : Nat) : Int), bkE cs (len - 1 - k)] W fun e W' => e = .returned (.bool true) ∧ J (k + 1) W' ∧ Kept [Bs, b] W W')
    (W : World) (hBs : W.cell? ⟨Bs, 0, none⟩ = some (.slice a len cap)) (hb : 0 < len → a = some ⟨b, o, none⟩) (hW : ∀ i, i < len * 2 → W.cell? ⟨b, o + i, none⟩ = cs[i]?) (h0 : J 0 W) :
    CallsIn Fence.wide n Tryz.prog 365 #[.func (.yield ls) #[] #[], .pointer (some ⟨Bs, 0, none⟩)] W fun e W' => (∃ v, e = .returned v) ∧ J len W' := by
  refine callsIn_of_wp Tryz.func365 rfl trivial ?_ rfl
  simp only [Tryz.ntmps365, List.size_toArray, List.length_cons, List.length_nil, Nat.reduceAdd, Nat.reduceSub, Array.replicate_succ, Array.replicate_zero, List.push_toArray, List.append_toArray, List.nil_append, List.cons_append]
  have hwl : IntKind.i64.wrap ((len : Int) - 1) = (len : Int) - 1 := by rw [IntKind.wrap_i64]; omega
  gi_wp2
  gi_loopw [3] (fun i wr => ∃ k m : Nat, k + m = len ∧ i = .int .i64 ((m : Int) - 1) ∧ J k wr ∧ Kept [Bs, b] W wr)
    (fun i _ => (intOf i + 1).toNat)
  case atStart => exact ⟨0, len, by omega, rfl, h0, Kept.refl _ _⟩
  case round =>
    obtain ⟨k, m, hkm, rfl, hJ, hnx⟩ := hrel
    have hBs' := (hnx.cell (p := ⟨Bs, 0, none⟩) (by simp)).trans hBs
    cases m with
    | zero =>
      obtain rfl : k = len := by omega
      gi_wp2
      go_end0
      exact ⟨⟨_, rfl⟩, hJ⟩
    | succ m =>
      obtain rfl := hb (by omega)
      have hc0 := hW (m * 2) (by omega)
      have hc1 := hW (m * 2 + 1) (by omega)
      have hc0' := (hnx.cell (p := ⟨b, o + m * 2, none⟩) (by simp)).trans hc0
      have hc1' := (hnx.cell (p := ⟨b, o + (m * 2 + 1), none⟩) (by simp)).trans hc1
      obtain ⟨fn, tmps, assign, body, hy, hR⟩ := hY k wr hJ (by omega)
      simp only [bkE, show len - 1 - k = m by omega, List.getD_eq_getElem?_getD] at hy
      rw [show ((m + 1 : Nat) : Int) - 1 = (m : Int) by omega]
      have hwm : IntKind.i64.wrap ((m : Int) - 1) = (m : Int) - 1 := by rw [IntKind.wrap_i64]; omega
      have hml : m < len := by omega
      clear hc0 hc1
      obtain ⟨x, hx⟩ : ∃ x, x = cs[m * 2]?.getD undef := ⟨_, rfl⟩
      obtain ⟨y, hy2⟩ : ∃ y, y = cs[m * 2 + 1]?.getD undef := ⟨_, rfl⟩
      have hx1 : cs[m * 2]? = some x := by rw [hx, List.getElem?_eq_getElem (by omega)]; rfl
      have hy1 : cs[m * 2 + 1]? = some y := by rw [hy2, List.getElem?_eq_getElem (by omega)]; rfl
      rw [hx1] at hc0' hy
      rw [hy1] at hc1' hy
      simp only [Option.getD_some] at hy
      rw [← Nat.add_assoc] at hc1'
      clear hx hy2 hx1 hy1
      gi_wp2
      refine hR.mono ?_
      rintro e W3 ⟨rfl, hJ3, hk3⟩
      gi_wp2
      go_roundw
      case rel => exact ⟨k + 1, m, by omega, rfl, hJ3, hnx.trans hk3⟩
      case measure => simp [intOf]

theorem bk_ok : BackOk Tryz.prog 365 2 (some 2) := by
  refine ⟨enters_of Tryz.func365 (by kernel_rfl) rfl, fun w Bs b o len cap aa cs h1 h2 h3 h4 h5 h6 h7 ls J W hbw hY h0 => ?_⟩
  refine bk_in 1 (by omega) ls Bs aa cap b o len cs h5 h6 J (fun k W1 hJ hk => ?_) W ((hbw.cell (p := ⟨Bs, 0, none⟩) h2).trans h1) h4 (fun i hi => (hbw.cell (p := ⟨b, _, none⟩) h3).trans (h7 i hi)) h0
  have := hY k W1 hJ hk
  simp only [bkE_eq (show (len - 1 - k) * 2 + 1 < cs.length by omega)] at this
  exact this

end Go.Proofs.YtcpmgjnlnaigbaaGreatDoor
