/- Chapter 12: the words from behind. -/
import Derived.Test.YtkmncmceheggjaaDoorGg
namespace Go.Proofs.YtkmncmceheggjaaDoor
open Go.RowKit Go.Shelf
set_option linter.unusedVariables false
set_option linter.unusedSimpArgs false
attribute [local go_sem] Oper.semAt_some

/-- the word of round k -/
def wdAt (l : List Wd) (k : Nat) : Wd := l.getD (l.length - 1 - k) (0, [])
/-- what comes in round k: a place, and the word there -/
def backE (l : List Wd) (k : Nat) : Array Value := #[.int .i64 ((l.length - 1 - k : Nat) : Int), .agg #[.string (S (wdAt l k).2), .int .i64 ((wdAt l k).1 : Int)]]

set_option maxHeartbeats 1000000 in
theorem back_in (n : Nat) (a : Option Addr) (len cap : Nat) (w : World) :
    CallsIn Fence.wide n Tryd.prog 21 #[.slice a len cap] w fun e w' => e = .returned (.func (.func 39) #[] #[.pointer (some ⟨w.heap.size, 0, none⟩)]) ∧ ∃ t, w' = w.alloc (.cells #[.slice a len cap] t) := by
  refine callsIn_of_wp Tryd.func21 rfl trivial ?_ rfl
  simp only [Tryd.ntmps21, List.size_toArray, List.length_cons, List.length_nil, Nat.reduceAdd, Nat.reduceSub, Array.replicate_succ, Array.replicate_zero, List.push_toArray, List.append_toArray, List.nil_append, List.cons_append]
  gi_wp2
  go_ret
  exact ⟨rfl, _, rfl⟩

set_option maxRecDepth 100000 in
set_option maxHeartbeats 2000000 in
theorem back1_in (n : Nat) (hn : 1 ≤ n) (ls Bs : Nat) (a : Option Addr) (cap b : Nat) (l : List Wd) (hl : l.length ≤ 1099511627776) (J : Nat → World → Prop)
    (hY : ∀ k W, J k W → k < l.length → YieldAt Fence.wide (n - 1) Tryd.prog ls (backE l k) W fun e W' => e = .returned (.bool true) ∧ J (k + 1) W' ∧ Kept [Bs, b] W W')
    (W : World) (hBs : W.cell? ⟨Bs, 0, none⟩ = some (.slice a l.length cap)) (hb : 0 < l.length → a = some ⟨b, 0, none⟩) (hW : WordsAt W b l) (h0 : J 0 W) :
    CallsIn Fence.wide n Tryd.prog 39 #[.func (.yield ls) #[] #[], .pointer (some ⟨Bs, 0, none⟩)] W fun e W' => (∃ v, e = .returned v) ∧ J l.length W' := by
  refine callsIn_of_wp Tryd.func39 rfl trivial ?_ rfl
  simp only [Tryd.ntmps39, List.size_toArray, List.length_cons, List.length_nil, Nat.reduceAdd, Nat.reduceSub, Array.replicate_succ, Array.replicate_zero, List.push_toArray, List.append_toArray, List.nil_append, List.cons_append]
  have hwl : IntKind.i64.wrap ((l.length : Int) - 1) = (l.length : Int) - 1 := by rw [IntKind.wrap_i64]; omega
  gi_wp2
  gi_loopw [3] (fun i wr => ∃ k m : Nat, k + m = l.length ∧ i = .int .i64 ((m : Int) - 1) ∧ J k wr ∧ Kept [Bs, b] W wr)
    (fun i _ => (intOf i + 1).toNat)
  case atStart => exact ⟨0, l.length, by omega, rfl, h0, Kept.refl _ _⟩
  case round =>
    obtain ⟨k, m, hkm, rfl, hJ, hnx⟩ := hrel
    have hBs' := (hnx.cell (p := ⟨Bs, 0, none⟩) (by simp)).trans hBs
    cases m with
    | zero =>
      obtain rfl : k = l.length := by omega
      gi_wp2
      go_end0
      exact ⟨⟨_, rfl⟩, hJ⟩
    | succ m =>
      obtain rfl := hb (by omega)
      obtain ⟨hc0, hc1⟩ := hW m (by omega)
      have hc0' := (hnx.cell (p := ⟨b, m * 2, none⟩) (by simp)).trans hc0
      have hc1' := (hnx.cell (p := ⟨b, m * 2 + 1, none⟩) (by simp)).trans hc1
      obtain ⟨fn, tmps, assign, body, hy, hR⟩ := hY k wr hJ (by omega)
      simp only [backE, wdAt, show l.length - 1 - k = m by omega] at hy
      rw [show ((m + 1 : Nat) : Int) - 1 = (m : Int) by omega]
      have hwm : IntKind.i64.wrap ((m : Int) - 1) = (m : Int) - 1 := by rw [IntKind.wrap_i64]; omega
      have hml : m < l.length := by omega
      clear hc0 hc1
      obtain ⟨x, hx⟩ : ∃ x, x = l.getD m (0, []) := ⟨_, rfl⟩
      rw [← hx] at hc0' hc1' hy
      clear hx
      gi_wp2
      refine hR.mono ?_
      rintro e W3 ⟨rfl, hJ3, hk3⟩
      gi_wp2
      go_roundw
      case rel => exact ⟨k + 1, m, by omega, rfl, hJ3, hnx.trans hk3⟩
      case measure => simp [intOf]

theorem back_seq (n : Nat) (hn : 1 ≤ n) (Bs : Nat) (a : Option Addr) (cap b : Nat) (l : List Wd) (hl : l.length ≤ 1099511627776) (w : World)
    (hBs : w.cell? ⟨Bs, 0, none⟩ = some (.slice a l.length cap)) (h1 : Bs < w.heap.size) (hb : 0 < l.length → a = some ⟨b, 0, none⟩ ∧ b < w.heap.size) (hW : WordsAt w b l) :
    SeqN Fence.wide n Tryd.prog 39 #[.pointer (some ⟨Bs, 0, none⟩)] (backE l) (Kept [Bs, b]) l.length w := fun ls J W hbw hY h0 => by
  refine back1_in n hn ls Bs a cap b l hl J hY W ((hbw.cell (p := ⟨Bs, 0, none⟩) h1).trans hBs) (fun h => (hb h).1) (fun j hj => ?_) h0
  have h2 : b < w.heap.size := (hb (by omega)).2
  exact ⟨(hbw.cell (p := ⟨b, _, none⟩) h2).trans (hW j hj).1, (hbw.cell (p := ⟨b, _, none⟩) h2).trans (hW j hj).2⟩

end Go.Proofs.YtkmncmceheggjaaDoor
