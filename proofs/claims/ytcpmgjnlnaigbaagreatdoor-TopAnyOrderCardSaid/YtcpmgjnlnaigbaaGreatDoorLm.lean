/- The log: its map, its functions; what two logs tell, plain. -/
import Derived.Test.YtcpmgjnlnaigbaaGreatDoorIz
import Derived.Maps.OwnSet
import Derived.Maps.Views
import Derived.WalkKit
import Derived.WalkSpells
import Derived.WalkLawsBesides
import Derived.WalkMore
import Derived.OwnWalk
import Derived.Below
import Derived.Lib.Hide
import Derived.BigQuiet
import Derived.Deep.QuietTactic
import Derived.Shelf.Lay
import Derived.Shelf.SlMaps.DeleteFunc
import Derived.Deep.AppendLies
import Derived.Deep.RegionHeld3
import Derived.Laws.AppendOwn
import Derived.Deep.CutBlock
import Derived.Deep.DeepCutAuto
import Derived.Deep.LoopGhost
import Derived.Deep.RegionLaw
set_option linter.unusedVariables false
set_option linter.unusedSimpArgs false
namespace Go.Proofs.YtcpmgjnlnaigbaaGreatDoor
open Go.RowKit Go.Maps Go.Shelf

def tM : TypeId := 35
theorem keyI : Keyed Tryz.prog 3 := int_keyed Tryz.underlying3
theorem zeroS (w : World) : (zeroValue 9).run Tryz.prog w = .ok (.string ⟨#[]⟩) w := by
  go_simp
theorem plainS_inv {v : Value} {z : DataW Unit × List MemPlace} (h : plainElem Tryz.prog 9 v = some z) : ∃ s : ByteArray, v = .string s ∧ z = (.lit (.string s.data.toList), []) ∧ s.size ≤ maxLen := by
  unfold plainElem at h
  have := Tryz.underlying9
  cases v <;> simp_all [plainElem]
def kL (k : Int) : Lit := .int .i64 k
/-- a map that tells these texts -/
def LogM (w : World) (b n : Nat) (M : Int → Option ByteArray) : Prop :=
  ∃ D : DataW Unit, w.ownsMap Tryz.prog 3 (plainElem Tryz.prog 9) b n D ∧ IsMap D ∧ ∀ k : Int, has D (kL k) = (M k).isSome ∧ ∀ s, M k = some s → D.atKey (kL k) (.lit (.string [])) = .lit (.string s.data.toList)

theorem kL_wf {k : Int} (h : -9223372036854775808 ≤ k ∧ k ≤ 9223372036854775807) : (Lit.int .i64 k).wf = true := by
  simp only [Lit.wf, Bool.and_eq_true, decide_eq_true_eq]
  exact ⟨h.1, h.2⟩
theorem kL_ne {k j : Int} (h : k ≠ j) : kL k ≠ kL j := fun e => h (by unfold kL at e; cases e; rfl)
theorem logM_new (w : World) : LogM (w.alloc (.map #[] 0)) w.heap.size 0 (fun _ => none) :=
  ⟨.map [], World.ownsMap_made w _ _ _, isMap_empty, fun k => ⟨rfl, fun s h => by cases h⟩⟩
theorem LogM.kept {w w' : World} {b n : Nat} {M : Int → Option ByteArray} {row : Option Nat} (h : LogM w b n M) (hg : w.grownBy w' row) (hne : some b ≠ row) : LogM w' b n M := by
  obtain ⟨D, h1, h2, h3⟩ := h
  exact ⟨D, h1.kept hg hne, h2, h3⟩
theorem LogM.lt {w : World} {b n : Nat} {M : Int → Option ByteArray} (h : LogM w b n M) : b < w.heap.size := by obtain ⟨D, h1, _⟩ := h; exact h1.lt
theorem str_of {s : ByteArray} {l : List UInt8} (h : s.data.toList = l) : s = ⟨l.toArray⟩ := by cases s; subst h; rfl
theorem LogM.val {w : World} {b n : Nat} {M : Int → Option ByteArray} {D : DataW Unit} (h3 : ∀ k : Int, has D (kL k) = (M k).isSome ∧ ∀ s, M k = some s → D.atKey (kL k) (.lit (.string [])) = .lit (.string s.data.toList)) (k : Int) {v : Value} {ps : List MemPlace} (hv : plainElem Tryz.prog 9 v = some (D.atKey (kL k) (.lit (.string [])), ps)) : v = .string ((M k).getD ⟨#[]⟩) := by
  obtain ⟨s, rfl, hz, _⟩ := plainS_inv hv
  have hat := congrArg Prod.fst hz
  simp only at hat
  cases hM : M k with
  | none =>
    have hh : has D (kL k) = false := by rw [(h3 k).1, hM]; rfl
    rw [atKey_of_not_has hh] at hat
    have e : s.data.toList = [] := (Lit.string.inj (DataW.lit.inj hat)).symm
    rw [str_of e]; rfl
  | some s' =>
    rw [(h3 k).2 s' hM] at hat
    have e : s'.data.toList = s.data.toList := Lit.string.inj (DataW.lit.inj hat)
    have : s' = s := by rw [str_of e, ← str_of (s := s) rfl]
    rw [this]; rfl
theorem LogM.look {w : World} {b n : Nat} {M : Int → Option ByteArray} (h : LogM w b n M) {k : Int} (hk : -9223372036854775808 ≤ k ∧ k ≤ 9223372036854775807) :
    (Instr.lookup 35 (.map (some b)) (.int .i64 k) false).run Tryz.prog w = .ok (.string ((M k).getD ⟨#[]⟩)) w := by
  obtain ⟨D, h1, h2, h3⟩ := h
  obtain ⟨v, ps, hrun, hv⟩ := h1.lookup keyI Tryz.underlying35 (zeroS w) (plainElem_string Tryz.underlying9 (s := ⟨#[]⟩) (Nat.zero_le _)) (keyOf_int_mk Tryz.underlying3 (kL_wf hk))
  rw [hrun]
  have := LogM.val (w := w) (b := b) (n := n) h3 k hv
  rw [this]
theorem LogM.look_ok {w : World} {b n : Nat} {M : Int → Option ByteArray} (h : LogM w b n M) {k : Int} (hk : -9223372036854775808 ≤ k ∧ k ≤ 9223372036854775807) :
    (Instr.lookup 35 (.map (some b)) (.int .i64 k) true).run Tryz.prog w = .ok (.tuple #[.string ((M k).getD ⟨#[]⟩), .bool (M k).isSome]) w := by
  obtain ⟨D, h1, h2, h3⟩ := h
  obtain ⟨v, ps, hrun, hv⟩ := h1.look_ok keyI Tryz.underlying35 (zeroS w) (plainElem_string Tryz.underlying9 (s := ⟨#[]⟩) (Nat.zero_le _)) (keyOf_int_mk Tryz.underlying3 (kL_wf hk))
  rw [hrun]
  have := LogM.val (w := w) (b := b) (n := n) h3 k hv
  rw [this]
  have e : has D (Lit.int .i64 k) = (M k).isSome := (h3 k).1
  rw [e]
def setM (M : Int → Option ByteArray) (k : Int) (v : ByteArray) : Int → Option ByteArray := fun j => if j = k then some v else M j
theorem LogM.update {w : World} {b n : Nat} {M : Int → Option ByteArray} (h : LogM w b n M) {k : Int} (hk : -9223372036854775808 ≤ k ∧ k ≤ 9223372036854775807) {v : ByteArray} (hv : v.size ≤ maxLen) (hn : n < maxLen) :
    ∃ w', (Instr.mapUpdate 35 (.map (some b)) (.int .i64 k) (.string v)).run Tryz.prog w = .ok () w' ∧ LogM w' b (n + 1) (setM M k v) ∧ w.grownBy w' (some b) := by
  obtain ⟨D, h1, h2, h3⟩ := h
  obtain ⟨w', hrun, h4, h5⟩ := h1.update keyI Tryz.underlying35 hn (keyOf_int_mk Tryz.underlying3 (kL_wf hk)) (plainElem_string Tryz.underlying9 hv)
  refine ⟨w', hrun, ⟨_, h4, h2.put _ _, fun j => ?_⟩, h5⟩
  have hkl : WideAt.IsKeyLit (kL k) := keyI.key (keyOf_int_mk Tryz.underlying3 (kL_wf hk))
  unfold setM
  by_cases hj : j = k
  · subst hj
    rw [if_pos rfl]
    refine ⟨has_put_same h2 hkl _, fun s hs => ?_⟩
    cases hs
    exact atKey_put_same h2 hkl _ _
  · rw [if_neg hj]
    refine ⟨(has_put_other (kL_ne hj) _).trans (h3 j).1, fun s hs => (atKey_put_other (kL_ne hj) _ _).trans ((h3 j).2 s hs)⟩
def cutM (M : Int → Option ByteArray) (lo : Int) : Int → Option ByteArray := fun j => if j < lo then none else M j

def belowK (lo : Int) (kl : Lit) (_ : DataW Unit) : Bool := match kl with | .int _ k => decide (k < lo) | _ => false
theorem cut_view {es : List (Lit × DataW Unit)} {M : Int → Option ByteArray} {lo : Int} (h3 : ∀ k : Int, has (.map es) (kL k) = (M k).isSome ∧ ∀ s, M k = some s → (DataW.map es).atKey (kL k) (.lit (.string [])) = .lit (.string s.data.toList)) (k : Int) :
    has (Lib.deleteFuncD (belowK lo) (.map es)) (kL k) = (cutM M lo k).isSome ∧ ∀ s, cutM M lo k = some s → (Lib.deleteFuncD (belowK lo) (.map es)).atKey (kL k) (.lit (.string [])) = .lit (.string s.data.toList) := by
  have hpd : ∀ p : Lit × DataW Unit, p.1.sameKey (kL k) = true → belowK lo p.1 p.2 = decide (k < lo) := fun p hp => by
    have := WideAt.sameKey_eq hp
    rw [this]; rfl
  unfold cutM
  by_cases hk : k < lo
  · rw [if_pos hk]
    refine ⟨?_, fun s h => by cases h⟩
    show has (.map (es.filter fun p => !belowK lo p.1 p.2)) (kL k) = false
    rw [has_eq, List.any_eq_false]
    intro p hp
    obtain ⟨_, hp2⟩ := List.mem_filter.1 hp
    intro hs
    rw [hpd p hs, decide_eq_true hk] at hp2
    cases hp2
  · rw [if_neg hk]
    have hkeep : ∀ p : Lit × DataW Unit, p.1.sameKey (kL k) = true → (!belowK lo p.1 p.2) = true := fun p hp => by rw [hpd p hp, decide_eq_false hk]; rfl
    constructor
    · show has (.map (es.filter fun p => !belowK lo p.1 p.2)) (kL k) = _
      rw [has_eq, any_filter_keep hkeep, ← has_eq]
      exact (h3 k).1
    · intro s hs
      have := (h3 k).2 s hs
      rw [← this]
      show (DataW.map (es.filter fun p => !belowK lo p.1 p.2)).atKey _ _ = _
      unfold DataW.atKey
      simp only []
      rw [find_filter_keep hkeep]

set_option maxHeartbeats 400000 in
theorem closure_any (k lo : Int) (v : Value) (bx : Nat) (W : World) (hx : W.cell? ⟨bx, 0, none⟩ = some (.int .i64 lo)) :
    Calls Tryz.prog 22 (#[.int .i64 k, v] ++ #[.pointer (some ⟨bx, 0, none⟩)]) W fun e w' => e = .returned (.bool (decide (k < lo))) ∧ w' = W := by
  go_enter Tryz.func22, Tryz.ntmps22
  go_wp2
  go_ret
  exact ⟨rfl, rfl⟩
theorem del_any (b n bx : Nat) (M : Int → Option ByteArray) (lo : Int) (w : World) (h : LogM w b n M) (hx : w.cell? ⟨bx, 0, none⟩ = some (.int .i64 lo)) (hne : bx ≠ b) :
    Calls Tryz.prog 21 #[.map (some b), .func (.func 22) #[] #[.pointer (some ⟨bx, 0, none⟩)]] w fun e w' => e = .returned (.tuple #[]) ∧ LogM w' b n (cutM M lo) ∧ w.grownBy w' (some b) := by
  obtain ⟨D, h1, ⟨es, rfl⟩, h3⟩ := h
  have eg : ∀ args w, (callFunc 22 args).run Tryz.prog w = .ok (.enter 22 args) w := enters_of Tryz.func22 (by kernel_rfl) rfl
  refine (AnyDf.maps_DeleteFunc Tryz.del21 keyI (plainElem Tryz.prog 9) (belowK lo) 22 #[.pointer (some ⟨bx, 0, none⟩)] b n _ w eg h1 (fun W key val kl yd yp hgW hkey hv => ?_)).mono ?_
  · obtain ⟨k, rfl, rfl⟩ : ∃ k, key = .int .i64 k ∧ kl = kL k := by
      have hkey : keyOf Tryz.prog 3 key = some kl := hkey
      rw [keyOf_int Tryz.underlying3] at hkey
      unfold mapKey at hkey
      rw [Tryz.underlying3] at hkey
      cases key <;> simp at hkey
      rename_i q a
      obtain ⟨⟨rfl, _⟩, rfl⟩ := hkey
      exact ⟨_, rfl, rfl⟩
    exact (closure_any k lo val bx W (hgW.cell hx (fun e => hne (Option.some.inj e)))).mono fun _ _ ⟨he, hw⟩ => ⟨he, hw ▸ World.grownBy.refl _ _⟩
  · rintro e w' ⟨rfl, h4, h5⟩
    exact ⟨rfl, ⟨_, h4, ⟨_, rfl⟩, cut_view h3⟩, h5⟩
end Go.Proofs.YtcpmgjnlnaigbaaGreatDoor

namespace Go.Proofs.YtcpmgjnlnaigbaaGreatDoor
open Go.RowKit Go.Maps

/-- where a log lies -/
def LogC (w : World) (g m : Nat) (base taken : Int) : Prop := w.heap[g]? = some (.cells #[.map (some m), .int .i64 base, .int .i64 taken] 37 (0, 0))
theorem LogC.cells {w : World} {g m : Nat} {base taken : Int} (h : LogC w g m base taken) : w.cell? ⟨g, 0, none⟩ = some (.map (some m)) ∧ w.cell? ⟨g, 1, none⟩ = some (.int .i64 base) ∧ w.cell? ⟨g, 2, none⟩ = some (.int .i64 taken) ∧ ∀ k, w.frozen? ⟨g, k, none⟩ = false := by
  unfold LogC at h
  refine ⟨?_, ?_, ?_, fun k => Lib.frozen_of_heap h k⟩
  all_goals
    rw [Lib.cell_of_heap h]
    rfl
theorem LogC.set1 {w : World} {g m : Nat} {base taken z : Int} (h : LogC w g m base taken) : LogC (w.setCell ⟨g, 1, none⟩ (.int .i64 z)) g m z taken := by
  unfold LogC at *
  simp [World.setCell, Array.getElem?_modify, h]
theorem LogC.set2 {w : World} {g m : Nat} {base taken z : Int} (h : LogC w g m base taken) : LogC (w.setCell ⟨g, 2, none⟩ (.int .i64 z)) g m base z := by
  unfold LogC at *
  simp [World.setCell, Array.getElem?_modify, h]
theorem grown_setL (W : World) (b k : Nat) (u : Value) : W.grownBy (W.setCell ⟨b, k, none⟩ u) (some b) := ⟨rfl, rfl, rfl, by simp [World.setCell], fun k hk hb => Below.heap_setCell _ _ _ _ (fun e => hb (by simp [e]))⟩
def LogAt (w : World) (g m n : Nat) (base taken : Int) (M : Int → Option ByteArray) : Prop := LogC w g m base taken ∧ LogM w m n M ∧ g ≠ m
theorem LogC.lt {w : World} {g m : Nat} {base taken : Int} (h : LogC w g m base taken) : g < w.heap.size := (Array.getElem?_eq_some_iff.1 h).1
theorem LogC.kept {w w' : World} {g m : Nat} {base taken : Int} {row : Option Nat} (h : LogC w g m base taken) (hg : w.grownBy w' row) (hne : some g ≠ row) : LogC w' g m base taken := (hg.block g h.lt hne).trans h
theorem LogAt.kept {w w' : World} {g m n : Nat} {base taken : Int} {M : Int → Option ByteArray} {row : Option Nat} (h : LogAt w g m n base taken M) (hg : w.grownBy w' row) (h1 : some g ≠ row) (h2 : some m ≠ row) : LogAt w' g m n base taken M :=
  ⟨h.1.kept hg h1, h.2.1.kept hg h2, h.2.2⟩

set_option maxHeartbeats 1000000 in
theorem logNew_any (w : World) : Calls Tryz.prog 4 #[] w fun e w' => ∃ g m, e = .returned (.pointer (some ⟨g, 0, none⟩)) ∧ LogAt w' g m 0 0 0 (fun _ => none) ∧ w.heap.size ≤ g ∧ w.heap.size ≤ m ∧ Below w.heap.size w w' := by
  have hmm := @run_makeMap Tryz.prog
  go_enter Tryz.func4, Tryz.ntmps4
  go_wp2_with (fail)
  go_ret
  refine ⟨w.heap.size + 1, w.heap.size, rfl, ⟨?_, ?_, by omega⟩, by omega, by omega, ?_⟩
  · have := heap_alloc_new (w.alloc (.map #[] 0)) (.cells #[.map (some w.heap.size), .int .i64 0, .int .i64 0] 37)
    rw [World.size_alloc] at this
    exact this
  · exact (logM_new w).kept (World.grownBy_alloc _ _ none) (by simp)
  · exact ((Below.refl _ _).alloc (Nat.le_refl _) _).alloc (by simp) _

set_option maxHeartbeats 1000000 in
theorem learn_had (g m n : Nat) (base taken : Int) (M : Int → Option ByteArray) (k : Int) (v : ByteArray) (w : World) (h : LogAt w g m n base taken M) (hk : 0 ≤ k ∧ k < 512) (hM : k < base ∨ M k = some v) :
    Calls Tryz.prog 6 #[.pointer (some ⟨g, 0, none⟩), .int .i64 k, .string v] w fun e w' => e = .returned (.int .i64 0) ∧ w' = w := by
  obtain ⟨hC, hL, _⟩ := h
  obtain ⟨c0, c1, c2, _⟩ := hC.cells
  obtain ⟨k1, k2⟩ := hk
  have hlk := hL.look_ok (k := k) (by omega)
  have hA : decide (k < 0) = false := by simp; omega
  have hB : decide ((512 : Int) ≤ k) = false := by simp; omega
  by_cases hb : k < base
  · have hD : decide (k < base) = true := decide_eq_true hb
    obtain ⟨s, hs⟩ : ∃ s, (M k).getD ⟨#[]⟩ = s := ⟨_, rfl⟩
    obtain ⟨q, hq⟩ : ∃ q, (M k).isSome = q := ⟨_, rfl⟩
    rw [hs, hq] at hlk
    clear hs hq hM
    go_enter Tryz.func6, Tryz.ntmps6
    go_wp2_with (fail)
    go_ret
    exact ⟨rfl, rfl⟩
  · have hD : decide (k < base) = false := decide_eq_false hb
    have hM' := hM.resolve_left hb
    rw [hM'] at hlk
    simp only [Option.getD_some, Option.isSome_some] at hlk
    have hvv : (v.toList == v.toList) = true := by simp
    clear hM hM'
    go_enter Tryz.func6, Tryz.ntmps6
    go_wp2_with (fail)
    go_ret
    exact ⟨rfl, rfl⟩
set_option maxHeartbeats 1000000 in
theorem learn_new (g m n : Nat) (base taken : Int) (M : Int → Option ByteArray) (k : Int) (v : ByteArray) (w : World) (h : LogAt w g m n base taken M) (hk : 0 ≤ k ∧ k < 512) (hb : base ≤ k) (hM : M k = none) (hv : v.size ≤ maxLen) (hn : n < maxLen) :
    Calls Tryz.prog 6 #[.pointer (some ⟨g, 0, none⟩), .int .i64 k, .string v] w fun e w' => e = .returned (.int .i64 0) ∧ LogAt w' g m (n + 1) base taken (setM M k v) ∧ w.grownBy w' (some m) := by
  obtain ⟨hC, hL, hgm⟩ := h
  have HC := Lib.hid hC
  obtain ⟨c0, c1, c2, _⟩ := hC.cells
  obtain ⟨k1, k2⟩ := hk
  have hlk := hL.look_ok (k := k) (by omega)
  rw [hM] at hlk
  simp only [Option.getD_none, Option.isSome_none] at hlk
  obtain ⟨w1, hup, hL1, hg1⟩ := hL.update (k := k) (by omega) hv hn
  have HL1 := Lib.hid hL1
  have HG1 := Lib.hid hg1
  have hA : decide (k < 0) = false := by simp; omega
  have hB : decide ((512 : Int) ≤ k) = false := by simp; omega
  have hD : decide (k < base) = false := decide_eq_false (by omega)
  clear hC hL hM hL1 hg1
  go_enter Tryz.func6, Tryz.ntmps6
  go_wp2_with (fail)
  go_ret
  exact ⟨rfl, ⟨HC.out.kept HG1.out (by simpa using hgm), HL1.out, hgm⟩, HG1.out⟩

/-- the least number from base on that is not known -/
def upTo (M : Int → Option ByteArray) (base : Int) (d : Nat) : Prop := (∀ j, base ≤ j → j < base + d → (M j).isSome = true) ∧ (M (base + d)).isSome = false
set_option maxHeartbeats 2000000 in
theorem next_any (g m n : Nat) (base taken : Int) (M : Int → Option ByteArray) (d : Nat) (w : World) (h : LogAt w g m n base taken M) (hb : 0 ≤ base ∧ base + d ≤ 100000) (hd : upTo M base d) :
    Calls Tryz.prog 12 #[.pointer (some ⟨g, 0, none⟩)] w fun e w' => e = .returned (.int .i64 (base + d)) ∧ w' = w := by
  obtain ⟨hC, hL, _⟩ := h
  have HL := Lib.hid hL
  have HD := Lib.hid hd
  obtain ⟨c0, c1, c2, _⟩ := hC.cells
  obtain ⟨b1, b2⟩ := hb
  clear hC hL hd
  go_enter Tryz.func12, Tryz.ntmps12
  go_wp2_with (fail)
  go_loop [3] (fun v => ∃ j : Nat, j ≤ d ∧ v = .int .i64 (base + j)) (fun v => (base + d).toNat - (intOf v).toNat)
  case atStart => exact ⟨0, by omega, by simp⟩
  case round =>
    obtain ⟨j, hj, rfl⟩ := hrel
    have hlk := HL.out.look_ok (k := base + j) (by omega)
    obtain ⟨s, hs⟩ : ∃ s, (M (base + j)).getD ⟨#[]⟩ = s := ⟨_, rfl⟩
    rw [hs] at hlk
    by_cases hlt : j < d
    · have hq := HD.out.1 (base + j) (by omega) (by omega)
      rw [hq] at hlk
      clear hq hs
      go_wp2_with (fail)
      go_round
      case rel => exact ⟨j + 1, by omega, by simp; omega⟩
      case measure => simp [intOf]; omega
    · obtain rfl : j = d := by omega
      have hq := HD.out.2
      rw [hq] at hlk
      clear hq hs
      go_wp2_with (fail)
      go_ret
      exact ⟨rfl, rfl⟩
set_option maxHeartbeats 1000000 in
theorem taken_any (g m n : Nat) (base taken : Int) (M : Int → Option ByteArray) (w : World) (h : LogAt w g m n base taken M) :
    Calls Tryz.prog 9 #[.pointer (some ⟨g, 0, none⟩)] w fun e w' => e = .returned (.int .i64 taken) ∧ w' = w := by
  obtain ⟨hC, hL, _⟩ := h
  obtain ⟨c0, c1, c2, _⟩ := hC.cells
  clear hC hL
  go_enter Tryz.func9, Tryz.ntmps9
  go_wp2_with (fail)
  go_ret
  exact ⟨rfl, rfl⟩
set_option maxHeartbeats 2000000 in
theorem forget_any (g m n : Nat) (base taken lo : Int) (M : Int → Option ByteArray) (w : World) (h : LogAt w g m n base taken M) :
    Calls Tryz.prog 14 #[.pointer (some ⟨g, 0, none⟩), .int .i64 lo] w fun e w' => e = .returned (.tuple #[]) ∧ LogAt w' g m n lo taken (cutM M lo) ∧ ∃ w1, w.grownBy w1 (some m) ∧ w1.grownBy w' (some g) := by
  obtain ⟨hC, hL, hgm⟩ := h
  have hml := hL.lt
  have hgl := hC.lt
  have hbx : Below w.heap.size w (w.alloc (.cells #[.int .i64 lo] 3)) := (Below.refl _ _).alloc (Nat.le_refl _) _
  have hC1 := hC.kept (World.grownBy_alloc w (.cells #[.int .i64 lo] 3) none) (by simp)
  have hL1 := hL.kept (World.grownBy_alloc w (.cells #[.int .i64 lo] 3) none) (by simp)
  have hx : (w.alloc (.cells #[.int .i64 lo] 3)).cell? ⟨w.heap.size, 0, none⟩ = some (.int .i64 lo) := by rw [Lib.cell_of_heap (heap_alloc_new w _)]; rfl
  have HC1 := Lib.hid hC1
  obtain ⟨c0, c1, c2, _⟩ := hC1.cells
  have hdel := del_any m n w.heap.size M lo _ hL1 hx (by omega)
  have HG0 := Lib.hid (World.grownBy_alloc w (.cells #[.int .i64 lo] 3) (some m))
  clear hC hL hL1 hC1 hbx
  generalize hW : w.alloc (.cells #[.int .i64 lo] 3) = W at *
  go_enter Tryz.func14, Tryz.ntmps14
  go_wp2_with (fail)
  refine hdel.mono ?_
  rintro e w1 ⟨rfl, hL2, hg2⟩
  have HL2 := Lib.hid hL2
  have HG2 := Lib.hid (HG0.out.trans hg2)
  have hC2 := HC1.out.kept hg2 (by simpa using hgm)
  have HC2 := Lib.hid hC2
  obtain ⟨c0, c1, c2, cf⟩ := hC2.cells
  have cf1 := cf 1
  have hx2 : w1.cell? ⟨w.heap.size, 0, none⟩ = some (.int .i64 lo) := hg2.cell hx (fun e => by have e2 : w.heap.size = m := Option.some.inj e; omega)
  clear hL2 hg2 hC2 cf hdel hx
  go_wp2_with (fail)
  go_end0
  exact ⟨rfl, ⟨HC2.out.set1, HL2.out.kept (grown_setL _ _ _ _) (by simpa using fun e => hgm e.symm), hgm⟩, w1, HG2.out, grown_setL _ _ _ _⟩
end Go.Proofs.YtcpmgjnlnaigbaaGreatDoor

namespace Go.Proofs.YtcpmgjnlnaigbaaGreatDoor
open Go.RowKit Go.Maps

theorem infoStr : (Tryz.prog.info? 9).map (fun i => (i.zero, i.size, i.bytes)) = some (some (.string ⟨#[]⟩), 1, 16) := by kernel_rfl
def takenL (M : Int → Option ByteArray) (t : Int) (k : Nat) : List ByteArray := (List.range k).map fun (i : Nat) => (M (t + (i : Int))).getD ⟨#[]⟩
theorem takenL_len (M : Int → Option ByteArray) (t : Int) (k : Nat) : (takenL M t k).length = k := by simp [takenL]
theorem takenL_snoc (M : Int → Option ByteArray) (t : Int) (k : Nat) : takenL M t (k + 1) = takenL M t k ++ [(M (t + (k : Int))).getD ⟨#[]⟩] := by unfold takenL; rw [List.range_succ, List.map_append]; rfl
theorem LogAt.drewN {w : World} {g m n : Nat} {base taken : Int} {M : Int → Option ByteArray} (h : LogAt w g m n base taken M) (k : Nat) : LogAt (w.drewN k) g m n base taken M :=
  ⟨h.1, ⟨h.2.1.choose, h.2.1.choose_spec.1, h.2.1.choose_spec.2⟩, h.2.2⟩
theorem LogAt.drew {w : World} {g m n : Nat} {base taken : Int} {M : Int → Option ByteArray} (h : LogAt w g m n base taken M) : LogAt w.drew g m n base taken M :=
  ⟨h.1, ⟨h.2.1.choose, h.2.1.choose_spec.1, h.2.1.choose_spec.2⟩, h.2.2⟩

def lenR : Value → Nat | .slice _ n _ => n | _ => 0
set_option maxRecDepth 100000 in
set_option maxHeartbeats 4000000 in
theorem take_any (g m n : Nat) (base taken : Int) (M : Int → Option ByteArray) (d K : Nat) (w : World) (h : LogAt w g m n base taken M) (hb : 0 ≤ base ∧ base + d ≤ 100000) (hd : upTo M base d) (ht : base ≤ taken) (hK : taken + K = base + d) :
    Calls Tryz.prog 7 #[.pointer (some ⟨g, 0, none⟩)] w fun e w' => ∃ v, e = .returned v ∧ w'.ownsRow w.heap.size 9 1 v K ((takenL M taken K).map Value.string) ∧ LogAt w' g m n base (taken + K) M ∧ w.grownBy w' (some g) := by
  obtain ⟨i0, hi0, hz0, hz1, hz2⟩ := info_parts infoStr
  have HD := Lib.hid hd
  have HH := Lib.hid h
  have hgl : g < w.heap.size := h.1.lt
  have hml : m < w.heap.size := h.2.1.lt
  obtain ⟨b1, b2⟩ := hb
  clear hd h
  go_enter Tryz.func7, Tryz.ntmps7
  go_wp2_with (fail)
  go_loopw [3] (fun ov wr => ∃ (k : Nat) (v : Value), v = ov ∧ k ≤ K ∧ Hid (wr.ownsRow w.heap.size 9 1 v k ((takenL M taken k).map Value.string)) ∧ Hid (LogAt wr g m n base (taken + k) M) ∧ Hid (w.grownBy wr (some g)) ∧ lenR v = k) (fun v _ => K - lenR v)
  case atStart => exact ⟨0, _, rfl, by omega, Lib.hid ⟨rfl, .inl ⟨rfl, rfl⟩⟩, Lib.hid (by simpa using HH.out), Lib.hid (World.grownBy.refl _ _), rfl⟩
  case round =>
    obtain ⟨k, ov, rfl, hk, HO, HL, HG, hlr⟩ := hrel
    have HLR := Lib.hid hlr
    clear hlr
    obtain ⟨c0, c1, c2, cf⟩ := HL.out.1.cells
    have cf2 := cf 2
    have hz := HG.out.size
    by_cases hlt : k < K
    · have hlk := HL.out.2.1.look (k := taken + k) (by omega)
      obtain ⟨s, hs⟩ : ∃ s, (M (taken + k)).getD ⟨#[]⟩ = s := ⟨_, rfl⟩
      have HS := Lib.hid hs
      rw [hs] at hlk
      clear cf hs
      have hB : decide (taken + (k : Int) < base + (d : Int)) = true := decide_eq_true (by omega)
      go_wp2_with (fail)
      go_quiet (first | (go_at_call 12; exact Calls.quiet_of_same (next_any g m n base (taken + k) M d _ (HL.out.drewN _) ⟨b1, b2⟩ HD.out)))
      rename_i nq
      have hW0 : ∃ W, wr.drewN nq = W := ⟨_, rfl⟩
      have hL2 := HL.out.drewN nq
      have hO2 : (wr.drewN nq).ownsRow w.heap.size 9 1 ov k ((takenL M taken k).map Value.string) := HO.out
      have hlk2 : (Instr.lookup 35 (.map (some m)) (.int .i64 (taken + k)) false).run Tryz.prog (wr.drewN nq) = .ok (.string s) (wr.drewN nq) := by
        have := hL2.2.1.look (k := taken + k) (by omega)
        rw [HS.out] at this
        exact this
      have hG2 : w.grownBy (wr.drewN nq) (some g) := ⟨HG.out.os, HG.out.tape, HG.out.output, HG.out.size, HG.out.block⟩
      clear hlk c0 c1 c2 cf2 hz
      obtain ⟨W, hW⟩ := hW0
      rw [hW] at hL2 hO2 hlk2 hG2 ⊢
      clear hW HL HO HG
      obtain ⟨c0, c1, c2, cf⟩ := hL2.1.cells
      have hz := hG2.size
      have HL := Lib.hid hL2
      have HO := Lib.hid hO2
      have HG := Lib.hid hG2
      have hgl2 := hL2.1.lt
      have hml2 := hL2.2.1.lt
      have hllen : (takenL M taken k).length = k := takenL_len _ _ _
      have hlkd : (Instr.lookup 35 (.map (some m)) (.int .i64 (taken + k)) false).run Tryz.prog W.drew = .ok (.string s) W.drew := by
        have := HL.out.drew.2.1.look (k := taken + k) (by omega)
        rw [HS.out] at this
        exact this
      clear hL2 hO2 hG2 cf
      go_wp2_with (fail)
      go_region_law (refine step_append_lies _ (by rfl) _ _ _ (by rfl) w.heap.size 9 i0 _ 1 16 (by kernel_rfl) hi0 hz0 hz1 hz2 rfl (by omega) ov k ((takenL M taken k).map Value.string) (by rfl) (HO.out.alloc _) ⟨W.heap.size, 0, none⟩ 1 1 [.string s] (by rfl) (by rfl) (World.news_of_block (cs := #[.string s]) (t := 9) (fr := (0, 0)) (heap_alloc_new W _)) (by simp [Value.oneCell']) (by omega) (by unfold maxLen; omega) (by omega) (by show w.heap.size ≤ (W.alloc _).heap.size; simp; omega) (W.heap.size + 1) (by simp) ?_; (intro g2 cap w1 hown2 hgrow hat2 hlt2))
      all_goals
        have hg2g : w.heap.size ≤ g2 := (hown2.lt g2 rfl).1
        have hng : some g ≠ ov.ownBlock := fun e => by have := (HO.out.lt g e.symm).1; omega
        have hnm : some m ≠ ov.ownBlock := fun e => by have := (HO.out.lt m e.symm).1; omega
        have hgrow : (W.alloc (.cells #[.string s] 9)).grownBy w1 ov.ownBlock := ⟨hgrow.os, hgrow.tape, hgrow.output, hgrow.size, hgrow.block⟩
        have hL1 : LogAt w1 g m n base (taken + k) M := LogAt.kept (LogAt.kept (w' := _) HL.out (row := none) (World.grownBy_alloc W (.cells #[.string s] 9) none) (by simp) (by simp)) hgrow hng hnm
        have hGA : w.grownBy (W.alloc (.cells #[.string s] 9)) (some g) := HG.out.trans (World.grownBy_alloc W _ (some g))
        have hG1 : w.grownBy w1 (some g) := ⟨hgrow.os.trans hGA.os, hgrow.tape.trans hGA.tape, hgrow.output.trans hGA.output, Nat.le_trans hGA.size hgrow.size, fun i hi h1 => (hgrow.block i (Nat.lt_of_lt_of_le hi hGA.size) (fun e => by have := (HO.out.lt i e.symm).1; omega)).trans (hGA.block i hi h1)⟩
        have HL1 := Lib.hid hL1
        have HG1 := Lib.hid hG1
        have HO1 := Lib.hid hown2
        obtain ⟨e0, e1, e2, ef⟩ := hL1.1.cells
        have ef2 := ef 2
        have hL3 := hL1.1.set2 (z := taken + k + 1)
        have HL3 := Lib.hid hL3
        obtain ⟨_, _, x2, _⟩ := hL3.cells
        have HX2 := Lib.hid x2
        clear c0 c1 c2 hL1 hGA hG1 hown2 hgrow hng hnm hlk2 hlkd hL3 x2 ef hat2
        go_wp2_with (fail)
        go_roundw
        case rel =>
          refine ⟨k + 1, _, rfl, by omega, Lib.hid ?_, Lib.hid ⟨?_, HL1.out.2.1.kept (grown_setL _ _ _ _) (fun e => HL1.out.2.2 (Option.some.inj e).symm), HL1.out.2.2⟩, Lib.hid (HG1.out.trans (grown_setL _ _ _ _)), ?_⟩
          · rw [takenL_snoc, List.map_append, HS.out]
            exact HO1.out.kept (grown_setL _ _ _ _) (.inr (fun e => by have : g2 = g := Option.some.inj e; omega))
          · have := HL3.out
            rw [show taken + ((k + 1 : Nat) : Int) = taken + k + 1 by omega]
            exact this
          · rfl
        case measure =>
          rw [HLR.out]
          simp [lenR]
          omega
    · obtain rfl : k = K := by omega
      clear cf
      have hB : decide (taken + (k : Int) < base + (d : Int)) = false := decide_eq_false (by omega)
      go_wp2_with (fail)
      go_quiet (first | (go_at_call 12; exact Calls.quiet_of_same (next_any g m n base (taken + k) M d _ (HL.out.drewN _) ⟨b1, b2⟩ HD.out)))
      go_wp2_with (fail)
      rename_i nq
      go_ret
      refine ⟨_, rfl, HO.out, HL.out.drewN nq, ⟨HG.out.os, HG.out.tape, HG.out.output, HG.out.size, HG.out.block⟩⟩

set_option maxHeartbeats 1000000 in
theorem compact_any (g m n : Nat) (base taken : Int) (M : Int → Option ByteArray) (w : World) (h : LogAt w g m n base taken M) (ht : base ≤ taken) :
    Calls Tryz.prog 8 #[.pointer (some ⟨g, 0, none⟩), .int .i64 taken] w fun e w' => e = .returned (.int .i64 0) ∧ LogAt w' g m n taken taken (cutM M taken) ∧ ∃ w1, w.grownBy w1 (some m) ∧ w1.grownBy w' (some g) := by
  have hf := forget_any g m n base taken taken M w h
  obtain ⟨hC, hL, _⟩ := h
  obtain ⟨c0, c1, c2, _⟩ := hC.cells
  have hA : decide (taken < base) = false := decide_eq_false (by omega)
  have hB : decide (taken < taken) = false := decide_eq_false (by omega)
  have HF := Lib.hid hf
  clear hC hL hf
  go_enter Tryz.func8, Tryz.ntmps8
  go_wp2_with (fail)
  refine HF.out.mono ?_
  rintro e w' ⟨rfl, h1, h2⟩
  go_wp2_with (fail)
  go_ret
  exact ⟨rfl, h1, h2⟩
theorem cut_none (lo : Int) : cutM (fun _ => none) lo = fun _ => none := by unfold cutM; funext j; split <;> rfl
set_option maxHeartbeats 1000000 in
theorem jump_any (g m n : Nat) (k : Int) (w : World) (h : LogAt w g m n 0 0 (fun _ => none)) (hk : 0 ≤ k ∧ k ≤ 512) :
    Calls Tryz.prog 10 #[.pointer (some ⟨g, 0, none⟩), .int .i64 k] w fun e w' => e = .returned (.int .i64 0) ∧ LogAt w' g m n k k (fun _ => none) ∧ ∃ w1, w.grownBy w1 (some m) ∧ w1.grownBy w' (some g) := by
  have hf := forget_any g m n 0 0 k (fun _ => none) w h
  rw [cut_none] at hf
  obtain ⟨c0, c1, c2, _⟩ := h.1.cells
  obtain ⟨k1, k2⟩ := hk
  have hA : decide (k < 0) = false := decide_eq_false (by omega)
  have hB : decide ((512 : Int) < k) = false := decide_eq_false (by omega)
  have HF := Lib.hid hf
  have HH := Lib.hid h
  clear h hf
  by_cases h0 : 0 < k
  · have hC : decide (0 < k) = true := decide_eq_true h0
    go_enter Tryz.func10, Tryz.ntmps10
    go_wp2_with (fail)
    refine HF.out.mono ?_
    rintro e w' ⟨rfl, h1, w1, h2, h3⟩
    obtain ⟨e0, e1, e2, ef⟩ := h1.1.cells
    have ef2 := ef 2
    have H1 := Lib.hid h1
    have H2 := Lib.hid h2
    have H3 := Lib.hid h3
    clear h1 h2 h3 ef c0 c1 c2
    go_wp2_with (fail)
    go_ret
    exact ⟨rfl, ⟨H1.out.1.set2, H1.out.2.1.kept (grown_setL _ _ _ _) (fun e => H1.out.2.2 (Option.some.inj e).symm), H1.out.2.2⟩, w1, H2.out, H3.out.trans (grown_setL _ _ _ _)⟩
  · obtain rfl : k = 0 := by omega
    have hC : decide ((0 : Int) < 0) = false := rfl
    go_enter Tryz.func10, Tryz.ntmps10
    go_wp2_with (fail)
    go_ret
    exact ⟨rfl, HH.out, w, World.grownBy.refl _ _, World.grownBy.refl _ _⟩
end Go.Proofs.YtcpmgjnlnaigbaaGreatDoor

namespace Go.Proofs.YtcpmgjnlnaigbaaGreatDoor

/-- what is known is true; what was taken, and not forgotten, is known -/
def Inv (vals : List ByteArray) (base t : Int) (M : Int → Option ByteArray) : Prop :=
  (∀ j, M j = none ∨ (0 ≤ j ∧ j < vals.length ∧ M j = some (vals.getD j.toNat ⟨#[]⟩))) ∧ (∀ j, base ≤ j → j < t → (M j).isSome = true) ∧ 0 ≤ base ∧ base ≤ t ∧ t ≤ vals.length
theorem Inv.up {vals : List ByteArray} {base t : Int} {M : Int → Option ByteArray} (h : Inv vals base t M) : ∃ d : Nat, upTo M base d ∧ t ≤ base + d ∧ base + d ≤ vals.length := by
  obtain ⟨h1, h2, h3, h4, h5⟩ := h
  have key : ∀ (fuel e : Nat), base + e + fuel = vals.length → (∀ j, base ≤ j → j < base + e → (M j).isSome = true) → ∃ d : Nat, e ≤ d ∧ upTo M base d ∧ base + d ≤ vals.length := by
    intro fuel
    induction fuel with
    | zero =>
      intro e he hs
      refine ⟨e, Nat.le_refl _, ⟨hs, ?_⟩, by omega⟩
      rcases h1 (base + e) with h | ⟨_, h, _⟩
      · rw [h]; rfl
      · omega
    | succ fuel ih =>
      intro e he hs
      cases hq : (M (base + e)).isSome with
      | false => exact ⟨e, Nat.le_refl _, ⟨hs, hq⟩, by omega⟩
      | true =>
        obtain ⟨d, hd1, hd2, hd3⟩ := ih (e + 1) (by omega) (fun j ha hb => by
          by_cases hj : j < base + e
          · exact hs j ha hj
          · obtain rfl : j = base + e := by omega
            exact hq)
        exact ⟨d, by omega, hd2, hd3⟩
  obtain ⟨d, hd1, hd2, hd3⟩ := key (vals.length - t).toNat (t - base).toNat (by omega) (fun j ha hb => h2 j ha (by omega))
  exact ⟨d, hd2, by omega, hd3⟩
theorem Inv.learn {vals : List ByteArray} {base t : Int} {M : Int → Option ByteArray} (h : Inv vals base t M) {s : Int} (hs : 0 ≤ s ∧ s < vals.length) : Inv vals base t (setM M s (vals.getD s.toNat ⟨#[]⟩)) := by
  obtain ⟨h1, h2, h3, h4, h5⟩ := h
  unfold setM
  refine ⟨fun j => ?_, fun j ha hb => ?_, h3, h4, h5⟩
  · by_cases hj : j = s
    · subst hj
      simp only [if_true]
      exact .inr ⟨hs.1, hs.2, by trivial⟩
    · simp only [if_neg hj]
      exact h1 j
  · by_cases hj : j = s
    · simp [hj]
    · simp only [if_neg hj]
      exact h2 j ha hb
theorem Inv.had {vals : List ByteArray} {base t : Int} {M : Int → Option ByteArray} (h : Inv vals base t M) (s : Int) : M s = none ∨ M s = some (vals.getD s.toNat ⟨#[]⟩) := by
  rcases h.1 s with h | ⟨_, _, h⟩
  · exact .inl h
  · exact .inr h
theorem Inv.take {vals : List ByteArray} {base t : Int} {M : Int → Option ByteArray} (h : Inv vals base t M) {d : Nat} (hd : upTo M base d) (h2 : t ≤ base + d) (h3 : base + d ≤ vals.length) : Inv vals base (base + d) M :=
  ⟨h.1, fun j ha hb => hd.1 j ha hb, h.2.2.1, by have := h.2.2.2; omega, h3⟩
theorem Inv.forget {vals : List ByteArray} {base t : Int} {M : Int → Option ByteArray} (h : Inv vals base t M) : Inv vals t t (cutM M t) := by
  obtain ⟨h1, h2, h3, h4, h5⟩ := h
  unfold cutM
  refine ⟨fun j => ?_, fun j ha hb => by omega, by omega, by omega, h5⟩
  by_cases hj : j < t
  · exact .inl (if_pos hj)
  · simp only [if_neg hj]
    exact h1 j
/-- what Take hands on -/
theorem Inv.taken {vals : List ByteArray} {base t : Int} {M : Int → Option ByteArray} (h : Inv vals base t M) {d K : Nat} (hd : upTo M base d) (hK : t + K = base + d) : takenL M t K = (vals.drop t.toNat).take K := by
  obtain ⟨h1, h2, h3, h4, h5⟩ := h
  have hle : base + d ≤ vals.length := by
    rcases Nat.eq_zero_or_pos d with h0 | h0
    · omega
    · have := hd.1 (base + d - 1) (by omega) (by omega)
      rcases h1 (base + d - 1) with h | ⟨_, h, _⟩
      · rw [h] at this; cases this
      · omega
  refine List.ext_getElem (by rw [takenL_len, List.length_take, List.length_drop]; omega) fun i hi1 hi2 => ?_
  rw [takenL_len] at hi1
  have hsome := hd.1 (t + i) (by omega) (by omega)
  have e1 : (takenL M t K)[i] = (M (t + (i : Int))).getD ⟨#[]⟩ := by simp [takenL]
  rw [e1, List.getElem_take, List.getElem_drop]
  rcases h1 (t + i) with h | ⟨_, hlt, h⟩
  · rw [h] at hsome; cases hsome
  · rw [h, Option.getD_some]
    have hlt2 : t.toNat + i < vals.length := by omega
    rw [show (t + (i : Int)).toNat = t.toNat + i by omega]
    simp [List.getD, hlt2]
theorem take_more {α : Type} (l : List α) (i j k : Nat) (h : i ≤ j) : (l.drop i).take (j - i) ++ (l.drop j).take k = (l.drop i).take (j - i + k) := by
  rw [List.take_add, List.drop_drop, show i + (j - i) = j by omega]
/-- all is known -/
theorem Inv.all {vals : List ByteArray} {base t : Int} {M : Int → Option ByteArray} (h : Inv vals base t M) {d : Nat} (hd : upTo M base d) (hs : ∀ j : Int, base ≤ j → 0 ≤ j → j < vals.length → (M j).isSome = true) : base + d = vals.length := by
  obtain ⟨h1, h2, h3, h4, h5⟩ := h
  have := hd.2
  rcases Int.lt_trichotomy (base + d) vals.length with h | h | h
  · rw [hs (base + d) (by omega) (by omega) h] at this; cases this
  · exact h
  · have h0 : 0 < d := by omega
    have := hd.1 vals.length (by omega) h
    rcases h1 vals.length with h | ⟨_, h, _⟩
    · rw [h] at this; cases this
    · omega
end Go.Proofs.YtcpmgjnlnaigbaaGreatDoor

