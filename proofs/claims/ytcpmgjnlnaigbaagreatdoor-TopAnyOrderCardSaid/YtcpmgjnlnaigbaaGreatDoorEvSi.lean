/- slices.Sorted over maps.Keys, whole numbers for keys: by the shelf's contracts. No program in sight. -/
import Derived.Test.YtcpmgjnlnaigbaaGreatDoorEvSo
import Derived.Shelf.SlIterI.Nil
import Derived.Shelf.SlIterI.Sorted
import Derived.Shelf.SlIterI.Collect
set_option linter.unusedVariables false
set_option linter.unusedSimpArgs false
noncomputable section
namespace Go.Ev
open Go Go.RowKit Go.Maps Go.Sort Go.Shelf Go.Proofs Go.WideElems

theorem keyInt_of {P : Program} {k : TypeId} (hk : P.underlying k = some (.int .i64)) {n : Int} (hn : -9223372036854775808 ≤ n ∧ n ≤ 9223372036854775807) : keyOf P k (.int .i64 n) = some (.int .i64 n) := by
  refine keyOf_int_mk hk ?_
  show (decide (IntKind.i64.min ≤ n) && decide (n ≤ IntKind.i64.max)) = true
  rw [Bool.and_eq_true, decide_eq_true_iff, decide_eq_true_iff]
  exact hn

theorem intKeys_ks {P : Program} {k : TypeId} (hk : P.underlying k = some (.int .i64)) {arr : Array MapEntry} {ks : List Int} (hks : arr.toList.map (·.key) = ks.map (Value.int .i64)) (hok : ∀ n ∈ ks, -9223372036854775808 ≤ n ∧ n ≤ 9223372036854775807) :
    (intKeys (.map ((arr.toList.map (rg P k asIs)).foldr DataW.insert []))).Perm ks := by
  show (((arr.toList.map (rg P k asIs)).foldr DataW.insert []).map fun p => intOf p.1).Perm ks
  refine ((sorted_perm _).map _).trans ?_
  rw [List.map_map]
  have : ∀ (l : List MapEntry) (ks : List Int), l.map (·.key) = ks.map (Value.int .i64) → (∀ n ∈ ks, -9223372036854775808 ≤ n ∧ n ≤ 9223372036854775807) → l.map ((fun p => intOf p.1) ∘ rg P k asIs) = ks := by
    intro l
    induction l with
    | nil => intro ks h _; cases ks; rfl; cases h
    | cons x r ih =>
      intro ks h ho
      cases ks with
      | nil => cases h
      | cons s ks =>
        simp only [List.map_cons, List.cons.injEq] at h
        rw [List.map_cons, ih ks h.2 (fun q hq => ho q (List.mem_cons_of_mem _ hq))]
        congr 1
        have := keyInt_of hk (ho s (by simp))
        simp [rg, rd, h.1, this, asIs, intOf]
  rw [this _ _ hks hok]

theorem sortedOk_int {P : Program} {ρS ρK : Go.Shelf.Ren} (LS : SlLaysZI.n6 P ρS) (LK : SlLaysZI.n10 P ρK) (hsort : AnyZI.SortsIn P ρS Fence.wide 4) (e9 : ∀ args w, (callFunc (ρS.f 9) args).run P w = .ok (.enter (ρS.f 9) args) w)
    (eS : Enters P (ρS.f 6)) (eK : ∀ args w, (callFunc (ρK.f 10) args).run P w = .ok (.enter (ρK.f 10) args) w) (hk : P.underlying (ρK.t 26) = some (.int .i64)) : SortedOk P keyInt (ρS.f 6) (ρK.f 10) := by
  refine ⟨eS, fun w Bm hBm => ⟨fun hc => ?_, fun b arr clk ks hc hb hborn hks hnd hok hlen => ?_⟩⟩
  · have hseq : SeqGives Fence.wide 2 P (ρK.f 10) #[.pointer (some ⟨Bm, 0, none⟩)] encZ (fun ss : List Int => ss = []) 0 w := AnyZI.keys_gives_nil LK Fence.wide _ trivial rfl Bm w hBm hc
    refine (callsIn_wide.1 (AnyZI.sorted_in LS Fence.wide 5 trivial trivial trivial trivial rfl (by omega) hsort e9 (ρK.f 10) #[.pointer (some ⟨Bm, 0, none⟩)] trivial eK _ 0 (Nat.zero_le _) (by omega) w hseq)).mono ?_
    rintro e w' ⟨v, ss, rfl, rfl, _, hnil, hbel⟩
    exact ⟨by rw [hnil.2 rfl], hbel⟩
  · have hks' : arr.toList.map (·.key) = ks.map (Value.int .i64) := hks
    have hok' : ∀ n ∈ ks, -9223372036854775808 ≤ n ∧ n ≤ 9223372036854775807 := hok
    have hal : arr.size = ks.length := by have := congrArg List.length hks'; simpa using this
    have hown : w.ownsMap P (ρK.t 26) asIs b arr.size (.map ((arr.toList.map (rg P (ρK.t 26) asIs)).foldr DataW.insert [])) := own_asIs hb hborn (keys_nodup (f := Value.int .i64) (fun a b h => by cases h; rfl) hks' hnd) (by rw [hal]; unfold maxLen; omega) fun x hx => by
      obtain ⟨s, hs, e⟩ := key_mem hks' hx
      exact ⟨_, by rw [e]; exact keyInt_of hk (hok' s hs)⟩
    have hsz : Maps.size (H := Value) (.map ((arr.toList.map (rg P (ρK.t 26) asIs)).foldr DataW.insert [])) = arr.size := by
      rw [Maps.size_eq, (sorted_perm _).length_eq]; simp
    have hseq := AnyZI.keys_gives LK Fence.wide 2 trivial rfl (by omega) Bm b arr.size _ w hBm hc hown
    rw [hsz] at hseq
    refine (callsIn_wide.1 (AnyZI.sorted_in LS Fence.wide 5 trivial trivial trivial trivial rfl (by omega) hsort e9 (ρK.f 10) #[.pointer (some ⟨Bm, 0, none⟩)] trivial eK _ arr.size (by rw [hal]; unfold maxLen; omega) (by omega) w hseq)).mono ?_
    rintro e w' ⟨v, ss, rfl, hss, hrow, hnil, hbel⟩
    exact ⟨v, ss, _, rfl, hss.trans (intKeys_ks hk hks' hok'), hrow, hnil, hbel⟩
end Go.Ev
