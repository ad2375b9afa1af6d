/- maps.Copy over elements of four cells: the kit's walk of AnyX.maps_Copy, turned to this dump. -/
import Derived.Test.YtcpmgjnlnaigbaaGreatDoorEvCp
import Derived.Test.YtcpmgjnlnaigbaaGreatDoorProg
import Derived.WalkKit
import Derived.Maps.Ext
import Derived.Maps.RangeWalk
import Derived.Laws.IdiomRangeMap
import Derived.Lib.SlMapMerge
import Derived.KernelRfl
set_option linter.unusedVariables false
set_option linter.unusedSimpArgs false
namespace Go.Proofs.YtcpmgjnlnaigbaaGreatDoor
open Go.RowKit Go.Maps Go.Ev

set_option maxHeartbeats 4000000 in
set_option maxRecDepth 100000 in
theorem copy_walk (bd bs nd ns : Nat) (Dd Ds : DataW Value) (w : World) (hd : w.ownsMap Tryz.prog 9 stR bd nd Dd) (hs : w.ownsMap Tryz.prog 9 stR bs ns Ds) (hne : bd ≠ bs) (hroom : nd + Maps.size Ds ≤ maxLen) :
    Calls Tryz.prog 229 #[.map (some bd), .map (some bs)] w fun e w' => e = .returned (.tuple #[]) ∧ w'.ownsMap Tryz.prog 9 stR bd (nd + Maps.size Ds) (Lib.mergeD Dd Ds) ∧ w.grownBy w' (some bd) := by
  have K : Keyed Tryz.prog 9 := string_keyed Tryz.underlying9
  have hbd := hd.lt
  have hbs := hs.lt
  go_enter Tryz.func229, Tryz.ntmps229
  go_wp2_with (first
    | (at_range; refine wpList_range_own _ rfl _ 94 rfl 9 313 K Tryz.underlying94 stR bs ns _ rfl hs ?_; intro w0 hrg0 hg0 hs0)
    | go_in)
  go_frame
  go_loopw [8] (fun _ wr => ∃ (left : Lit → Bool) (cnt : Nat) (Dout : DataW Value), wr.ranges Tryz.prog 9 stR bs w.heap.size ns Ds left cnt ∧ cnt ≤ Maps.size Ds ∧
      wr.ownsMap Tryz.prog 9 stR bd (nd + (Maps.size Ds - cnt)) Dout ∧ Merged Dout Dd Ds left ∧ w.grownBy wr (some bd))
    (fun _ wr => wr.rangeLeft bs w.heap.size)
  case atStart =>
    exact ⟨_, _, Dd, hrg0, Nat.le_refl _, (hd.kept hg0 (by simp)).mono (by omega), merged_start Dd Ds, hg0.but _⟩
  case round =>
    obtain ⟨left, cnt, Dout, hrg, hcs, hout, hM, hgw⟩ := hrel
    go_wp2_with (first
      | (at_next; refine wpList_next_ranges _ rfl _ rfl 9 K stR id id (fun key _ _ => ⟨key, rfl⟩) (fun v _ _ => ⟨v, rfl⟩) bs w.heap.size ns _ _ _ rfl hrg ?_ ?_)
      | go_in)
    · intro hc0 hl0
      go_wp2
      go_end0
      subst hc0
      have e := merged_eq K.one hM hl0 (hout.canon K) (hd.canonK K) (hs.canonK K)
      subst e
      exact ⟨rfl, by simpa using hout, hgw⟩
    · intro x c kl yd yp w1 cnt1 hkey hlx hv hat hrg1 hlt hg1 hs1 hen
      have hout1 := hout.kept hg1 (fun e => by have := Option.some.inj e; omega)
      obtain ⟨s, p1, n1, c1, p2, n2, c2, p3, n3, c3, rfl⟩ := stR_some hv
      have hout2 := hout1.alloc (.cells #[.string s, .slice p1 n1 c1, .slice p2 n2 c2, .slice p3 n3 c3] 313)
      have hgA := World.grownBy_alloc w1 (.cells #[.string s, .slice p1 n1 c1, .slice p2 n2 c2, .slice p3 n3 c3] 313) none
      have hszA : w1.heap.size ≤ (w1.alloc (.cells #[.string s, .slice p1 n1 c1, .slice p2 n2 c2, .slice p3 n3 c3] 313)).heap.size := hgA.size
      have hrg1' := hrg1.kept hgA (by simp) (by simp)
      go_wp2_with (first
        | (at_mapUpdate; refine wpList_mapUpdate_own _ rfl _ _ _ 94 rfl 9 313 K Tryz.underlying94 stR bd _ _ rfl hout2 (by omega) _ _ _ rfl rfl hkey yd yp hv ?_; intro w2 hout3 hg2; go_frame)
        | go_in)
      have hrg2 := hrg1'.kept hg2 (fun e => hne (Option.some.inj e).symm) (fun e => by have := Option.some.inj e; omega)
      go_roundw
      case rel =>
        exact ⟨_, cnt1, _, hrg2, by omega, hout3.mono (by omega), merged_step hM hout.isMap (K.key hkey) hat, ((hgw.andThen hg1 (fun j hj => .inl (by cases hj; exact Nat.le_refl _))).andThen hgA (fun j hj => by cases hj)).andThen hg2 (fun j hj => .inr hj)⟩
      case measure => rw [hrg2.left_eq, hrg.left_eq]; exact hlt
set_option maxHeartbeats 2000000 in
theorem copy_nil (pd : Option Nat) (w : World) :
    Calls Tryz.prog 229 #[.map pd, .map none] w fun e w' => e = .returned (.tuple #[]) ∧ w' = w.alloc (.mapIter none 0 #[] 0) := by
  have hrg := run_range_nilMap (P := Tryz.prog) w 94 _ _ Tryz.underlying94
  have hnx : ∀ ty, (Instr.next (.pointer (some ⟨w.heap.size, 0, none⟩)) false ty).run Tryz.prog (w.alloc (.mapIter none 0 #[] 0)) = _ := fun ty => run_next_nilMap _ ty 0 0 #[]
  go_enter Tryz.func229, Tryz.ntmps229
  go_wp2
  refine wp_loop_rounds 1 ?_
  rw [rounds_succ]
  go_wp2
  go_end0
  exact ⟨rfl, rfl⟩
theorem copy_key : Tryz.prog.underlying 9 = some .string := Tryz.underlying9
#print axioms copy_walk
end Go.Proofs.YtcpmgjnlnaigbaaGreatDoor
