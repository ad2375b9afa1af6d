/- How slices of structs of numbers, and slices of numbers, that came in are opened for a walk. -/
import Derived.Test.YtjokjbihkejagaaLe
import Derived.Deep.Slices
import Derived.Deep.Fields
import Derived.ChangeSame
import Derived.ChangeSlices
import Derived.ChangeOld
import Derived.SizedLaws
namespace Go.Proofs.Ytjokjbihkejagaa
open Go.RowKit Go.ChangeShapes Go.WideShapes Go.Deep
section
variable {H : Type} {enc : TypeId × Value → H} {P : Program} {w : World} {base : Nat} {spare : Nat → Bool} {held : Bool}
theorem open_slice_fields {t e : TypeId} {fs : Array Field} {fuel : Nat} {cs : List Value} {x : DataW H × List MemPlace} (ht : P.underlying t = some (.slice e)) (he : P.underlying e = some (.struct fs))
    (hone : oneCellFields P fs = true) (hC : P.cellsOf e = fs.size) (h : DataW.trod enc P w base spare held fuel t cs = some x) :
    (cs = [.slice none 0 0] ∧ x = (.nil, [])) ∨
    ∃ (a : Addr) (len cap m : Nat) (D : Nat → DataW H) (Pl : Nat → List MemPlace), cs = [.slice (some a) len cap] ∧ base ≤ a.block ∧ len ≤ cap ∧ cap ≤ maxLen ∧ m = (if spare a.block then cap else len) ∧
      x = (.slice ((List.range len).map D) ((List.range (m - len)).map fun j => D (len + j)), MemPlace.row a (m * fs.size) ++ (List.range m).flatMap Pl) ∧
      ∀ i, i < m → ∃ (ys : List (DataW H × List MemPlace)) (n : Nat), D i = .agg (ys.map (·.1)) ∧ Pl i = ys.flatMap (·.2) ∧ ys.length = fs.size ∧
        ∀ (j : Nat) (f : Field), fs[j]? = some f → ∃ (v : Value) (y : DataW H × List MemPlace), w.cell? (a.add (i * fs.size + j)) = some v ∧ ys[j]? = some y ∧ DataW.trod enc P w base spare held n f.type [v] = some y := by
  rcases open_slice ht h with h0 | ⟨a, len, cap, m, n, D, Pl, hcs, hb, hl, hm, hmm, hx, hi⟩
  · exact .inl h0
  · refine .inr ⟨a, len, cap, m, D, Pl, hcs, hb, hl, hm, hmm, by rw [hC] at hx; exact hx, fun i him => ?_⟩
    obtain ⟨cs', hc, ht'⟩ := hi i him
    rw [hC] at hc
    obtain ⟨ys, n', hn', hy, hlen, hyl, hf⟩ := DataW.trod_struct he ht'
    obtain ⟨_, hcl, hat⟩ := World.cells?_some hc
    simp only [Prod.mk.injEq] at hy
    refine ⟨ys, n', hy.1, hy.2, hyl, fun j f hj => ?_⟩
    obtain ⟨ho, hk⟩ := hone_of hone j f hj
    have hjl : j < fs.size := (Array.getElem?_eq_some_iff.1 hj).1
    have hcell := hat j hjl
    have hv : cs'[j]? = some (cs'[j]'(by omega)) := List.getElem?_eq_getElem (by omega)
    have h1 := hf j f hj
    rw [ho, hk] at h1
    have hone' : (cs'.drop j).take 1 = [cs'[j]'(by omega)] := by
      rw [List.drop_eq_getElem_cons (by omega)]
      rfl
    rw [hone'] at h1
    have hys : ys[j]? = some (ys[j]'(by omega)) := List.getElem?_eq_getElem (by omega)
    refine ⟨_, _, ?_, hys, h1.trans hys⟩
    rw [← Go.Deep.add_add, hcell, hv]
end
theorem cell_lt {w : World} {a : Addr} {v : Value} (h : w.cell? a = some v) : a.block < w.heap.size ∧ a.spot = none := by
  unfold World.cell? at h
  split at h
  · rename_i hb
    refine ⟨?_, ?_⟩
    · have := Array.getElem?_eq_some_iff.1 hb
      exact this.1
    · by_cases hs : a.spot.isSome
      · simp [hs] at h
      · simpa using hs
  · cases h

/-- A slice of structs of numbers that came in. -/
theorem open_recs {H : Type} {enc : TypeId × Value → H} {P : Program} {W : World} {base : Nat} {spare : Nat → Bool} {held : Bool} {t e : TypeId} {fs : Array Field} {a : Option Addr} {len cap : Nat} {d : DataW H} {p : List MemPlace}
    (ht : P.underlying t = some (.slice e)) (he : P.underlying e = some (.struct fs)) (hone : oneCellFields P fs = true) (hC : P.cellsOf e = fs.size) (h0 : 0 < fs.size)
    (hint : ∀ (j : Nat) (f : Field), fs[j]? = some f → P.underlying f.type = some (.int .i64)) (h : DataW.Trod enc P W base spare held t (.slice a len cap) d p) :
    len ≤ cap ∧ cap ≤ maxLen ∧ ((a = none ∧ len = 0 ∧ cap = 0) ∨ ∃ x, a = some x ∧ (0 < len → x.spot = none ∧ x.block < W.heap.size) ∧
      ∃ xs : Nat → Nat → Int, ∀ i, i < len → ∀ j, j < fs.size → W.cell? ⟨x.block, x.off + (i * fs.size + j), none⟩ = some (.int .i64 (xs i j)) ∧ (Lit.int .i64 (xs i j)).wf = true) := by
  obtain ⟨fuel, hf⟩ := h
  rcases open_slice_fields ht he hone hC hf with ⟨hcs, _⟩ | ⟨x, l, c, m, D, Pl, hcs, _, hl, hm, hmm, _, hi⟩
  · simp [Value.cells] at hcs
    obtain ⟨rfl, rfl, rfl⟩ := hcs
    exact ⟨Nat.le_refl _, Nat.zero_le _, .inl ⟨rfl, rfl, rfl⟩⟩
  · simp [Value.cells] at hcs
    obtain ⟨rfl, rfl, rfl⟩ := hcs
    have hlm : len ≤ m := by rw [hmm]; split <;> omega
    have key : ∀ i, i < len → ∀ j, j < fs.size → ∃ n : Int, W.cell? (x.add (i * fs.size + j)) = some (.int .i64 n) ∧ (Lit.int .i64 n).wf = true := fun i hil j hj => by
      obtain ⟨ys, n, _, _, _, hfj⟩ := hi i (by omega)
      obtain ⟨v, y, hc, _, ht'⟩ := hfj j (fs[j]'hj) (Array.getElem?_eq_getElem hj)
      obtain ⟨q, hv, _, hw⟩ := DataW.trod_int (hint j _ (Array.getElem?_eq_getElem hj)) ht'
      simp at hv
      exact ⟨q, by rw [hc, hv], hw⟩
    refine ⟨hl, hm, .inr ⟨x, rfl, fun hp => ?_, ?_⟩⟩
    · obtain ⟨n, hc, _⟩ := key 0 hp 0 h0
      have := cell_lt hc
      simp [Addr.add] at this
      exact ⟨this.2, this.1⟩
    · have key' : ∀ i j, ∃ n : Int, i < len → j < fs.size → W.cell? ⟨x.block, x.off + (i * fs.size + j), none⟩ = some (.int .i64 n) ∧ (Lit.int .i64 n).wf = true := fun i j => by
        by_cases hi' : i < len ∧ j < fs.size
        · obtain ⟨n, hc, hw⟩ := key i hi'.1 j hi'.2
          refine ⟨n, fun _ _ => ⟨?_, hw⟩⟩
          have hsp := (cell_lt hc).2
          unfold Addr.add at hc hsp
          split at hc
          · rename_i hz
            rw [if_pos hz] at hsp
            obtain ⟨xb, xo, xsp⟩ := x
            simp only at hsp
            subst hsp
            rw [hz]
            exact hc
          · exact hc
        · exact ⟨0, fun h1 h2 => (hi' ⟨h1, h2⟩).elim⟩
      refine ⟨fun i j => Classical.choose (key' i j), fun i hi' j hj => Classical.choose_spec (key' i j) hi' hj⟩

end Go.Proofs.Ytjokjbihkejagaa
