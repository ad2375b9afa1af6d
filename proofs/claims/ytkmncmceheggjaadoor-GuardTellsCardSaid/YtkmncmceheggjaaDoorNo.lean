/- What comes in, opened: strings, rows of strings, rows of whole numbers. -/
import Derived.Test.YtkmncmceheggjaaDoorGj
import Derived.WalkKit
import Derived.ProofKit
import Derived.OpenShut
import Derived.Below
import Derived.ChangeSame
import Derived.Deep.Slices
import Derived.Deep.Fields
import Derived.ChangeSlices
import Derived.ChangeOld
import Derived.Carry
set_option linter.unusedVariables false
set_option linter.unusedSimpArgs false
namespace Go.Proofs.YtkmncmceheggjaaDoor
open Go.RowKit Go.ChangeShapes Go.WideShapes Go.Deep
section
variable {H : Type} {enc : TypeId × Value → H} {W : World} {base : Nat} {spare : Nat → Bool} {held : Bool}
theorem addr_plus (b o i : Nat) : (⟨b, o, none⟩ : Addr).add i = ⟨b, o + i, none⟩ := by
  unfold Addr.add
  split
  · rename_i h; subst h; rfl
  · rfl
theorem cell_in {w : World} {a : Addr} {v : Value} (h : w.cell? a = some v) : a.block < w.heap.size ∧ a.spot = none := by
  unfold World.cell? at h
  split at h
  · rename_i hb
    refine ⟨?_, ?_⟩
    · have := Array.getElem?_eq_some_iff.1 hb
      exact this.1
    · by_cases hs : a.spot.isSome
      · simp [hs] at h
      · simpa using hs
  · cases h
/-- a slice of things of so many cells -/
theorem open_sl {P : Program} {t e : TypeId} {Z : Type} (R : Nat → Nat → Z → Prop) (sz : Nat) (z0 : Z) (hz : P.cellsOf e = sz) (hpos : 0 < sz)
    (one : ∀ (fuel : Nat) (cs : List Value) (x : DataW H × List MemPlace) (b o : Nat), DataW.trod enc P W base spare held fuel e cs = some x → (∀ i, i < sz → W.cell? ⟨b, o + i, none⟩ = cs[i]?) → ∃ z, R b o z)
    (ht : P.underlying t = some (.slice e)) {fuel : Nat} {v : Value} {x : DataW H × List MemPlace} (h : DataW.trod enc P W base spare held fuel t [v] = some x) :
    ∃ a n c, ∃ l : List Z, v = .slice a n c ∧ n ≤ c ∧ c ≤ maxLen ∧ l.length = n ∧ (n = 0 ∨ ∃ b o, a = some ⟨b, o, none⟩ ∧ b < W.heap.size ∧ ∀ j z, l[j]? = some z → R b (o + j * sz) z) := by
  rcases open_slice ht h with ⟨hcs, rfl⟩ | ⟨a, len, cap, m, n, D, Pl, hcs, _, hl, hm, hmm, rfl, hi⟩
  · cases hcs
    exact ⟨none, 0, 0, [], rfl, by omega, by unfold maxLen; omega, rfl, .inl rfl⟩
  · cases hcs
    have hlm : len ≤ m := by rw [hmm]; split <;> omega
    rw [hz] at hi
    by_cases h0 : len = 0
    · subst h0
      exact ⟨some a, 0, cap, [], rfl, by omega, hm, rfl, .inl rfl⟩
    · obtain ⟨cs0, hc0, ht0⟩ := hi 0 (by omega)
      obtain ⟨_, hcl0, hat0⟩ := World.cells?_some hc0
      have hx0 : ∃ v0, cs0[0]? = some v0 := ⟨_, List.getElem?_eq_getElem (by omega)⟩
      obtain ⟨v0, hv0⟩ := hx0
      have hq := (hat0 0 (by omega)).trans hv0
      obtain ⟨hb, hs⟩ := cell_in hq
      obtain ⟨ab, ao, asp⟩ := a
      have hsp : asp = none := by simpa [Addr.add] using hs
      subst hsp
      have hb' : ab < W.heap.size := by simpa [Addr.add] using hb
      have key : ∀ i, ∃ z : Z, i < len → R ab (ao + i * sz) z := fun i => by
        by_cases hil : i < len
        · obtain ⟨cs', hc, ht'⟩ := hi i (by omega)
          obtain ⟨_, hcl, hat⟩ := World.cells?_some hc
          obtain ⟨z, h1⟩ := one _ _ _ ab (ao + i * sz) ht' fun j hj => by
            have := hat j hj
            rw [addr_plus, addr_plus] at this
            exact this
          exact ⟨z, fun _ => h1⟩
        · exact ⟨z0, fun h => absurd h hil⟩
      obtain ⟨f, hf⟩ := Classical.axiomOfChoice key
      refine ⟨_, len, cap, (List.range len).map f, rfl, hl, hm, by simp, .inr ⟨ab, ao, rfl, hb', fun j z hj => ?_⟩⟩
      rw [List.getElem?_map, Option.map_eq_some_iff] at hj
      obtain ⟨j', hj', rfl⟩ := hj
      obtain ⟨hjl, rfl⟩ := List.getElem?_eq_some_iff.1 hj'
      simp only [List.getElem_range]
      exact hf j (by simpa using hjl)

theorem open_strs {fuel : Nat} {v : Value} {x : DataW H × List MemPlace} (h : DataW.trod enc Tryd.prog W base spare held fuel 23 [v] = some x) :
    ∃ a n c, ∃ l : List ByteArray, v = .slice a n c ∧ n ≤ c ∧ Strs W a n l := by
  obtain ⟨a, n, c, l, rfl, h1, h2, h3, h4⟩ := open_sl (Z := ByteArray) (fun b o z => W.cell? ⟨b, o, none⟩ = some (.string z)) 1 ⟨#[]⟩ (by kernel_rfl) (by omega) (fun fuel cs x b o h hc => by
    obtain ⟨s, rfl, _, _⟩ := DataW.trod_string Tryd.underlying9 h
    exact ⟨s, hc 0 (by omega)⟩) Tryd.underlying23 h
  refine ⟨a, n, c, l, rfl, h1, h3.symm, ?_⟩
  rcases h4 with h0 | ⟨b, o, rfl, hlt, hs⟩
  · exact .inl h0
  · refine .inr ⟨b, o, rfl, hlt, fun j hj => ?_⟩
    have := hs j l[j] (List.getElem?_eq_getElem hj)
    rw [Nat.mul_one] at this
    rw [this]
    simp [List.getD, hj]
theorem open_intsR {fuel : Nat} {v : Value} {x : DataW H × List MemPlace} (h : DataW.trod enc Tryd.prog W base spare held fuel 22 [v] = some x) :
    ∃ a n c, ∃ l : List Int, v = .slice a n c ∧ n ≤ c ∧ c ≤ maxLen ∧ (∀ z ∈ l, (Lit.int .i64 z).wf = true) ∧ Ints W a n l := by
  obtain ⟨a, n, c, l, rfl, h1, h2, h3, h4⟩ := open_sl (Z := { z : Int // (Lit.int .i64 z).wf = true }) (fun b o z => W.cell? ⟨b, o, none⟩ = some (.int .i64 z.1)) 1 ⟨0, rfl⟩ (by kernel_rfl) (by omega) (fun fuel cs x b o h hc => by
    obtain ⟨n, rfl, _, hw⟩ := DataW.trod_int Tryd.underlying3 h
    exact ⟨⟨n, hw⟩, hc 0 (by omega)⟩) Tryd.underlying22 h
  refine ⟨a, n, c, l.map (·.1), rfl, h1, h2, fun z hz => ?_, by simp [h3], ?_⟩
  · obtain ⟨y, _, rfl⟩ := List.mem_map.1 hz
    exact y.2
  rcases h4 with h0 | ⟨b, o, rfl, hlt, hs⟩
  · exact .inl h0
  · refine .inr ⟨b, o, rfl, hlt, fun j hj => ?_⟩
    rw [List.length_map] at hj
    have := hs j l[j] (List.getElem?_eq_getElem hj)
    rw [Nat.mul_one] at this
    rw [this]
    simp [List.getD, hj]
end
end Go.Proofs.YtkmncmceheggjaaDoor
