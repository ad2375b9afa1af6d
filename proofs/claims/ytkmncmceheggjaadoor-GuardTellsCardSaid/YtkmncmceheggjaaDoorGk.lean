/- What a round of Eval's loop turns: the stack's box, the stack's own row, nothing else that lay. No program's text. -/
import Derived.Test.YtkmncmceheggjaaDoorGh
import Derived.Test.YtkmncmceheggjaaDoorGi
import Derived.Maps.AppendAt
namespace Go.Proofs.YtkmncmceheggjaaDoor
open Go.RowKit Go.Shelf
set_option linter.unusedVariables false
set_option linter.unusedSimpArgs false

structure Turned (B S : Nat) (W W' : World) : Prop where
  os : W'.os = W.os
  tape : W'.tape = W.tape
  output : W'.output = W.output
  size : W.heap.size ≤ W'.heap.size
  same : ∀ (j : Nat) (o : Obj), W.heap[j]? = some o → j ≠ S → (j < B ∨ o.isCells = false) → W'.heap[j]? = some o

theorem Turned.refl (B S : Nat) (W : World) : Turned B S W W := ⟨rfl, rfl, rfl, Nat.le_refl _, fun _ _ h _ _ => h⟩
theorem Turned.trans {B S : Nat} {X Y Z : World} (h : Turned B S X Y) (k : Turned B S Y Z) : Turned B S X Z :=
  ⟨k.os.trans h.os, k.tape.trans h.tape, k.output.trans h.output, Nat.le_trans h.size k.size, fun j o hj hs hc => k.same j o (h.same j o hj hs hc) hs hc⟩
theorem Turned.below {B S : Nat} {X Y Z : World} (h : Turned B S X Y) (k : Below Y.heap.size Y Z) : Turned B S X Z :=
  h.trans ⟨k.os, k.tape, k.output, k.size, fun j o hj _ _ => (k.block j (Array.getElem?_eq_some_iff.1 hj).1).trans hj⟩
theorem Turned.alloc {B S : Nat} {X Y : World} (h : Turned B S X Y) (o : Obj) : Turned B S X (Y.alloc o) := h.below ((Below.refl _ _).alloc (Nat.le_refl _) o)
theorem Turned.drewN {B S : Nat} {X Y : World} (h : Turned B S X Y) (n : Nat) : Turned B S X (Y.drewN n) := ⟨h.os, h.tape, h.output, h.size, h.same⟩
theorem Turned.grown {B S : Nat} {X Y Z : World} (h : Turned B S X Y) {v : Value} {e : TypeId} {size n : Nat} {xs : List Value} (hg : Y.grownBy Z v.ownBlock) (hown : Y.ownsRow B e size v n xs) : Turned B S X Z :=
  h.trans ⟨hg.os, hg.tape, hg.output, hg.size, fun j o hj hs hc => by
    refine (hg.block j (Array.getElem?_eq_some_iff.1 hj).1 (fun he => ?_)).trans hj
    rcases hown.2 with ⟨rfl, _⟩ | ⟨g, cap, cur, rfl, hbg, hh, _⟩
    · simp [Value.ownBlock] at he
    · have : j = g := by simpa [Value.ownBlock] using he
      subst this
      rw [hh] at hj
      cases hj
      rcases hc with hc | hc
      · omega
      · cases hc⟩
theorem Turned.box {B S : Nat} {X Y : World} (h : Turned B S X Y) (u : Value) : Turned B S X (Y.setCell ⟨S, 0, none⟩ u) :=
  h.trans ⟨rfl, rfl, rfl, by simp, fun j o hj hs _ => (Below.heap_setCell Y ⟨S, 0, none⟩ u j hs).trans hj⟩
theorem Turned.keeps {B S : Nat} {X Y : World} (h : Turned B S X Y) (hS : S < B) : KeepsFrom B X Y := ⟨h.size, fun j o hB hj ho => h.same j o hj (by omega) (.inr ho)⟩
theorem Turned.kept {B S : Nat} {X Y : World} (h : Turned B S X Y) (hB : B ≤ X.heap.size) {bs : List Nat} (hb : ∀ j ∈ bs, j < B ∧ j ≠ S) : Kept bs X Y := fun j hj => by
  have hlt : j < X.heap.size := by have := (hb j hj).1; omega
  have h1 : X.heap[j]? = some X.heap[j] := Array.getElem?_eq_getElem hlt
  exact (h.same j _ h1 (hb j hj).2 (.inl (hb j hj).1)).trans h1.symm
theorem Turned.cell {B S : Nat} {X Y : World} (h : Turned B S X Y) (hB : B ≤ X.heap.size) {p : Addr} (hp : p.block < B ∧ p.block ≠ S) : Y.cell? p = X.cell? p :=
  (h.kept hB (bs := [p.block]) (by simpa using hp)).cell (by simp)
theorem Turned.belowW {B S : Nat} {w X Y : World} (h : Turned B S X Y) (hw : Below w.heap.size w X) (hB : B ≤ X.heap.size) (hS : w.heap.size ≤ S) (hSB : S < B) : Below w.heap.size w Y :=
  ⟨h.os.trans hw.os, h.tape.trans hw.tape, h.output.trans hw.output, Nat.le_trans hw.size h.size, fun j hj => (h.kept hB (bs := [j]) (by simp; omega) j (by simp)).trans (hw.block j hj)⟩

/-- what holds between two rounds -/
def EvI (names : List ByteArray) (vals : List Int) (L : List Wd) (w : World) (B S : Nat) (c0 c1 : Value) (t : TypeId) (k : Nat) (W : World) : Prop :=
  (∃ v, Boxed W S t v ∧ W.ownsRow B 3 1 v (evS names vals (L.drop (L.length - k))).length (icells (evS names vals (L.drop (L.length - k)))) ∧ True) ∧
  ((W.cell? ⟨w.heap.size, 0, none⟩ = some c0 ∧ W.cell? ⟨w.heap.size + 1, 0, none⟩ = some c1) ∧ (Below w.heap.size w W ∧ B ≤ W.heap.size))

theorem evI_own (names : List ByteArray) (vals : List Int) (L : List Wd) (w : World) (B S : Nat) (c0 c1 : Value) (t : TypeId) (hB : w.heap.size ≤ B) : OwnFrom B (EvI names vals L w B S c0 c1 t) :=
  OwnFrom.and (Own.from (holdsRow_own B S t 3 1 (fun k => (evS names vals (L.drop (L.length - k))).length) (fun k => icells (evS names vals (L.drop (L.length - k)))) (fun _ _ => True)) _)
    (OwnFrom.and (Own.from (fun s A B' row hs hg hr => ⟨cell_kept hs.1 hg hr, cell_kept hs.2 hg hr⟩) _) (OwnFrom.and (ownFrom_below (Nat.le_refl _) hB) (fun _ _ _ _ hs hg _ => Nat.le_trans hs hg.size)))

theorem evI_next {names : List ByteArray} {vals : List Int} {L : List Wd} {w : World} {B S : Nat} {c0 c1 : Value} {t : TypeId} {k : Nat} {W W' : World} {v : Value} (h : EvI names vals L w B S c0 c1 t k W) (hS : w.heap.size + 1 < S) (hSB : S < B)
    (ht : Turned B S W W') (hb : Boxed W' S t v) (hr : W'.ownsRow B 3 1 v (evS names vals (L.drop (L.length - (k + 1)))).length (icells (evS names vals (L.drop (L.length - (k + 1)))))) : EvI names vals L w B S c0 c1 t (k + 1) W' :=
  have hB := h.2.2.2
  ⟨⟨v, hb, hr, trivial⟩, ⟨(ht.cell hB (p := ⟨w.heap.size, 0, none⟩) ⟨by show w.heap.size < _; omega, by show w.heap.size ≠ _; omega⟩).trans h.2.1.1, (ht.cell hB (p := ⟨w.heap.size + 1, 0, none⟩) ⟨by show w.heap.size + 1 < _; omega, by show w.heap.size + 1 ≠ _; omega⟩).trans h.2.1.2⟩, ht.belowW h.2.2.1 hB (by omega) hSB, Nat.le_trans hB ht.size⟩

end Go.Proofs.YtkmncmceheggjaaDoor
