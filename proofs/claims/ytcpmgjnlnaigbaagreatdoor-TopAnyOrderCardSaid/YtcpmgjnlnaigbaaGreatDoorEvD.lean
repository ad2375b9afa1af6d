/- How the abstract machine's values and heap stand to the model's. -/
import Derived.Test.YtcpmgjnlnaigbaaGreatDoorEvC
set_option linter.unusedVariables false
set_option linter.unusedSimpArgs false
namespace Go.Ev
open Go

/-- of a name its block, and the room of a block that grew, in elements -/
abbrev Ren := Nat → Option (Nat × Nat)
def Ren.le (E E' : Ren) : Prop := ∀ n x, E n = some x → E' n = some x
theorem Ren.le_refl (E : Ren) : E.le E := fun _ _ h => h
theorem Ren.le_trans {E F G : Ren} (h : E.le F) (k : F.le G) : E.le G := fun n x hx => k n x (h n x hx)

mutual
def VR (E : Ren) : AV → Value → Prop
  | .bool b, v => v = .bool b
  | .int k n, v => v = .int k n
  | .str l, v => ∃ s, v = .string s ∧ bytesN s = l
  | .ptr none, v => v = .pointer none
  | .ptr (some p), v => ∃ b κ, E p.1 = some (b, κ) ∧ v = .pointer (some ⟨b, p.2, none⟩)
  | .slice none l c, v => v = .slice none l c
  | .slice (some p) l c, v => ∃ b κ, E p.1 = some (b, κ) ∧ v = .slice (some ⟨b, p.2, none⟩) l c
  | .gslice n o l eo mc, v => ∃ b κ, E n = some (b, κ) ∧ l ≤ mc ∧ eo + mc ≤ κ ∧ v = .slice (some ⟨b, o, none⟩) l (κ - eo)
  | .eslice, v => ∃ a c, v = .slice (some a) 0 c
  | .map none, v => v = .map none
  | .map (some n), v => ∃ b κ, E n = some (b, κ) ∧ v = .map (some b)
  | .func f x c, v => ∃ x' c', v = .func f x' c' ∧ VRL E x x'.toList ∧ VRL E c c'.toList
  | .nilFunc, v => v = .nilFunc
  | .iface t x, v => ∃ x', v = .iface t x' ∧ VR E x x'
  | .nilIface, v => v = .nilIface
  | .agg l, v => ∃ l', v = .agg l' ∧ VRL E l l'.toList
  | .tuple l, v => ∃ l', v = .tuple l' ∧ VRL E l l'.toList
def VRL (E : Ren) : List AV → List Value → Prop
  | [], l => l = []
  | x :: r, l => ∃ y s, l = y :: s ∧ VR E x y ∧ VRL E r s
end

mutual
theorem VR.mono {E E' : Ren} (h : E.le E') : ∀ (v : AV) (c : Value), VR E v c → VR E' v c
  | .bool _, _, hv => by simpa [VR] using hv
  | .int _ _, _, hv => by simpa [VR] using hv
  | .str _, _, hv => by simpa [VR] using hv
  | .ptr none, _, hv => by simpa [VR] using hv
  | .ptr (some p), _, hv => by simp only [VR] at *; obtain ⟨b, κ, he, hc⟩ := hv; exact ⟨b, κ, h _ _ he, hc⟩
  | .slice none _ _, _, hv => by simpa [VR] using hv
  | .slice (some p) _ _, _, hv => by simp only [VR] at *; obtain ⟨b, κ, he, hc⟩ := hv; exact ⟨b, κ, h _ _ he, hc⟩
  | .gslice .., _, hv => by simp only [VR] at *; obtain ⟨b, κ, he, hc⟩ := hv; exact ⟨b, κ, h _ _ he, hc⟩
  | .eslice, _, hv => by simpa [VR] using hv
  | .map none, _, hv => by simpa [VR] using hv
  | .map (some n), _, hv => by simp only [VR] at *; obtain ⟨b, κ, he, hc⟩ := hv; exact ⟨b, κ, h _ _ he, hc⟩
  | .func f x c, _, hv => by
    simp only [VR] at *
    obtain ⟨x', c', he, h1, h2⟩ := hv
    exact ⟨x', c', he, VRL.mono h _ _ h1, VRL.mono h _ _ h2⟩
  | .nilFunc, _, hv => by simpa [VR] using hv
  | .iface t x, _, hv => by
    simp only [VR] at *
    obtain ⟨x', he, h1⟩ := hv
    exact ⟨x', he, VR.mono h _ _ h1⟩
  | .nilIface, _, hv => by simpa [VR] using hv
  | .agg l, _, hv => by
    simp only [VR] at *
    obtain ⟨x', he, h1⟩ := hv
    exact ⟨x', he, VRL.mono h _ _ h1⟩
  | .tuple l, _, hv => by
    simp only [VR] at *
    obtain ⟨x', he, h1⟩ := hv
    exact ⟨x', he, VRL.mono h _ _ h1⟩
theorem VRL.mono {E E' : Ren} (h : E.le E') : ∀ (v : List AV) (c : List Value), VRL E v c → VRL E' v c
  | [], _, hv => by simpa [VRL] using hv
  | x :: r, _, hv => by
    simp only [VRL] at *
    obtain ⟨y, s, he, h1, h2⟩ := hv
    exact ⟨y, s, he, VR.mono h _ _ h1, VRL.mono h _ _ h2⟩
end

theorem VRL.length {E : Ren} : ∀ {l : List AV} {l' : List Value}, VRL E l l' → l'.length = l.length
  | [], _, h => by simp only [VRL] at h; rw [h]; rfl
  | x :: r, _, h => by
    simp only [VRL] at h
    obtain ⟨y, s, rfl, _, h2⟩ := h
    simp [VRL.length h2]
theorem VRL.get {E : Ren} : ∀ {l : List AV} {l' : List Value}, VRL E l l' → ∀ {i : Nat} {v : AV}, l[i]? = some v → ∃ v', l'[i]? = some v' ∧ VR E v v'
  | [], _, h, i, v, hi => by simp at hi
  | x :: r, _, h, i, v, hi => by
    simp only [VRL] at h
    obtain ⟨y, s, rfl, h1, h2⟩ := h
    cases i with
    | zero => simp at hi; subst hi; exact ⟨y, by simp, h1⟩
    | succ i => simp at hi; obtain ⟨v', hv, hr⟩ := VRL.get h2 hi; exact ⟨v', by simpa using hv, hr⟩
theorem VRL.of_get {E : Ren} : ∀ {l : List AV} {l' : List Value}, l'.length = l.length → (∀ (i : Nat) (v : AV) (v' : Value), l[i]? = some v → l'[i]? = some v' → VR E v v') → VRL E l l'
  | [], l', h, _ => by simp only [VRL]; simpa using h
  | x :: r, l', h, hg => by
    cases l' with
    | nil => simp at h
    | cons y s =>
      simp only [VRL]
      exact ⟨y, s, rfl, hg 0 x y (by simp) (by simp), VRL.of_get (by simpa using h) (fun i v v' h1 h2 => hg (i + 1) v v' (by simpa using h1) (by simpa using h2))⟩
theorem VRL.app {E : Ren} : ∀ {a : List AV} {a' : List Value} {b : List AV} {b' : List Value}, VRL E a a' → VRL E b b' → VRL E (a ++ b) (a' ++ b')
  | [], _, b, b', h, hb => by simp only [VRL] at h; subst h; exact hb
  | x :: r, _, b, b', h, hb => by
    simp only [VRL] at h
    obtain ⟨y, s, rfl, h1, h2⟩ := h
    simp only [List.cons_append, VRL]
    exact ⟨y, s ++ b', rfl, h1, VRL.app h2 hb⟩
theorem VRL.take {E : Ren} {a : List AV} {a' : List Value} (h : VRL E a a') (n : Nat) : VRL E (a.take n) (a'.take n) :=
  VRL.of_get (by simp [VRL.length h]) (fun i v v' h1 h2 => by
    rw [List.getElem?_take] at h1 h2
    split at h1
    · rename_i hlt
      rw [if_pos hlt] at h2
      obtain ⟨w, hw, hr⟩ := VRL.get h h1
      rw [hw] at h2
      cases h2
      exact hr
    · cases h1)
theorem VRL.drop {E : Ren} {a : List AV} {a' : List Value} (h : VRL E a a') (n : Nat) : VRL E (a.drop n) (a'.drop n) :=
  VRL.of_get (by simp [VRL.length h]) (fun i v v' h1 h2 => by
    rw [List.getElem?_drop] at h1 h2
    obtain ⟨w, hw, hr⟩ := VRL.get h h1
    rw [hw] at h2
    cases h2
    exact hr)
theorem VRL.cells {E : Ren} {v : AV} {c : Value} (h : VR E v c) : VRL E (cellsA v) c.cells.toList := by
  cases v with
  | agg l => simp only [VR] at h; obtain ⟨l', rfl, hl⟩ := h; simpa [cellsA, Value.cells] using hl
  | ptr a => cases a <;> simp only [VR] at h
             · subst h; simp [cellsA, Value.cells, VRL, VR]
             · obtain ⟨b, κ, he, rfl⟩ := h; simp only [cellsA, Value.cells, VRL]; exact ⟨_, [], rfl, by simp only [VR]; exact ⟨b, κ, he, rfl⟩, rfl⟩
  | slice a l c => cases a <;> simp only [VR] at h
                   · subst h; simp [cellsA, Value.cells, VRL, VR]
                   · obtain ⟨b, κ, he, rfl⟩ := h; simp only [cellsA, Value.cells, VRL]; exact ⟨_, [], rfl, by simp only [VR]; exact ⟨b, κ, he, rfl⟩, rfl⟩
  | gslice n o l eo mc => simp only [VR] at h; obtain ⟨b, κ, he, h1, h2, rfl⟩ := h; simp only [cellsA, Value.cells, VRL]; exact ⟨_, [], rfl, by simp only [VR]; exact ⟨b, κ, he, h1, h2, rfl⟩, rfl⟩
  | eslice => simp only [VR] at h; obtain ⟨a, c, rfl⟩ := h; simp only [cellsA, Value.cells, VRL]; exact ⟨_, [], rfl, by simp only [VR]; exact ⟨a, c, rfl⟩, rfl⟩
  | map a => cases a <;> simp only [VR] at h
             · subst h; simp [cellsA, Value.cells, VRL, VR]
             · obtain ⟨b, κ, he, rfl⟩ := h; simp only [cellsA, Value.cells, VRL]; exact ⟨_, [], rfl, by simp only [VR]; exact ⟨b, κ, he, rfl⟩, rfl⟩
  | bool b => simp only [VR] at h; subst h; simp [cellsA, Value.cells, VRL, VR]
  | int k n => simp only [VR] at h; subst h; simp [cellsA, Value.cells, VRL, VR]
  | str l => simp only [VR] at h; obtain ⟨s, rfl, hs⟩ := h; simp only [cellsA, Value.cells, VRL]; exact ⟨_, [], rfl, by simp only [VR]; exact ⟨s, rfl, hs⟩, rfl⟩
  | func f x c => simp only [VR] at h; obtain ⟨x', c', rfl, h1, h2⟩ := h; simp only [cellsA, Value.cells, VRL]; exact ⟨_, [], rfl, by simp only [VR]; exact ⟨x', c', rfl, h1, h2⟩, rfl⟩
  | nilFunc => simp only [VR] at h; subst h; simp [cellsA, Value.cells, VRL, VR]
  | iface t x => simp only [VR] at h; obtain ⟨x', rfl, h1⟩ := h; simp only [cellsA, Value.cells, VRL]; exact ⟨_, [], rfl, by simp only [VR]; exact ⟨x', rfl, h1⟩, rfl⟩
  | nilIface => simp only [VR] at h; subst h; simp [cellsA, Value.cells, VRL, VR]
  | tuple l => simp only [VR] at h; obtain ⟨x', rfl, h1⟩ := h; simp only [cellsA, Value.cells, VRL]; exact ⟨_, [], rfl, by simp only [VR]; exact ⟨x', rfl, h1⟩, rfl⟩

mutual
theorem absV_ok (E : Ren) : ∀ (v : Value) (a : AV), absV v = some a → VR E a v
  | .bool _, _, h => by simp only [absV, Option.some.injEq] at h; subst h; simp [VR]
  | .int _ _, _, h => by simp only [absV, Option.some.injEq] at h; subst h; simp [VR]
  | .string s, _, h => by simp only [absV, Option.some.injEq] at h; subst h; simp only [VR]; exact ⟨s, rfl, rfl⟩
  | .pointer none, _, h => by simp only [absV, Option.some.injEq] at h; subst h; simp [VR]
  | .slice none _ _, _, h => by simp only [absV, Option.some.injEq] at h; subst h; simp [VR]
  | .map none, _, h => by simp only [absV, Option.some.injEq] at h; subst h; simp [VR]
  | .nilFunc, _, h => by simp only [absV, Option.some.injEq] at h; subst h; simp [VR]
  | .nilIface, _, h => by simp only [absV, Option.some.injEq] at h; subst h; simp [VR]
  | .agg ⟨cs⟩, _, h => by
    simp only [absV, om_some] at h
    obtain ⟨l, hl, rfl⟩ := h
    simp only [VR]
    exact ⟨_, rfl, absVL_ok E cs l hl⟩
  | .tuple ⟨cs⟩, _, h => by
    simp only [absV, om_some] at h
    obtain ⟨l, hl, rfl⟩ := h
    simp only [VR]
    exact ⟨_, rfl, absVL_ok E cs l hl⟩
  | .func f ⟨[]⟩ ⟨[]⟩, _, h => by simp only [absV, Option.some.injEq] at h; subst h; simp only [VR]; exact ⟨_, _, rfl, by simp [VRL], by simp [VRL]⟩
  | .iface t v, _, h => by
    simp only [absV, om_some] at h
    obtain ⟨x, hx, rfl⟩ := h
    simp only [VR]
    exact ⟨_, rfl, absV_ok E v x hx⟩
  | .float _ _, _, h => by simp [absV] at h
  | .complex _ _ _, _, h => by simp [absV] at h
  | .pointer (some _), _, h => by simp [absV] at h
  | .slice (some _) _ _, _, h => by simp [absV] at h
  | .map (some _), _, h => by simp [absV] at h
  | .chan _, _, h => by simp [absV] at h
  | .func f ⟨x :: r⟩ _, _, h => by simp [absV] at h
  | .func f ⟨[]⟩ ⟨x :: r⟩, _, h => by simp [absV] at h
theorem absVL_ok (E : Ren) : ∀ (v : List Value) (a : List AV), absVL v = some a → VRL E a v
  | [], _, h => by simp only [absVL, Option.some.injEq] at h; subst h; simp [VRL]
  | v :: r, _, h => by
    simp only [absVL, ob_some, om_some] at h
    obtain ⟨x, hx, l, hl, rfl⟩ := h
    simp only [VRL]
    exact ⟨v, r, rfl, absV_ok E v x hx, absVL_ok E r l hl⟩
end

/-- what a map holds: entry for entry, in some order; no key twice -/
def MapR (E : Ren) (es : List (AV × AV)) (bs : List Nat) (arr : Array MapEntry) : Prop :=
  ∃ l : List MapEntry, l.Perm arr.toList ∧ l.length = es.length ∧ (∀ (i : Nat) (p : AV × AV) (e : MapEntry), es[i]? = some p → l[i]? = some e → VR E p.1 e.key ∧ VR E p.2 e.val) ∧ es.Pairwise (fun p q => keyEq p.1 q.1 = some false) ∧ (bs.length = es.length → bs = l.map (·.born))

/-- each entry has a stamp of its own, below the clock -/
def Born (arr : Array MapEntry) (clk : Nat) : Prop := (∀ x ∈ arr.toList, x.born < clk) ∧ (arr.toList.map (·.born)).Nodup

def OR (E : Ren) (κ : Nat) : AObj → Obj → Prop
  | .cells cs g ro, o => ∃ arr e fr, o = .cells arr e fr ∧ (∀ i v, cs.get i = some v → ∃ v', arr[i]? = some v' ∧ VR E v v') ∧
      (ro = false → ∀ i, i < arr.size → ¬ (fr.1 ≤ i ∧ i < fr.2)) ∧ (∀ sz top, g = some (sz, top) → (κ * sz ≤ arr.size ∧ (sz = 0 → (top / 1048576 = 0 ∨ e = top / 1048576) ∧ arr.size = top % 1048576)) ∧ ∀ i v, cs.get i = some v → i < top)
  | .map es c, o => ∃ arr clk, o = .map arr clk ∧ Born arr clk ∧ (c.bs.length = es.length → clk = c.clock) ∧ MapR E es c.bs arr
  | .mapIter none since seen st, o => o = .mapIter none since seen.toArray st
  | .mapIter (some n) since seen st, o => ∃ b κ, E n = some (b, κ) ∧ o = .mapIter (some b) since seen.toArray st
  | .dead, _ => True

theorem OR.mono {E E' : Ren} (h : E.le E') {κ : Nat} {a : AObj} {o : Obj} (ho : OR E κ a o) : OR E' κ a o := by
  cases a with
  | cells cs g ro =>
    obtain ⟨arr, e, fr, rfl, h1, h2, h3⟩ := ho
    exact ⟨arr, e, fr, rfl, fun i v hv => let ⟨v', a, b⟩ := h1 i v hv; ⟨v', a, VR.mono h _ _ b⟩, h2, h3⟩
  | map es c =>
    obtain ⟨arr, clk, rfl, hbn, hc, l, h1, h2, h3, h4⟩ := ho
    exact ⟨arr, clk, rfl, hbn, hc, l, h1, h2, fun i p e hp he => ⟨VR.mono h _ _ (h3 i p e hp he).1, VR.mono h _ _ (h3 i p e hp he).2⟩, h4⟩
  | mapIter m _ _ _ =>
    cases m with
    | none => exact ho
    | some n => obtain ⟨b, κ', he, ho⟩ := ho; exact ⟨b, κ', h _ _ he, ho⟩
  | dead => trivial

/-- the heap: each name that lives has its block, no two the same -/
structure MR (E : Ren) (A : AH) (w : World) : Prop where
  blk : ∀ n o, A.get n = some o → n < A.next ∧ ∃ b κ, E n = some (b, κ) ∧ ∃ ob', w.heap[b]? = some ob' ∧ OR E κ o ob'
  inj : ∀ n m o p b κ κ', A.get n = some o → A.get m = some p → o.live = true → p.live = true → E n = some (b, κ) → E m = some (b, κ') → n = m

/-- a block that the heap's owner may write -/
def Own (E : Ren) (A : AH) (b : Nat) : Prop := ∃ n o κ, A.get n = some o ∧ o.live = true ∧ o.ro = false ∧ E n = some (b, κ)

/-- what has not turned -/
structure Frm (E : Ren) (A : AH) (w w' : World) : Prop where
  os : w'.os = w.os
  tape : w'.tape = w.tape
  output : w'.output = w.output
  size : w.heap.size ≤ w'.heap.size
  block : ∀ b, b < w.heap.size → ¬ Own E A b → w'.heap[b]? = w.heap[b]?

/-- from one state to another -/
structure Stp (E : Ren) (A : AH) (w : World) (E' : Ren) (A' : AH) (w' : World) : Prop where
  le : E.le E'
  dom : ∀ n b κ, E' n = some (b, κ) → E n = some (b, κ) ∨ (A.next ≤ n ∧ n < A'.next ∧ (w.heap.size ≤ b ∨ Own E A b))
  frm : Frm E A w w'
  mr : MR E' A' w'
  nxt : A.next ≤ A'.next
  old : ∀ n o, n < A.next → A'.get n = some o → o.live = true → ∃ p, A.get n = some p ∧ p.live = true ∧ (o.ro = false → p.ro = false)

def Fresh (E : Ren) (A A' : AH) : Prop := ∀ n, A.next ≤ n → n < A'.next → E n = none

theorem Stp.refl {E : Ren} {A : AH} {w : World} (h : MR E A w) : Stp E A w E A w :=
  ⟨Ren.le_refl E, fun _ _ _ h => .inl h, ⟨rfl, rfl, rfl, Nat.le_refl _, fun _ _ _ => rfl⟩, h, Nat.le_refl _, fun n o _ ho hl => ⟨o, ho, hl, id⟩⟩

/-- who owns a block later that was there has owned it ahead -/
theorem Stp.own_back {E E' : Ren} {A A' : AH} {w w' : World} (s : Stp E A w E' A' w') (hF : Fresh E A A') {b : Nat} (hb : b < w.heap.size) (h : Own E' A' b) : Own E A b := by
  obtain ⟨n, o, κ, h1, h2, h3, h4⟩ := h
  rcases s.dom n b κ h4 with h5 | ⟨h5, h6, h7 | h7⟩
  · have hlt : n < A.next := by
      have := (s.mr.blk n o h1).1
      rcases Nat.lt_or_ge n A.next with h | h
      · exact h
      · rw [hF n h this] at h5; cases h5
    obtain ⟨p, hp, hl, hr⟩ := s.old n o hlt h1 h2
    exact ⟨n, p, κ, hp, hl, by rw [hr]; exact h3, h5⟩
  · omega
  · exact h7

theorem Stp.trans {E F G : Ren} {A B C : AH} {u v w : World} (s : Stp E A u F B v) (t : Stp F B v G C w) (hF : Fresh E A C) : Stp E A u G C w := by
  have hF1 : Fresh E A B := fun n h1 h2 => hF n h1 (Nat.lt_of_lt_of_le h2 t.nxt)
  refine ⟨Ren.le_trans s.le t.le, fun n b κ h => ?_, ⟨t.frm.os.trans s.frm.os, t.frm.tape.trans s.frm.tape, t.frm.output.trans s.frm.output, Nat.le_trans s.frm.size t.frm.size, fun b hb hn => ?_⟩, t.mr, Nat.le_trans s.nxt t.nxt, fun n o hn ho hl => ?_⟩
  · rcases t.dom n b κ h with h1 | ⟨h1, h2, h3⟩
    · rcases s.dom n b κ h1 with h4 | ⟨h4, h5, h6⟩
      · exact .inl h4
      · exact .inr ⟨h4, Nat.lt_of_lt_of_le h5 t.nxt, h6⟩
    · refine .inr ⟨Nat.le_trans s.nxt h1, h2, ?_⟩
      rcases h3 with h3 | h3
      · exact .inl (Nat.le_trans s.frm.size h3)
      · rcases Nat.lt_or_ge b u.heap.size with hb | hb
        · exact .inr (s.own_back hF1 hb h3)
        · exact .inl hb
  · rw [t.frm.block b (Nat.lt_of_lt_of_le hb s.frm.size) (fun h => hn (s.own_back hF1 hb h)), s.frm.block b hb hn]
  · obtain ⟨p, hp, hl', hr⟩ := t.old n o (Nat.lt_of_lt_of_le hn s.nxt) ho hl
    obtain ⟨q, hq, hl'', hr'⟩ := s.old n p hn hp hl'
    exact ⟨q, hq, hl'', fun h => hr' (hr h)⟩

theorem Fresh.left {E : Ren} {A B C : AH} (h : Fresh E A C) (hB : B.next ≤ C.next) : Fresh E A B := fun n h1 h2 => h n h1 (Nat.lt_of_lt_of_le h2 hB)
theorem Fresh.right {E F : Ren} {A B C : AH} {u v : World} (h : Fresh E A C) (s : Stp E A u F B v) : Fresh F B C := fun n h1 h2 => by
  cases hf : F n with
  | none => rfl
  | some x =>
    rcases s.dom n x.1 x.2 hf with h3 | ⟨_, h4, _⟩
    · rw [h n (Nat.le_trans s.nxt h1) h2] at h3; cases h3
    · omega

/-- what is drawn turns nothing -/
theorem MR.heap {E : Ren} {A : AH} {w w' : World} (h : MR E A w) (hh : w'.heap = w.heap) : MR E A w' := ⟨fun n o ho => by rw [hh]; exact h.blk n o ho, h.inj⟩
theorem Stp.draw {E F : Ren} {A B : AH} {u v v' : World} (s : Stp E A u F B v) (h1 : v'.heap = v.heap) (h2 : v'.os = v.os) (h3 : v'.tape = v.tape) (h4 : v'.output = v.output) : Stp E A u F B v' :=
  ⟨s.le, s.dom, ⟨h2.trans s.frm.os, h3.trans s.frm.tape, h4.trans s.frm.output, by rw [h1]; exact s.frm.size, fun b hb hn => by rw [h1]; exact s.frm.block b hb hn⟩, s.mr.heap h1, s.nxt, s.old⟩
theorem Stp.drawn {E F : Ren} {A B : AH} {u u' v : World} (s : Stp E A u F B v) (h1 : u.heap = u'.heap) (h2 : u.os = u'.os) (h3 : u.tape = u'.tape) (h4 : u.output = u'.output) : Stp E A u' F B v :=
  ⟨s.le, by rw [← h1]; exact s.dom, ⟨s.frm.os.trans h2, s.frm.tape.trans h3, s.frm.output.trans h4, by rw [← h1]; exact s.frm.size, fun b hb hn => by rw [← h1] at hb ⊢; exact s.frm.block b hb hn⟩, s.mr, s.nxt, s.old⟩

theorem Hp.get_put (o : Hp) (k n : Nat) (v : AObj) (hk : o.has k = true) : (o.put k v).get n = if n = k then some v else o.get n := by
  cases o with
  | t objs => exact get5_put5 _ _ _ _ (Nat.le_of_ble_eq_true hk)
  | f g =>
    show bc (Nat.beq n k) (some v) (g n) = if n = k then some v else g n
    by_cases h : n = k
    · subst h; rw [Nat.beq_refl, bc_true, if_pos rfl]
    · have : Nat.beq n k = false := by cases hb : Nat.beq n k; rfl; rw [Nat.beq_eq] at hb; exact absurd hb h
      rw [this, bc_false, if_neg h]
theorem Hp.has_put (o : Hp) (k n : Nat) (v : AObj) : (o.put k v).has n = o.has n := by cases o <;> rfl
theorem AH.get_push (h : AH) (o : AObj) (n : Nat) (hn : h.has = true) : (h.push o).get n = if n = h.next then some o else h.get n := Hp.get_put _ _ _ _ hn
theorem AH.get_set (h : AH) (m n : Nat) (o : AObj) (hm : h.objs.has m = true) : (h.set m o).get n = if n = m then some o else h.get n := Hp.get_put _ _ _ _ hm
theorem AH.get_lt (h : AH) (n : Nat) (o : AObj) (hg : h.get n = some o) : h.objs.has n = true := by
  obtain ⟨hp, nx⟩ := h
  cases hp with
  | f g => rfl
  | t objs =>
    show Nat.ble (n + 1) 32768 = true
    rw [Nat.ble_eq]
    rcases Nat.lt_or_ge n 32768 with h1 | h1
    · omega
    · have h2 : get5 objs n = some o := hg
      rw [get5_ge _ _ h1] at h2; cases h2
theorem AH.has_set (h : AH) (m : Nat) (o : AObj) : (h.set m o).has = h.has := Hp.has_put _ _ _ _

/-- E with one name more -/
def Ren.put (E : Ren) (n b κ : Nat) : Ren := fun m => if m = n then some (b, κ) else E m
theorem Ren.le_put {E : Ren} {n : Nat} (h : E n = none) (b κ : Nat) : E.le (E.put n b κ) := fun m x hx => by
  unfold Ren.put
  split
  · rename_i hm; subst hm; rw [h] at hx; cases hx
  · exact hx
theorem Ren.put_self (E : Ren) (n b κ : Nat) : E.put n b κ n = some (b, κ) := by simp [Ren.put]

/-- a new block -/
theorem Stp.push {E : Ren} {A : AH} {w w' : World} (h : MR E A w) (hn : E A.next = none) (htop : A.has = true) {o : AObj} {ob' : Obj} {κ : Nat}
    (ho : OR (E.put A.next w.heap.size κ) κ o ob') (hw : w'.heap = w.heap.push ob') (h2 : w'.os = w.os) (h3 : w'.tape = w.tape) (h4 : w'.output = w.output) : Stp E A w (E.put A.next w.heap.size κ) (A.push o) w' := by
  have hle := Ren.le_put hn w.heap.size κ
  have hlt : ∀ n p, A.get n = some p → n < A.next := fun n p hp => (h.blk n p hp).1
  have hb : ∀ n p b κ, A.get n = some p → E n = some (b, κ) → b < w.heap.size := fun n p b κ hp he => by
    obtain ⟨_, b', κ', he', ob1, hob, _⟩ := h.blk n p hp
    rw [he] at he'
    cases he'
    exact (Array.getElem?_eq_some_iff.1 hob).1
  refine ⟨hle, fun n b κ' hx => ?_, ⟨h2, h3, h4, by rw [hw]; simp, fun b hb' _ => by rw [hw, Array.getElem?_push, if_neg (by omega)]⟩, ⟨fun n p hp => ?_, fun n m p q b κ1 κ2 hp hq hl hl' he he' => ?_⟩, by show A.next ≤ A.next + 1; omega, fun n p hlt' hp hl => ?_⟩
  · unfold Ren.put at hx
    split at hx
    · rename_i hm; subst hm; cases hx; exact .inr ⟨Nat.le_refl _, by show A.next < A.next + 1; omega, .inl (Nat.le_refl _)⟩
    · exact .inl hx
  · rw [AH.get_push _ _ _ htop] at hp
    show n < A.next + 1 ∧ _
    split at hp
    · rename_i hm; subst hm; cases hp
      exact ⟨by omega, _, _, Ren.put_self _ _ _ _, ob', by rw [hw]; simp, ho⟩
    · obtain ⟨h5, b, κ', he, ob1, hob, hor⟩ := h.blk n p hp
      exact ⟨by omega, b, κ', hle _ _ he, ob1, by rw [hw, Array.getElem?_push, if_neg (by have := (Array.getElem?_eq_some_iff.1 hob).1; omega)]; exact hob, hor.mono hle⟩
  · rw [AH.get_push _ _ _ htop] at hp hq
    unfold Ren.put at he he'
    split at hp <;> split at hq
    · omega
    · rename_i h5 h6
      rw [if_pos h5] at he
      rw [if_neg h6] at he'
      cases he
      have := hb m q _ _ hq he'
      omega
    · rename_i h5 h6
      rw [if_neg h5] at he
      rw [if_pos h6] at he'
      cases he'
      have := hb n p _ _ hp he
      omega
    · rename_i h5 h6
      rw [if_neg h5] at he
      rw [if_neg h6] at he'
      exact h.inj n m p q b κ1 κ2 hp hq hl hl' he he'
  · rw [AH.get_push _ _ _ htop, if_neg (by omega)] at hp
    exact ⟨p, hp, hl, id⟩

/-- an own block turned -/
theorem Stp.set {E : Ren} {A : AH} {w w' : World} (h : MR E A w) {n b κ : Nat} {o p : AObj} {ob' : Obj} (hg : A.get n = some p) (hl : p.live = true) (hr : p.ro = false) (he : E n = some (b, κ)) (hro : o.ro = false)
    (ho : OR E κ o ob') (hw : w'.heap = w.heap.setIfInBounds b ob') (h2 : w'.os = w.os) (h3 : w'.tape = w.tape) (h4 : w'.output = w.output) : Stp E A w E (A.set n o) w' := by
  have hn := AH.get_lt _ _ _ hg
  have hbs : b < w.heap.size := by
    obtain ⟨_, b', κ', he', ob1, hob, _⟩ := h.blk n p hg
    rw [he] at he'
    cases he'
    exact (Array.getElem?_eq_some_iff.1 hob).1
  refine ⟨Ren.le_refl E, fun _ _ _ h => .inl h, ⟨h2, h3, h4, by rw [hw]; simp, fun b' hb' hown => ?_⟩, ⟨fun m q hq => ?_, fun m k q r b' κ1 κ2 hq hr' hl1 hl2 he1 he2 => ?_⟩, Nat.le_refl _, fun m q hm hq hlq => ?_⟩
  · rw [hw]
    rw [Array.getElem?_setIfInBounds_ne]
    rintro rfl
    exact hown ⟨n, p, κ, hg, hl, hr, he⟩
  · rw [AH.get_set _ _ _ _ hn] at hq
    split at hq
    · rename_i hm; subst hm; cases hq
      exact ⟨(h.blk m p hg).1, b, κ, he, ob', by rw [hw]; simp [hbs], ho⟩
    · rename_i hm
      obtain ⟨h5, b', κ', he', ob1, hob, hor⟩ := h.blk m q hq
      by_cases hb : b' = b
      · subst hb
        by_cases hlq : q.live = true
        · exact absurd (h.inj m n q p b' κ' κ hq hg hlq hl he' he) hm
        · refine ⟨h5, b', κ', he', ob', by rw [hw]; simp [hbs], ?_⟩
          cases q <;> first | trivial | (simp [AObj.live] at hlq)
      · exact ⟨h5, b', κ', he', ob1, by rw [hw, Array.getElem?_setIfInBounds_ne (fun e => hb e.symm)]; exact hob, hor⟩
  · rw [AH.get_set _ _ _ _ hn] at hq hr'
    have hx : ∀ (m : Nat) (q : AObj), (if m = n then some o else A.get m) = some q → q.live = true → ∃ q', A.get m = some q' ∧ q'.live = true := fun m q hq hl' => by
      split at hq
      · rename_i hm; subst hm; exact ⟨p, hg, hl⟩
      · exact ⟨q, hq, hl'⟩
    obtain ⟨q', hq', hlq'⟩ := hx m q hq hl1
    obtain ⟨r', hr'', hlr'⟩ := hx k r hr' hl2
    exact h.inj m k q' r' b' κ1 κ2 hq' hr'' hlq' hlr' he1 he2
  · rw [AH.get_set _ _ _ _ hn] at hq
    split at hq
    · rename_i hm'; subst hm'; cases hq; exact ⟨p, hg, hl, fun _ => hr⟩
    · exact ⟨q, hq, hlq, id⟩
end Go.Ev
