/- Scripts as bytes, plain; wire.Writer: what it writes. -/
import Derived.Below
import Derived.Laws.AppendOwn
import Derived.Laws.OwnMore
import Derived.Maps.AppendAt
import Derived.Lib.Builder
import Derived.Lib.UnsafeStr
import Derived.Lib.AppendStr
import Derived.WalkKit
import Derived.Test.YtekggipkfmleoaaGreatDoorProg
import Derived.WalkMore
import Derived.ScopeJumps
import Derived.Deep.AppendLies
import Derived.Deep.RegionLaw
import Derived.Laws.Append
import Derived.Lib.Hide
import Derived.Lib.SliceRun
import Derived.KernelRfl
set_option linter.unusedVariables false
set_option linter.unusedSimpArgs false
namespace Go.Proofs.YtekggipkfmleoaaGreatDoor
open Go.RowKit

structure OpT where
  kind : Int
  cas : ByteArray
  name : ByteArray
  n : Int
structure ItT where
  kind : Int
  client : Int
  node : Int
  n : Int
  lo : Int
  hi : Int
  group : Int
  ops : List OpT

/-- byte j of a number -/
def bN (n : Int) (j : Nat) : UInt8 := UInt8.ofNat (n / (2 : Int) ^ (8 * j) % 256).toNat
/-- the lowest k bytes of a number, the highest first -/
def beN (n : Int) (k : Nat) : List UInt8 := Nat.rec (motive := fun _ => List UInt8) [] (fun j ih => bN n j :: ih) k
theorem beN_succ (n : Int) (k : Nat) : beN n (k + 1) = bN n k :: beN n k := rfl
theorem beN_len (n : Int) (k : Nat) : (beN n k).length = k := by
  induction k with
  | zero => rfl
  | succ k ih => rw [beN_succ, List.length_cons, ih]
theorem bN_toNat (n : Int) (j : Nat) : ((bN n j).toNat : Int) = n / (2 : Int) ^ (8 * j) % 256 := by
  unfold bN
  have h0 : 0 ≤ n / (2 : Int) ^ (8 * j) % 256 := Int.emod_nonneg _ (by decide)
  have h1 : n / (2 : Int) ^ (8 * j) % 256 < 256 := Int.emod_lt_of_pos _ (by decide)
  rw [UInt8.toNat_ofNat', Nat.mod_eq_of_lt (by omega)]
  omega
def textB (s : ByteArray) : List UInt8 := beN s.size 4 ++ s.data.toList
def opB (o : OpT) : List UInt8 := beN o.kind 1 ++ (textB o.cas ++ (textB o.name ++ beN o.n 4))
def opsB (l : List OpT) : List UInt8 := l.flatMap opB
def nums (x : ItT) : List Int := [x.client, x.node, x.n, x.lo, x.hi, x.group]
def fours (l : List Int) : List UInt8 := l.flatMap fun n => beN n 4
def itB (x : ItT) : List UInt8 := beN x.kind 1 ++ (fours (nums x) ++ (beN x.ops.length 1 ++ opsB x.ops))
def itsB (l : List ItT) : List UInt8 := l.flatMap itB

def sm (n : Int) : Bool := decide (-2147483648 ≤ n ∧ n ≤ 2147483647)
def opOk (o : OpT) : Bool := decide (0 ≤ o.kind ∧ o.kind ≤ 255) && (decide (o.cas.size ≤ 255) && (decide (o.name.size ≤ 255) && sm o.n))
def itOk (x : ItT) : Bool := decide (1 ≤ x.kind ∧ x.kind ≤ 9) && (decide (x.ops.length ≤ 4) && ((nums x).all sm && x.ops.all opOk))

def OpAt (w : World) (b o : Nat) (x : OpT) : Prop :=
  w.cell? ⟨b, o, none⟩ = some (.int .i64 x.kind) ∧ w.cell? ⟨b, o + 1, none⟩ = some (.string x.cas) ∧ w.cell? ⟨b, o + 2, none⟩ = some (.string x.name) ∧ w.cell? ⟨b, o + 3, none⟩ = some (.int .i64 x.n)
def OpsAt (w : World) (v : Value) (l : List OpT) : Prop := ∃ a c, v = .slice a l.length c ∧ l.length ≤ c ∧ c ≤ maxLen ∧ (l.length = 0 ∨ ∃ b o, a = some ⟨b, o, none⟩ ∧ b < w.heap.size ∧ ∀ j x, l[j]? = some x → OpAt w b (o + j * 4) x)
def ItAt (w : World) (b o : Nat) (x : ItT) : Prop :=
  w.cell? ⟨b, o, none⟩ = some (.int .i64 x.kind) ∧ w.cell? ⟨b, o + 1, none⟩ = some (.int .i64 x.client) ∧ w.cell? ⟨b, o + 2, none⟩ = some (.int .i64 x.node) ∧ w.cell? ⟨b, o + 3, none⟩ = some (.int .i64 x.n) ∧
  w.cell? ⟨b, o + 4, none⟩ = some (.int .i64 x.lo) ∧ w.cell? ⟨b, o + 5, none⟩ = some (.int .i64 x.hi) ∧ w.cell? ⟨b, o + 6, none⟩ = some (.int .i64 x.group) ∧ ∃ v, w.cell? ⟨b, o + 7, none⟩ = some v ∧ OpsAt w v x.ops
def ItsAt (w : World) (v : Value) (l : List ItT) : Prop := ∃ a c, v = .slice a l.length c ∧ l.length ≤ c ∧ (l.length = 0 ∨ ∃ b o, a = some ⟨b, o, none⟩ ∧ b < w.heap.size ∧ ∀ j x, l[j]? = some x → ItAt w b (o + j * 8) x)

theorem OpAt.below {w w' : World} {B b o : Nat} {x : OpT} (h : OpAt w b o x) (hb : Below B w w') (hlt : b < B) : OpAt w' b o x := by
  obtain ⟨d0, d1, d2, d3⟩ := h
  have t : ∀ k, w'.cell? ⟨b, k, none⟩ = w.cell? ⟨b, k, none⟩ := fun k => hb.cell (p := ⟨b, k, none⟩) hlt
  exact ⟨(t _).trans d0, (t _).trans d1, (t _).trans d2, (t _).trans d3⟩
theorem OpsAt.below {w w' : World} {v : Value} {l : List OpT} (h : OpsAt w v l) (hb : Below w.heap.size w w') : OpsAt w' v l := by
  obtain ⟨a, c, rfl, h1, h2, h⟩ := h
  refine ⟨a, c, rfl, h1, h2, h.imp id ?_⟩
  rintro ⟨b, o, rfl, hlt, hs⟩
  exact ⟨b, o, rfl, Nat.lt_of_lt_of_le hlt hb.size, fun j x hj => (hs j x hj).below hb hlt⟩
theorem ItAt.below {w w' : World} {b o : Nat} {x : ItT} (h : ItAt w b o x) (hb : Below w.heap.size w w') (hlt : b < w.heap.size) : ItAt w' b o x := by
  obtain ⟨d0, d1, d2, d3, d4, d5, d6, v, d7, d8⟩ := h
  have t : ∀ k, w'.cell? ⟨b, k, none⟩ = w.cell? ⟨b, k, none⟩ := fun k => hb.cell (p := ⟨b, k, none⟩) hlt
  exact ⟨(t _).trans d0, (t _).trans d1, (t _).trans d2, (t _).trans d3, (t _).trans d4, (t _).trans d5, (t _).trans d6, v, (t _).trans d7, d8.below hb⟩
theorem ItsAt.below {w w' : World} {v : Value} {l : List ItT} (h : ItsAt w v l) (hb : Below w.heap.size w w') : ItsAt w' v l := by
  obtain ⟨a, c, rfl, h1, h⟩ := h
  refine ⟨a, c, rfl, h1, h.imp id ?_⟩
  rintro ⟨b, o, rfl, hlt, hs⟩
  exact ⟨b, o, rfl, Nat.lt_of_lt_of_le hlt hb.size, fun j x hj => (hs j x hj).below hb hlt⟩

theorem textB_len (s : ByteArray) : (textB s).length = s.size + 4 := by
  unfold textB
  rw [List.length_append, beN_len, Array.length_toList]
  show 4 + s.size = _
  omega
theorem opB_len (o : OpT) : (opB o).length = o.cas.size + o.name.size + 13 := by
  unfold opB
  simp only [List.length_append, beN_len, textB_len]
  omega
theorem opOk_len {o : OpT} (h : opOk o = true) : (opB o).length ≤ 523 := by
  unfold opOk at h
  simp only [Bool.and_eq_true, decide_eq_true_eq] at h
  rw [opB_len]
  omega
theorem opsB_len : ∀ l : List OpT, l.all opOk = true → (opsB l).length ≤ 523 * l.length
  | [], _ => by simp [opsB]
  | o :: r, h => by
    rw [List.all_cons, Bool.and_eq_true] at h
    have := opsB_len r h.2
    have := opOk_len h.1
    unfold opsB at *
    rw [List.flatMap_cons, List.length_append, List.length_cons]
    omega
theorem fours_len (l : List Int) : (fours l).length = 4 * l.length := by
  unfold fours
  induction l with
  | nil => rfl
  | cons a r ih => rw [List.flatMap_cons, List.length_append, beN_len, ih, List.length_cons]; omega
theorem itB_len {x : ItT} (h : itOk x = true) : (itB x).length ≤ 2118 := by
  unfold itOk at h
  simp only [Bool.and_eq_true, decide_eq_true_eq] at h
  have := opsB_len x.ops h.2.2.2
  unfold itB
  simp only [List.length_append, beN_len, fours_len]
  have : (nums x).length = 6 := rfl
  omega
theorem itsB_len : ∀ l : List ItT, l.all itOk = true → (itsB l).length ≤ 2118 * l.length
  | [], _ => by simp [itsB]
  | x :: r, h => by
    rw [List.all_cons, Bool.and_eq_true] at h
    have := itsB_len r h.2
    have := itB_len h.1
    unfold itsB at *
    rw [List.flatMap_cons, List.length_append, List.length_cons]
    omega

/-! ### a block whose one cell holds a slice that is owned: bytes in the making -/
def WrAt (T e : TypeId) (B b : Nat) (v : Value) (bs : List UInt8) (W : World) : Prop :=
  B ≤ b ∧ W.heap[b]? = some (.cells #[v] T (0, 0)) ∧ W.ownsRow B e 1 v bs.length (Lib.byteCells bs) ∧ v.ownBlock ≠ some b
/-- what writing leaves: all but that block and the slice's own -/
structure WrStep (b : Nat) (v v' : Value) (w w' : World) : Prop where
  os : w'.os = w.os
  tape : w'.tape = w.tape
  output : w'.output = w.output
  size : w.heap.size ≤ w'.heap.size
  block : ∀ k, k < w.heap.size → k ≠ b → v.ownBlock ≠ some k → w'.heap[k]? = w.heap[k]?
  own : v'.ownBlock = v.ownBlock ∨ ∃ g, v'.ownBlock = some g ∧ w.heap.size ≤ g
theorem WrStep.refl (b : Nat) (v : Value) (w : World) : WrStep b v v w w := ⟨rfl, rfl, rfl, Nat.le_refl _, fun _ _ _ _ => rfl, .inl rfl⟩
theorem WrStep.trans {b : Nat} {v v1 v2 : Value} {w w1 w2 : World} (h : WrStep b v v1 w w1) (k : WrStep b v1 v2 w1 w2) : WrStep b v v2 w w2 := by
  refine ⟨k.os.trans h.os, k.tape.trans h.tape, k.output.trans h.output, Nat.le_trans h.size k.size, fun i hi hb hv => ?_, ?_⟩
  · refine (k.block i (Nat.lt_of_lt_of_le hi h.size) hb ?_).trans (h.block i hi hb hv)
    rcases h.own with e | ⟨g, e, hg⟩
    · rw [e]; exact hv
    · rw [e]; intro e'; cases e'; omega
  · rcases k.own with e | ⟨g, e, hg⟩
    · rcases h.own with e' | ⟨g', e', hg'⟩
      · exact .inl (e.trans e')
      · exact .inr ⟨g', e.trans e', hg'⟩
    · exact .inr ⟨g, e, Nat.le_trans h.size hg⟩
theorem ownBlock_ge {T e : TypeId} {B b : Nat} {v : Value} {bs : List UInt8} {W : World} (h : WrAt T e B b v bs W) : ∀ k, v.ownBlock = some k → B ≤ k ∧ k < W.heap.size := by
  obtain ⟨_, _, ⟨_, h0 | ⟨g, cap, cur, rfl, hg, hh, _⟩⟩, _⟩ := h
  · rintro k hk; rw [h0.1] at hk; cases hk
  · rintro k hk; cases hk
    exact ⟨hg, (Array.getElem?_eq_some_iff.1 hh).1⟩
theorem WrStep.below {T e : TypeId} {B b : Nat} {v v' : Value} {bs : List UInt8} {w w' : World} (h : WrStep b v v' w w') (hw : WrAt T e B b v bs w) (hB : B ≤ w.heap.size) : Below B w w' :=
  ⟨h.os, h.tape, h.output, h.size, fun k hk => h.block k (by omega) (by have := hw.1; omega) (fun hv => by have := (ownBlock_ge hw k hv).1; omega)⟩
/-- what writing does not touch stays untouched -/
theorem WrStep.apart {b k : Nat} {v v' : Value} {w w' : World} (h : WrStep b v v' w w') (hk : k < w.heap.size) (ha : v.ownBlock ≠ some k) : v'.ownBlock ≠ some k := by
  rcases h.own with e | ⟨g, e, hg⟩
  · rw [e]; exact ha
  · rw [e]; intro e'; cases e'; omega
/-- memory that is made beside it -/
theorem WrAt.below {T e : TypeId} {B b : Nat} {v : Value} {bs : List UInt8} {w w' : World} (h : WrAt T e B b v bs w) (hb : Below w.heap.size w w') : WrAt T e B b v bs w' := by
  obtain ⟨h1, h2, ⟨hl, h3⟩, h4⟩ := h
  have hlt : b < w.heap.size := (Array.getElem?_eq_some_iff.1 h2).1
  refine ⟨h1, (hb.block b hlt).trans h2, ⟨hl, h3.imp id ?_⟩, h4⟩
  rintro ⟨g, cap, cur, hv, hbg, hh, r⟩
  exact ⟨g, cap, cur, hv, hbg, (hb.block g (Array.getElem?_eq_some_iff.1 hh).1).trans hh, r⟩
theorem WrAt.fresh {T e : TypeId} (w : World) : WrAt T e w.heap.size w.heap.size (.slice none 0 0) [] (w.alloc (.cells #[.slice none 0 0] T)) :=
  ⟨Nat.le_refl _, heap_alloc_new w _, ⟨rfl, .inl ⟨rfl, rfl⟩⟩, by simp [Value.ownBlock]⟩
/-- a new slice laid into the block -/
theorem WrAt.set {T e : TypeId} {B b : Nat} {v v' : Value} {bs : List UInt8} {w : World} (hB : B ≤ b) (hb : w.heap[b]? = some (.cells #[v] T (0, 0))) (hown : w.ownsRow B e 1 v' bs.length (Lib.byteCells bs)) (hTe : T ≠ e) :
    WrAt T e B b v' bs (w.setCell ⟨b, 0, none⟩ v') := by
  have hne := Lib.ownBlock_ne hown hb hTe
  refine ⟨hB, ?_, ?_, hne⟩
  · simp [World.setCell, Array.getElem?_modify, hb]
  · exact hown.kept (row := some b) ⟨rfl, rfl, rfl, by simp [World.setCell], fun k _ hk => Below.heap_setCell _ _ _ _ (fun e => hk (by simp [e]))⟩ (Or.inr hne)
theorem WrStep.alloc (b : Nat) (v : Value) (w : World) (o : Obj) : WrStep b v v w (w.alloc o) := ⟨rfl, rfl, rfl, by simp, fun k hk _ _ => Below.heap_alloc w o k hk, .inl rfl⟩
theorem WrStep.drew {b : Nat} {v v' : Value} {w w' : World} (h : WrStep b v v' w w') : WrStep b v v' w w'.drew := h.trans ⟨rfl, rfl, rfl, Nat.le_refl _, fun _ _ _ _ => rfl, .inl rfl⟩
theorem WrStep.grown {b : Nat} {v v' u : Value} {w w1 : World} (hg : w.grownBy w1 v.ownBlock) (hat : v'.ownBlock = v.ownBlock ∨ ∃ g, v'.ownBlock = some g ∧ w.heap.size ≤ g) : WrStep b v v' w (w1.setCell ⟨b, 0, none⟩ u) :=
  ⟨hg.os, hg.tape, hg.output, by simpa [World.setCell] using hg.size, fun k hk hb hv => (Below.heap_setCell _ _ _ _ hb).trans (hg.block k hk (fun e => hv e.symm)), hat⟩
/-- bytes that lie somewhere -/
def ByAt (w : World) (v : Value) (bs : List UInt8) : Prop := ∃ a c, v = .slice a bs.length c ∧ ((a = none ∧ bs = []) ∨ ∃ g o, a = some ⟨g, o, none⟩ ∧ ∀ j x, bs[j]? = some x → w.cell? ⟨g, o + j, none⟩ = some (.int .u8 (x.toNat : Int)))
theorem ByAt.of_own {w : World} {B : Nat} {e : TypeId} {v : Value} {bs : List UInt8} (h : w.ownsRow B e 1 v bs.length (Lib.byteCells bs)) : ByAt w v bs := by
  obtain ⟨hl, ⟨rfl, h0⟩ | ⟨g, cap, cur, rfl, hg, hh, h1, h2, h3, h4⟩⟩ := h
  · have : bs = [] := List.eq_nil_of_length_eq_zero h0
    subst this
    exact ⟨none, 0, rfl, .inl ⟨rfl, rfl⟩⟩
  · refine ⟨_, cap, rfl, .inr ⟨g, 0, rfl, fun j x hj => ?_⟩⟩
    have ho : w.ownsRow B e 1 (.slice (some ⟨g, 0, none⟩) bs.length cap) bs.length (Lib.byteCells bs) := ⟨hl, .inr ⟨g, cap, cur, rfl, hg, hh, h1, h2, h3, h4⟩⟩
    have := ho.cells (g := g) rfl j (.int .u8 (x.toNat : Int)) (by unfold Lib.byteCells; rw [List.getElem?_map, hj]; rfl)
    have e : (⟨g, 0, none⟩ : Addr).add j = ⟨g, 0 + j, none⟩ := by
      unfold Addr.add
      split
      · rename_i h; subst h; rfl
      · rfl
    rw [e] at this
    exact this
theorem ByAt.below {w w' : World} {v : Value} {bs : List UInt8} (h : ByAt w v bs) (hb : Below w.heap.size w w') : ByAt w' v bs := by
  obtain ⟨a, c, rfl, h⟩ := h
  refine ⟨a, c, rfl, h.imp id ?_⟩
  rintro ⟨g, o, rfl, hs⟩
  refine ⟨g, o, rfl, fun j x hj => ?_⟩
  have h1 := hs j x hj
  have hlt : g < w.heap.size := World.block_lt_of_cell? w _ h1
  exact (hb.cell (p := ⟨g, o + j, none⟩) hlt).trans h1
theorem beN_wrap (n : Int) (k : Nat) (hk : k ≤ 4) : beN (IntKind.u64.wrap n) k = beN n k := by
  have key : ∀ j, j < 4 → bN (IntKind.u64.wrap n) j = bN n j := fun j hj => by
    apply UInt8.toNat.inj
    have h1 := bN_toNat (IntKind.u64.wrap n) j
    have h2 := bN_toNat n j
    rw [IntKind.wrap_u64] at h1
    have : j = 0 ∨ j = 1 ∨ j = 2 ∨ j = 3 := by omega
    rw [IntKind.wrap_u64]
    rcases this with rfl | rfl | rfl | rfl
    all_goals
      simp at h1 h2 ⊢
      omega
  induction k with
  | zero => rfl
  | succ k ih => rw [beN_succ, beN_succ, key k (by omega), ih (by omega)]
end Go.Proofs.YtekggipkfmleoaaGreatDoor

namespace Go.Proofs.YtekggipkfmleoaaGreatDoor
open Go.RowKit

section
variable {P : Program} {a : Act} {w : World} {Q : Exit → Act → World → Prop}
/-- A scope with one label that is jumped back to, where its own begin comes to the label as a jump would. -/
theorem wp_scope_jumps1 {c r0 : Code} (l : Nat) (J : Act → World → Prop) (μ : Act → World → Nat) (h0 : findLabel c l = some (Code.skip.seq r0))
    (pass : ∀ a w, J a w → r0.wp P (Exit.jump l (fun a' w' => J a' w' ∧ μ a' w' < μ a w) Q) a w)
    (first : (∀ a w, J a w → r0.wp P (Exit.jump l J Q) a w) → c.wp P (Exit.jump l J Q) a w) : (Code.scope c).wp P Q a w :=
  wp_scope_jumps l J μ h0 (first fun a w h => Code.wp_mono (fun e a' w' hq => by
    cases e with
    | goto l' => exact ⟨hq.1, hq.2.1⟩
    | normal => exact hq
    | exit id => exact hq
    | ret => exact hq
    | panic ch => exact hq
    | outgrown => exact hq) (pass a w h)) (fun a w h => wp_seq (wp_skip (pass a w h)))
end

theorem wrInfoB : (Tryz.prog.info? 5).map (fun i => (i.zero, i.size, i.bytes)) = some (some (.int .u8 0), 1, 1) := by kernel_rfl
abbrev WrA (B b : Nat) (v : Value) (bs : List UInt8) (w : World) : Prop := WrAt 329 5 B b v bs w

def PJ (b B : Nat) (n : Int) (k : Nat) (v : Value) (bs : List UInt8) (w : World) (a' : Act) (w' : World) : Prop :=
  ∃ (j : Nat) (v1 : Value) (bs1 : List UInt8) (u3 u4 u5 u7 u8 u9 u10 u11 u12 u13 u14 u15 u16 u17 u18 u19 u20 u21 u22 u23 u24 u25 : Value), a' = { tmps := #[.pointer (some ⟨b, 0, none⟩), .int .u64 n, .int .i64 k, u3, u4, u5, .int .i64 j, u7, u8, u9, u10, u11, u12, u13, u14, u15, u16, u17, u18, u19, u20, u21, u22, u23, u24, u25], defers := [] } ∧ j ≤ k ∧
    bs1 ++ beN n j = bs ++ beN n k ∧ WrA B b v1 bs1 w' ∧ WrStep b v v1 w w'

set_option maxHeartbeats 2000000 in
set_option maxRecDepth 100000 in
theorem put_any (B b : Nat) (v : Value) (bs : List UInt8) (n : Int) (k : Nat) (w : World) (h : WrA B b v bs w) (hk : k ≤ 8) (hlen : bs.length + k ≤ 1099511627776) (hB : B ≤ w.heap.size) :
    Calls Tryz.prog 212 #[.pointer (some ⟨b, 0, none⟩), .int .u64 n, .int .i64 k] w fun e w' => e = .returned (.tuple #[]) ∧ ∃ v', WrA B b v' (bs ++ beN n k) w' ∧ WrStep b v v' w w' := by
  obtain ⟨i0, hi, hz0, hz1, hz2⟩ := info_parts wrInfoB
  have HW := Lib.hid h; clear h
  go_enter Tryz.func212, Tryz.ntmps212
  go_wp2
  refine wp_scope_jumps1 0 (PJ b B n k v bs w) (fun a' _ => (intOf (a'.tmps.getD 6 undef)).toNat) rfl ?_ ?_
  · rintro a' w' ⟨j, v1, bs1, u3, u4, u5, u7, u8, u9, u10, u11, u12, u13, u14, u15, u16, u17, u18, u19, u20, u21, u22, u23, u24, u25, rfl, hj, hbs, hat, hst⟩
    have Hbs := Lib.hid hbs; clear hbs
    have hl1 : bs1.length + j = bs.length + k := by
      have := congrArg List.length Hbs.out
      simpa [beN_len] using this
    have Hl := Lib.hid hl1
    have hl2 : bs1.length + j ≤ 1099511627776 := by omega
    clear hl1
    cases j with
    | zero =>
      go_wp2
      simp only [Exit.jump]
      refine bodyPost_ret (results_none rfl _ _ _) rfl ?_
      refine ⟨rfl, v1, ?_, hst⟩
      have := Hbs.out
      rw [show beN n 0 = [] from rfl, List.append_nil] at this
      rw [← this]
      exact hat
    | succ j =>
      have hwj : IntKind.i64.wrap (8 * (j : Int)) = 8 * (j : Int) := by rw [IntKind.wrap_i64]; omega
      have hs1 := hst.size
      obtain ⟨hBb, hbk, hown, hne⟩ := hat
      have c0 : w'.cell? ⟨b, 0, none⟩ = some v1 := by rw [Lib.cell_of_heap hbk]; rfl
      have f0 : w'.frozen? ⟨b, 0, none⟩ = false := Lib.frozen_of_heap hbk 0
      have Hbk := Lib.hid hbk; clear hbk
      have Hne := Lib.hid hne; clear hne
      have hblt : b < w'.heap.size := (Array.getElem?_eq_some_iff.1 Hbk.out).1
      obtain ⟨c, hc⟩ : ∃ c, IntKind.u8.wrap (n / 2 ^ (8 * (j : Int)).toNat) = c := ⟨_, rfl⟩
      have hcb : c = ((bN n j).toNat : Int) := by
        rw [← hc, bN_toNat, IntKind.wrap_u8, show (8 * (j : Int)).toNat = 8 * j by omega]
      have Hcb := Lib.hid hcb; clear hcb
      have hA : Below w'.heap.size w' (w'.alloc (.cells #[.int .u8 c] 5)).drew := ((Below.refl _ _).alloc (Nat.le_refl _) _).drew
      have c0a : (w'.alloc (.cells #[.int .u8 c] 5)).cell? ⟨b, 0, none⟩ = some v1 := (hA.cell (p := ⟨b, 0, none⟩) hblt).trans c0
      have hbk2 : (w'.alloc (.cells #[.int .u8 c] 5)).drew.heap[b]? = some (.cells #[v1] 329 (0, 0)) := (hA.block b hblt).trans Hbk.out
      have Hbk2 := Lib.hid hbk2; clear hbk2 hA
      go_wp2
      go_region_law (refine step_append_lies _ (by rfl) _ _ _ (by rfl) B 5 i0 _ 1 1 (by kernel_rfl) hi hz0 hz1 hz2 rfl (by omega) v1 bs1.length (Lib.byteCells bs1) (by rfl) (hown.alloc _) ⟨w'.heap.size, 0, none⟩ 1 1 [.int .u8 c] (by rfl) (by rfl) (World.news_of_block (cs := #[.int .u8 c]) (t := 5) (fr := (0, 0)) (heap_alloc_new w' _)) (by simp [Value.oneCell']) (by omega) (by unfold maxLen; omega) (by omega) (by show B ≤ (w'.alloc _).heap.size; simp; omega) (w'.heap.size + 1) (by simp) ?_; (intro g cap w1 hown2 hgrow hat2 hlt2); (have hbk3 := (hgrow.block b (by show b < (w'.alloc _).heap.size; simp; omega) (fun e => Hne.out e.symm)).trans Hbk2.out); (have f1 : w1.frozen? ⟨b, 0, none⟩ = false := Lib.frozen_of_heap hbk3 0); (have c1 : w1.cell? ⟨b, 0, none⟩ = some v1 := by rw [Lib.cell_of_heap hbk3]; rfl); (have Hbk3 := Lib.hid hbk3); clear hbk3)
      all_goals
        go_wp2
        go_step3
        refine ⟨rfl, ⟨j, .slice (some ⟨g, 0, none⟩) (bs1.length + 1) cap, bs1 ++ [bN n j], _, _, _, _, _, _, _, _, _, _, _, _, _, _, _, _, _, _, _, _, _, _, rfl, by omega, ?_, ?_, ?_⟩, ?_⟩
        · rw [List.append_assoc, List.singleton_append, ← beN_succ]; exact Hbs.out
        · refine WrAt.set hBb Hbk3.out ?_ (by decide)
          rw [List.length_append, Lib.byteCells_append]
          rw [Hcb.out] at hown2
          exact hown2
        · refine hst.trans ((WrStep.alloc b v1 w' _).drew.trans (WrStep.grown hgrow ?_))
          rcases hat2 with h2 | h2
          · exact .inl h2.symm
          · exact .inr ⟨g, rfl, by rw [h2]; show (w'.alloc _).heap.size ≤ _; simp⟩
        · simp [intOf]
  · intro hp
    go_wp2
    go_step3
    simp only [Exit.then]
    rename_i K hK
    refine hK _ _ (hp _ _ ?_)
    exact ⟨k, v, bs, _, _, _, _, _, _, _, _, _, _, _, _, _, _, _, _, _, _, _, _, _, _, rfl, Nat.le_refl _, rfl, HW.out, WrStep.refl _ _ _⟩

theorem byte_any (B b : Nat) (v : Value) (bs : List UInt8) (n : Int) (w : World) (h : WrA B b v bs w) (hlen : bs.length + 1 ≤ 1099511627776) (hB : B ≤ w.heap.size) :
    Calls Tryz.prog 146 #[.pointer (some ⟨b, 0, none⟩), .int .i64 n] w fun e w' => e = .returned (.tuple #[]) ∧ ∃ v', WrA B b v' (bs ++ beN n 1) w' ∧ WrStep b v v' w w' := by
  have e := beN_wrap n 1 (by omega)
  have HW := Lib.hid h; clear h
  have He := Lib.hid e; clear e
  go_enter Tryz.func146, Tryz.ntmps146
  go_wp2_with (fail)
  refine (put_any B b v bs _ 1 w HW.out (by omega) hlen hB).mono ?_
  rintro e w' ⟨rfl, v', h1, h2⟩
  rw [He.out] at h1
  go_wp2_with (fail)
  go_end0
  exact ⟨rfl, v', h1, h2⟩
theorem four_any (B b : Nat) (v : Value) (bs : List UInt8) (n : Int) (w : World) (h : WrA B b v bs w) (hlen : bs.length + 4 ≤ 1099511627776) (hB : B ≤ w.heap.size) :
    Calls Tryz.prog 147 #[.pointer (some ⟨b, 0, none⟩), .int .i64 n] w fun e w' => e = .returned (.tuple #[]) ∧ ∃ v', WrA B b v' (bs ++ beN n 4) w' ∧ WrStep b v v' w w' := by
  have e := beN_wrap n 4 (by omega)
  have HW := Lib.hid h; clear h
  have He := Lib.hid e; clear e
  go_enter Tryz.func147, Tryz.ntmps147
  go_wp2_with (fail)
  refine (put_any B b v bs _ 4 w HW.out (by omega) hlen hB).mono ?_
  rintro e w' ⟨rfl, v', h1, h2⟩
  rw [He.out] at h1
  go_wp2_with (fail)
  go_end0
  exact ⟨rfl, v', h1, h2⟩

section
variable {P : Program} (w : World)
/-- a text's bytes behind what is owned: and where the new slice lies -/
theorem run_append_str (base : Nat) (t u ty e : TypeId) (i : TypeInfo) (ht : P.underlying t = some (.slice e)) (hu : P.underlying u = some .string) (hi : P.info? e = some i) (hz : i.zero = some (.int .u8 0))
    (hsize : i.size = 1) (hby : i.bytes = 1) (v : Value) (n : Nat) (xs : List Value) (hown : w.ownsRow base e 1 v n xs) (s : ByteArray) (h63 : n + s.size ≤ maxLen) (hbytes : n + s.size ≤ 140737488355328) (hbase : base ≤ w.heap.size) :
    ∃ v' w', (Builtin.append_ #[t, u] ty #[v, .string s]).run P w = .ok v' w' ∧ w'.ownsRow base e 1 v' (n + s.size) (xs ++ Lib.strCells s) ∧ w.grownBy w' v.ownBlock ∧ (v'.ownBlock = v.ownBlock ∨ ∃ g, v'.ownBlock = some g ∧ w.heap.size ≤ g) := by
  obtain ⟨v', w', hr, h2, h3, h4⟩ := Lib.run_append_own_string (P := P) w base t u ty e i ht hu hi hz hsize hby v n xs hown s h63 hbytes hbase
  refine ⟨v', w', hr, h2, h3, ?_⟩
  have hxl : xs.length = n := by simpa using hown.1
  rcases hown.2 with ⟨rfl, rfl⟩ | ⟨g, cap, cur, rfl, hbg, hg, hnc, hcm, hcs, htake⟩
  · by_cases hm : s.size = 0
    · rw [h4.2 ⟨rfl, hm⟩]; exact .inl rfl
    · have hq := run_append_nil_string (P := P) w t u ty e i (.int .u8 0) ht hu hi hz s (by omega) (by unfold maxLen at h63; omega) (by rw [hby]; omega)
      rw [hq] at hr
      cases hr
      exact .inr ⟨_, rfl, Nat.le_refl _⟩
  · by_cases hroom : n + s.size ≤ cap
    · have hq := Lib.run_append_room_string (P := P) w t u ty e i ht hu hi hsize g n cap cur hg s hroom (by omega)
      rw [hq] at hr
      cases hr
      exact .inl rfl
    · have hq := Lib.run_append_grow_string (P := P) w t u ty e i (.int .u8 0) ht hu hi hz ⟨g, 0, none⟩ n cap xs (by rw [hsize]; omega) (hown.cells (g := g) rfl) s (by omega) (by unfold maxLen at h63; omega) (by rw [hby]; exact growslice_fits (by omega) (by omega))
      rw [hq] at hr
      cases hr
      exact .inr ⟨_, rfl, Nat.le_refl _⟩
theorem wpList_append_str {ops : Array Oper} {rest : List Oper} {o : Oper} {a : Act} {Q : Exit → Act → World → Prop} (hgd : o.guard = none) (sl x : Operand) (t u : TypeId)
    (ho : o.op = .call { callee := .builtin .append, args := #[sl, x], argTypes := #[t, u] })
    (base : Nat) (e : TypeId) (i : TypeInfo) (ht : P.underlying t = some (.slice e)) (hu : P.underlying u = some .string) (hi : P.info? e = some i) (hz : i.zero = some (.int .u8 0))
    (hsize : i.size = 1) (hby : i.bytes = 1)
    (v : Value) (n : Nat) (xs : List Value) (hs : a.eval sl = v) (hown : w.ownsRow base e 1 v n xs) (s : ByteArray) (hx : a.eval x = .string s)
    (h63 : n + s.size ≤ maxLen) (hbytes : n + s.size ≤ 140737488355328) (hbase : base ≤ w.heap.size)
    (h : ∀ v' w', w'.ownsRow base e 1 v' (n + s.size) (xs ++ Lib.strCells s) → w.grownBy w' v.ownBlock → (v'.ownBlock = v.ownBlock ∨ ∃ g, v'.ownBlock = some g ∧ w.heap.size ≤ g) → wpList P ops Q rest (a.put o.dst v') w') : wpList P ops Q (o :: rest) a w := by
  refine wpList_plain hgd fun K hK => ?_
  obtain ⟨v', w', hr, h2, h3, h4⟩ := run_append_str (P := P) w base t u o.type e i ht hu hi hz hsize hby v n xs hown s h63 hbytes hbase
  unfold Oper.wp execOp
  simp only [ho, resolve, invoke, builtin, Sem.run_bind, Sem.run_pure, Result.andThen_ok, List.map_toArray, List.map_cons, List.map_nil, hs, hx, hr]
  exact hK _ _ (h v' w' h2 h3 h4)
end

set_option maxHeartbeats 2000000 in
set_option maxRecDepth 100000 in
theorem text_wr (B b : Nat) (v : Value) (bs : List UInt8) (s : ByteArray) (w : World) (h : WrA B b v bs w) (hlen : bs.length + (s.size + 4) ≤ 1099511627776) (hB : B ≤ w.heap.size) :
    Calls Tryz.prog 148 #[.pointer (some ⟨b, 0, none⟩), .string s] w fun e w' => e = .returned (.tuple #[]) ∧ ∃ v', WrA B b v' (bs ++ textB s) w' ∧ WrStep b v v' w w' := by
  obtain ⟨i0, hi, hz0, hz1, hz2⟩ := info_parts wrInfoB
  have HW := Lib.hid h; clear h
  go_enter Tryz.func148, Tryz.ntmps148
  go_wp2_with (fail)
  refine (four_any B b v bs _ w HW.out (by omega) hB).mono ?_
  rintro e w1 ⟨rfl, v1, h1, h2⟩
  have hz := h2.size
  obtain ⟨hBb, hbk, hown, hne⟩ := h1
  have c0 : w1.cell? ⟨b, 0, none⟩ = some v1 := by rw [Lib.cell_of_heap hbk]; rfl
  have hblt : b < w1.heap.size := (Array.getElem?_eq_some_iff.1 hbk).1
  have hl : (bs ++ beN (s.size : Int) 4).length = bs.length + 4 := by rw [List.length_append, beN_len]
  have Hl := Lib.hid hl; clear hl
  have Hbk := Lib.hid hbk; clear hbk
  have Hne := Lib.hid hne; clear hne
  go_wp2_with (at_builtin; refine wpList_append_str _ rfl _ _ 22 9 rfl B 5 i0 Tryz.underlying22 Tryz.underlying9 hi hz0 hz1 hz2 _ _ _ rfl hown s rfl ?c3 ?c4 ?c5 ?_)
  case c3 => rw [Hl.out]; unfold maxLen; omega
  case c4 => rw [Hl.out]; omega
  case c5 => omega
  intro v2 w2 hown2 hgrow hat
  have hbk3 := (hgrow.block b hblt (fun e => Hne.out e.symm)).trans Hbk.out
  have f1 : w2.frozen? ⟨b, 0, none⟩ = false := Lib.frozen_of_heap hbk3 0
  have c1 : w2.cell? ⟨b, 0, none⟩ = some v1 := by rw [Lib.cell_of_heap hbk3]; rfl
  have Hbk3 := Lib.hid hbk3; clear hbk3
  obtain ⟨ao, n', cap, rfl⟩ : ∃ ao n' cap, v2 = .slice ao n' cap := by
    rcases hown2.2 with ⟨hv, _⟩ | ⟨g, cap, cur, hv, _⟩
    · exact ⟨_, _, _, hv⟩
    · exact ⟨_, _, _, hv⟩
  go_wp2
  go_end0
  refine ⟨rfl, _, ?_, h2.trans (WrStep.grown hgrow hat)⟩
  have e1 : bs ++ textB s = (bs ++ beN (s.size : Int) 4) ++ s.data.toList := by unfold textB; rw [List.append_assoc]
  rw [e1]
  refine WrAt.set hBb Hbk3.out ?_ (by decide)
  have e2 : s.data.toList.length = s.size := by rw [Array.length_toList]; rfl
  have e3 : (bs ++ beN (s.size : Int) 4 ++ s.data.toList).length = (bs ++ beN (s.size : Int) 4).length + s.size := by
    rw [List.length_append, e2]
  rw [e3, Lib.byteCells_append, List.length_append]
  exact hown2

theorem newWriter_any (w : World) :
    Calls Tryz.prog 145 #[] w fun e w' => e = .returned (.pointer (some ⟨w.heap.size, 0, none⟩)) ∧ w' = w.alloc (.cells #[.slice none 0 0] 329) := by
  go_enter Tryz.func145, Tryz.ntmps145
  go_wp2
  go_ret
  exact ⟨rfl, rfl⟩

set_option maxHeartbeats 2000000 in
set_option maxRecDepth 100000 in
theorem clone_any (v : Value) (bs : List UInt8) (w : World) (h : ByAt w v bs) (hlen : bs.length ≤ 1099511627776) :
    Calls Tryz.prog 31 #[v] w fun e w' => ∃ v', e = .returned v' ∧ w'.ownsRow w.heap.size 5 1 v' bs.length (Lib.byteCells bs) ∧ Below w.heap.size w w' := by
  obtain ⟨i0, hi, hz0, hz1, hz2⟩ := info_parts wrInfoB
  have hq : ∀ (w : World) (a : Option Addr) (n c n' c' : Nat), (binOp .eql 22 (.slice a n c) (.slice none n' c')).run Tryz.prog w = .ok (.bool a.isNone) w := fun w a n c n' c' => Lib.run_eql_slice_nil w _ _ a n c n' c' Tryz.underlying22
  obtain ⟨a, c, rfl, ⟨rfl, rfl⟩ | ⟨g, o, rfl, hs⟩⟩ := h
  · go_enter Tryz.func31, Tryz.ntmps31
    go_wp2
    go_ret
    exact ⟨_, rfl, World.ownsRow_nil _ _ _ _, Below.refl _ _⟩
  · have hb : Below w.heap.size w (w.alloc (.cells #[] 5)) := (Below.refl _ _).alloc (Nat.le_refl _) _
    have hnews : ∀ j u, (Lib.byteCells bs)[j]? = some u → (w.alloc (.cells #[] 5)).cell? ((⟨g, o, none⟩ : Addr).add j) = some u := fun j u hj => by
      unfold Lib.byteCells at hj
      rw [List.getElem?_map, Option.map_eq_some_iff] at hj
      obtain ⟨x, hx, rfl⟩ := hj
      have h1 := hs j x hx
      have hlt : g < w.heap.size := World.block_lt_of_cell? w _ h1
      have e : (⟨g, o, none⟩ : Addr).add j = ⟨g, o + j, none⟩ := by
        unfold Addr.add
        split
        · rename_i h; subst h; rfl
        · rfl
      rw [e]
      exact (hb.cell (p := ⟨g, o + j, none⟩) hlt).trans h1
    have Hs := Lib.hid hs; clear hs
    have Hn := Lib.hid hnews; clear hnews
    have hown0 : (w.alloc (.cells #[] 5)).ownsRow w.heap.size 5 1 (.slice (some ⟨w.heap.size, 0, none⟩) 0 0) 0 [] :=
      ⟨rfl, .inr ⟨w.heap.size, 0, #[], rfl, Nat.le_refl _, heap_alloc_new w _, Nat.le_refl _, by unfold maxLen; omega, rfl, rfl⟩⟩
    go_enter Tryz.func31, Tryz.ntmps31
    go_wp2_with (at_builtin; refine wpList_append_own _ rfl _ _ 22 rfl w.heap.size 5 i0 _ 1 1 Tryz.underlying22 hi hz0 hz1 hz2 rfl (by omega) (.slice (some ⟨w.heap.size, 0, none⟩) 0 0) 0 [] rfl hown0 ⟨g, o, none⟩ bs.length c (Lib.byteCells bs) rfl (by rw [Lib.byteCells_length]; omega) Hn.out ?c1 ?c2 ?c3 ?c4 ?_)
    case c1 =>
      intro u hu
      unfold Lib.byteCells at hu
      obtain ⟨x, _, rfl⟩ := List.mem_map.1 hu
      rfl
    case c2 => unfold maxLen; omega
    case c3 => omega
    case c4 => simp
    intro v' w' hown hgrow _
    go_wp2
    go_ret
    refine ⟨_, rfl, ?_, hb.grown hgrow (by simp) (fun k hk => by cases hk; exact Nat.le_refl _)⟩
    exact hown
theorem done_any (B b : Nat) (v : Value) (bs : List UInt8) (w : World) (h : WrA B b v bs w) (hlen : bs.length ≤ 1099511627776) :
    Calls Tryz.prog 151 #[.pointer (some ⟨b, 0, none⟩)] w fun e w' => ∃ v', e = .returned v' ∧ w'.ownsRow w.heap.size 5 1 v' bs.length (Lib.byteCells bs) ∧ Below w.heap.size w w' := by
  obtain ⟨hBb, hbk, hown, hne⟩ := h
  have c0 : w.cell? ⟨b, 0, none⟩ = some v := by rw [Lib.cell_of_heap hbk]; rfl
  have hA := ByAt.of_own hown
  have Ho := Lib.hid hown; clear hown
  have Hbk := Lib.hid hbk; clear hbk
  go_enter Tryz.func151, Tryz.ntmps151
  go_wp2_with (fail)
  refine (clone_any v bs w hA hlen).mono ?_
  rintro e w' ⟨v', rfl, h1, h2⟩
  go_wp2_with (fail)
  go_ret
  exact ⟨_, rfl, h1, h2⟩
end Go.Proofs.YtekggipkfmleoaaGreatDoor

