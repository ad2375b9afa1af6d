/- What comes in, opened; rows of texts held against one another; a number within bounds; appends. -/
import Derived.Test.YtcpmgjnlnaigbaaGreatDoorProg
import Derived.WalkKit
import Derived.WalkSpells
import Derived.WalkLawsBesides
import Derived.WalkMore
import Derived.OwnWalk
import Derived.Lib.Hide
import Derived.BigQuiet
import Derived.Deep.QuietTactic
import Derived.Deep.LoopGhost
import Derived.Laws.AppendOwn
import Derived.ProofKit
import Derived.OpenShut
import Derived.Below
import Derived.ChangeSame
import Derived.Deep.Slices
import Derived.Deep.Fields
import Derived.ChangeSlices
import Derived.ChangeOld
import Derived.Carry
set_option linter.unusedVariables false
set_option linter.unusedSimpArgs false
namespace Go.Proofs.YtcpmgjnlnaigbaaGreatDoor
open Go.RowKit Go.ChangeShapes Go.WideShapes Go.Deep

/-- texts lie in memory -/
def StrsAt (w : World) (b o : Nat) (l : List ByteArray) : Prop := ∀ j, j < l.length → w.cell? ⟨b, o + j, none⟩ = some (.string (l.getD j ⟨#[]⟩))
theorem StrsAt.below {w w' : World} {b o : Nat} {l : List ByteArray} (h : StrsAt w b o l) {B : Nat} (hb : Below B w w') (hB : b < B) : StrsAt w' b o l :=
  fun j hj => (hb.cell (p := ⟨b, _, none⟩) hB).trans (h j hj)

/-- a list of texts that came in, or was made -/
def Strs (w : World) (a : Option Addr) (n : Nat) (l : List ByteArray) : Prop := n = l.length ∧ (n = 0 ∨ ∃ b o, a = some ⟨b, o, none⟩ ∧ b < w.heap.size ∧ StrsAt w b o l)
theorem Strs.below {w w' : World} {a : Option Addr} {n : Nat} {l : List ByteArray} (h : Strs w a n l) (hb : Below w.heap.size w w') : Strs w' a n l := by
  obtain ⟨hn, h0 | ⟨b, o, ha, hlt, hs⟩⟩ := h
  · exact ⟨hn, .inl h0⟩
  · exact ⟨hn, .inr ⟨b, o, ha, Nat.lt_of_lt_of_le hlt hb.size, hs.below hb hlt⟩⟩

def Ints (w : World) (a : Option Addr) (n : Nat) (l : List Int) : Prop := n = l.length ∧ (n = 0 ∨ ∃ b o, a = some ⟨b, o, none⟩ ∧ b < w.heap.size ∧ ∀ j, j < l.length → w.cell? ⟨b, o + j, none⟩ = some (.int .i64 (l.getD j 0)))
set_option maxHeartbeats 4000000 in
set_option maxRecDepth 100000 in
theorem keepTexts_any (aa ab : Option Addr) (n ca cb : Nat) (l : List ByteArray) (w : World) (ha : Strs w aa n l) (hb : Strs w ab n l) (hn : n ≤ 4294967296) :
    Calls Tryz.prog 11 #[.slice aa n ca, .slice ab n cb] w fun e w' => e = .returned (.bool true) ∧ Below w.heap.size w w' := by
  obtain ⟨rfl, ha⟩ := ha
  obtain ⟨_, hb⟩ := hb
  have HA := Lib.hid ha
  have HB := Lib.hid hb
  clear ha hb
  go_enter Tryz.func11, Tryz.ntmps11
  go_wp2_with (fail)
  go_loopw [5] (fun i wr => ∃ k : Nat, i = .int .i64 k ∧ k ≤ l.length ∧ Below w.heap.size w wr) (fun i _ => l.length - (intOf i).toNat)
  case atStart => exact ⟨0, rfl, by omega, Below.refl _ _⟩
  case round =>
    obtain ⟨k, rfl, hk, hbw⟩ := hrel
    by_cases hlt : k < l.length
    · rcases HA.out with h0 | ⟨b1, o1, rfl, hb1, hs1⟩
      · omega
      rcases HB.out with h0 | ⟨b2, o2, rfl, hb2, hs2⟩
      · omega
      obtain ⟨x, hx⟩ : ∃ x, l.getD k ⟨#[]⟩ = x := ⟨_, rfl⟩
      have h1 := hs1 k hlt
      have h2 := hs2 k hlt
      rw [hx] at h1 h2
      have c0 := (hbw.cell (p := ⟨b1, o1 + k, none⟩) hb1).trans h1
      have e0 := (hbw.cell (p := ⟨b2, o2 + k, none⟩) hb2).trans h2
      have HBw := Lib.hid hbw
      clear hs1 hs2 h1 h2 hx hbw
      go_wp2
      go_quiet (fail)
      go_wp2
      go_roundw
      case rel => exact ⟨k + 1, by simp, by omega, ⟨HBw.out.os, HBw.out.tape, HBw.out.output, HBw.out.size, HBw.out.block⟩⟩
      case measure => simp [intOf]; omega
    · obtain rfl : k = l.length := by omega
      have HBw := Lib.hid hbw; clear hbw
      go_wp2_with (fail)
      go_ret
      exact ⟨rfl, HBw.out⟩

/-- a number brought within bounds -/
def inB (n lo hi : Int) : Int := if n.tmod (hi - lo + 1) < 0 then lo + (n.tmod (hi - lo + 1) + (hi - lo + 1)) else lo + n.tmod (hi - lo + 1)
theorem inB_bd (n : Int) {lo hi : Int} (h : lo ≤ hi) : lo ≤ inB n lo hi ∧ inB n lo hi ≤ hi := by
  have ha := Int.tmod_lt_of_pos n (b := hi - lo + 1) (by omega)
  have hb : -(hi - lo + 1) < n.tmod (hi - lo + 1) := by
    have h3 := Int.tmod_lt_of_pos (-n) (b := hi - lo + 1) (by omega)
    rw [Int.neg_tmod] at h3
    omega
  unfold inB
  split <;> constructor <;> omega
theorem ret_int' {k : IntKind} {a b : Int} (h : a = b) : Ending.returned (.int k a) = .returned (.int k b) := by rw [h]
set_option maxHeartbeats 400000 in
theorem within_any (n lo hi : Int) (w : World) (h3 : 0 ≤ lo) (h4 : lo ≤ hi) (h5 : hi ≤ 1000000000) :
    Calls Tryz.prog 5 #[.int .i64 n, .int .i64 lo, .int .i64 hi] w fun e w' => e = .returned (.int .i64 (inB n lo hi)) ∧ w = w' := by
  have ha := Int.tmod_lt_of_pos n (b := hi - lo + 1) (by omega)
  have hb : -(hi - lo + 1) < n.tmod (hi - lo + 1) := by
    have h3 := Int.tmod_lt_of_pos (-n) (b := hi - lo + 1) (by omega)
    rw [Int.neg_tmod] at h3
    omega
  by_cases hz : n.tmod (hi - lo + 1) < 0
  · have hw : inB n lo hi = lo + (n.tmod (hi - lo + 1) + (hi - lo + 1)) := by unfold inB; rw [if_pos hz]
    have HW := Go.Lib.hid hw; clear hw
    go_enter Tryz.func5, Tryz.ntmps5
    go_wp2
    go_ret
    exact ⟨ret_int' (by rw [HW.out]; omega), rfl⟩
  · have hw : inB n lo hi = lo + n.tmod (hi - lo + 1) := by unfold inB; rw [if_neg hz]
    have HW := Go.Lib.hid hw; clear hw
    go_enter Tryz.func5, Tryz.ntmps5
    go_wp2
    go_ret
    exact ⟨ret_int' (by rw [HW.out]), rfl⟩

section
variable {P : Program} (w : World)
/-- things that lie somewhere, behind what is owned; the source may be nil -/
theorem run_append_any (t ty e : TypeId) (i : TypeInfo) (z : Value) (size bytes : Nat) (ht : P.underlying t = some (.slice e)) (hi : P.info? e = some i) (hz : i.zero = some z) (hsize : i.size = size) (hby : i.bytes = bytes) (hzs : z.cells.size = size) (hsz : 0 < size)
    (base : Nat) (v : Value) (n : Nat) (xs : List Value) (hown : w.ownsRow base e size v n xs) (a : Option Addr) (m c : Nat) (ys : List Value) (hyl : ys.length = m * size) (h1 : ∀ u ∈ ys, u.oneCell' = true)
    (hs : (m = 0 ∧ a = none) ∨ ∃ ad, a = some ad ∧ ∀ j u, ys[j]? = some u → w.cell? (ad.add j) = some u) (h63 : n + m ≤ maxLen) (hlen : (n + m) * bytes ≤ 140737488355328) (hbase : base ≤ w.heap.size) :
    ∃ v' w', (Builtin.append_ #[t, t] ty #[v, .slice a m c]).run P w = .ok v' w' ∧ w'.ownsRow base e size v' (n + m) (xs ++ ys) ∧ w.grownBy w' v.ownBlock ∧ (v'.ownBlock = v.ownBlock ∨ v'.ownBlock = some w.heap.size) := by
  rcases hs with ⟨rfl, rfl⟩ | ⟨ad, rfl, hc⟩
  · have hy0 : ys = [] := List.eq_nil_of_length_eq_zero (by omega)
    subst hy0
    refine ⟨v, w, ?_, ?_, ⟨rfl, rfl, rfl, Nat.le_refl _, fun _ _ _ => rfl⟩, .inl rfl⟩
    · rcases hown.2 with ⟨rfl, rfl⟩ | ⟨g, cap, cur, rfl, _, _, hnc, _⟩
      · simp [Builtin.append_, run_underlying ht, sizeOf, typeInfo, hi, Builtin.lenOf, Builtin.firstCells]
      · simp [Builtin.append_, run_underlying ht, sizeOf, typeInfo, hi, Builtin.lenOf, Builtin.firstCells, hnc, storeCells]
    · show w.ownsRow base e size v (n + 0) (xs ++ [])
      rw [List.append_nil]
      exact hown
  · obtain ⟨v', w', hr, h2, h3, _, h5⟩ := run_append_own_at (P := P) w base t ty e i z size bytes ht hi hz hsize hby hzs hsz v n xs hown ad m c ys hyl hc h1 h63 hlen hbase
    exact ⟨v', w', hr, h2, h3, h5⟩
theorem wpList_append_any {ops : Array Oper} {rest : List Oper} {o : Oper} {ac : Act} {Q : Exit → Act → World → Prop} (hgd : o.guard = none) (sl x : Operand) (t : TypeId) (ho : o.op = .call { callee := .builtin .append, args := #[sl, x], argTypes := #[t, t] })
    (e : TypeId) (i : TypeInfo) (z : Value) (size bytes : Nat) (ht : P.underlying t = some (.slice e)) (hi : P.info? e = some i) (hz : i.zero = some z) (hsize : i.size = size) (hby : i.bytes = bytes) (hzs : z.cells.size = size) (hsz : 0 < size)
    (base : Nat) (v : Value) (n : Nat) (xs : List Value) (hv : ac.eval sl = v) (hown : w.ownsRow base e size v n xs) (a : Option Addr) (m c : Nat) (ys : List Value) (hx : ac.eval x = .slice a m c) (hyl : ys.length = m * size) (h1 : ∀ u ∈ ys, u.oneCell' = true)
    (hs : (m = 0 ∧ a = none) ∨ ∃ ad, a = some ad ∧ ∀ j u, ys[j]? = some u → w.cell? (ad.add j) = some u) (h63 : n + m ≤ maxLen) (hlen : (n + m) * bytes ≤ 140737488355328) (hbase : base ≤ w.heap.size)
    (h : ∀ v' w', w'.ownsRow base e size v' (n + m) (xs ++ ys) → w.grownBy w' v.ownBlock → (v'.ownBlock = v.ownBlock ∨ v'.ownBlock = some w.heap.size) → wpList P ops Q rest (ac.put o.dst v') w') : wpList P ops Q (o :: rest) ac w := by
  refine wpList_plain hgd fun K hK => ?_
  obtain ⟨v', w', hr, h2, h3, h5⟩ := run_append_any (P := P) w t o.type e i z size bytes ht hi hz hsize hby hzs hsz base v n xs hown a m c ys hyl h1 hs h63 hlen hbase
  unfold Oper.wp execOp
  simp only [ho, resolve, invoke, builtin, Sem.run_bind, Sem.run_pure, Result.andThen_ok, List.map_toArray, List.map_cons, List.map_nil, hv, hx, hr]
  exact hK _ _ (h v' w' h2 h3 h5)
end

section
variable {H : Type} {enc : TypeId × Value → H} {W : World} {base : Nat} {spare : Nat → Bool} {held : Bool}
theorem addr_plus (b o i : Nat) : (⟨b, o, none⟩ : Addr).add i = ⟨b, o + i, none⟩ := by
  unfold Addr.add
  split
  · rename_i h; subst h; rfl
  · rfl
theorem cell_in {w : World} {a : Addr} {v : Value} (h : w.cell? a = some v) : a.block < w.heap.size ∧ a.spot = none := by
  unfold World.cell? at h
  split at h
  · rename_i hb
    refine ⟨?_, ?_⟩
    · have := Array.getElem?_eq_some_iff.1 hb
      exact this.1
    · by_cases hs : a.spot.isSome
      · simp [hs] at h
      · simpa using hs
  · cases h
/-- a slice of things of so many cells -/
theorem open_sl {P : Program} {t e : TypeId} {Z : Type} (R : Nat → Nat → Z → Prop) (sz : Nat) (z0 : Z) (hz : P.cellsOf e = sz) (hpos : 0 < sz)
    (one : ∀ (fuel : Nat) (cs : List Value) (x : DataW H × List MemPlace) (b o : Nat), DataW.trod enc P W base spare held fuel e cs = some x → (∀ i, i < sz → W.cell? ⟨b, o + i, none⟩ = cs[i]?) → ∃ z, R b o z)
    (ht : P.underlying t = some (.slice e)) {fuel : Nat} {v : Value} {x : DataW H × List MemPlace} (h : DataW.trod enc P W base spare held fuel t [v] = some x) :
    ∃ a n c, ∃ l : List Z, v = .slice a n c ∧ n ≤ c ∧ c ≤ maxLen ∧ l.length = n ∧ (n = 0 ∨ ∃ b o, a = some ⟨b, o, none⟩ ∧ b < W.heap.size ∧ ∀ j z, l[j]? = some z → R b (o + j * sz) z) := by
  rcases open_slice ht h with ⟨hcs, rfl⟩ | ⟨a, len, cap, m, n, D, Pl, hcs, _, hl, hm, hmm, rfl, hi⟩
  · cases hcs
    exact ⟨none, 0, 0, [], rfl, by omega, by unfold maxLen; omega, rfl, .inl rfl⟩
  · cases hcs
    have hlm : len ≤ m := by rw [hmm]; split <;> omega
    rw [hz] at hi
    by_cases h0 : len = 0
    · subst h0
      exact ⟨some a, 0, cap, [], rfl, by omega, hm, rfl, .inl rfl⟩
    · obtain ⟨cs0, hc0, ht0⟩ := hi 0 (by omega)
      obtain ⟨_, hcl0, hat0⟩ := World.cells?_some hc0
      have hx0 : ∃ v0, cs0[0]? = some v0 := ⟨_, List.getElem?_eq_getElem (by omega)⟩
      obtain ⟨v0, hv0⟩ := hx0
      have hq := (hat0 0 (by omega)).trans hv0
      obtain ⟨hb, hs⟩ := cell_in hq
      obtain ⟨ab, ao, asp⟩ := a
      have hsp : asp = none := by simpa [Addr.add] using hs
      subst hsp
      have hb' : ab < W.heap.size := by simpa [Addr.add] using hb
      have key : ∀ i, ∃ z : Z, i < len → R ab (ao + i * sz) z := fun i => by
        by_cases hil : i < len
        · obtain ⟨cs', hc, ht'⟩ := hi i (by omega)
          obtain ⟨_, hcl, hat⟩ := World.cells?_some hc
          obtain ⟨z, h1⟩ := one _ _ _ ab (ao + i * sz) ht' fun j hj => by
            have := hat j hj
            rw [addr_plus, addr_plus] at this
            exact this
          exact ⟨z, fun _ => h1⟩
        · exact ⟨z0, fun h => absurd h hil⟩
      obtain ⟨f, hf⟩ := Classical.axiomOfChoice key
      refine ⟨_, len, cap, (List.range len).map f, rfl, hl, hm, by simp, .inr ⟨ab, ao, rfl, hb', fun j z hj => ?_⟩⟩
      rw [List.getElem?_map, Option.map_eq_some_iff] at hj
      obtain ⟨j', hj', rfl⟩ := hj
      obtain ⟨hjl, rfl⟩ := List.getElem?_eq_some_iff.1 hj'
      simp only [List.getElem_range]
      exact hf j (by simpa using hjl)


theorem open_strsZ {fuel : Nat} {v : Value} {x : DataW H × List MemPlace} (h : DataW.trod enc Tryz.prog W base spare held fuel 22 [v] = some x) :
    ∃ a n c, ∃ l : List ByteArray, v = .slice a n c ∧ n ≤ c ∧ c ≤ maxLen ∧ (∀ s ∈ l, s.size ≤ maxLen) ∧ Strs W a n l := by
  obtain ⟨a, n, c, l, rfl, h1, h2, h3, h4⟩ := open_sl (Z := { s : ByteArray // s.size ≤ maxLen }) (fun b o z => W.cell? ⟨b, o, none⟩ = some (.string z.1)) 1 ⟨⟨#[]⟩, Nat.zero_le _⟩ (by kernel_rfl) (by omega) (fun fuel cs x b o h hc => by
    obtain ⟨s, rfl, _, hs⟩ := DataW.trod_string Tryz.underlying9 h
    exact ⟨⟨s, hs⟩, hc 0 (by omega)⟩) Tryz.underlying22 h
  refine ⟨a, n, c, l.map (·.1), rfl, h1, h2, fun s hs => ?_, by simp [h3], ?_⟩
  · obtain ⟨y, _, rfl⟩ := List.mem_map.1 hs
    exact y.2
  rcases h4 with h0 | ⟨b, o, rfl, hlt, hs⟩
  · exact .inl h0
  · refine .inr ⟨b, o, rfl, hlt, fun j hj => ?_⟩
    rw [List.length_map] at hj
    have := hs j l[j] (List.getElem?_eq_getElem hj)
    rw [Nat.mul_one] at this
    rw [this]
    simp [List.getD, hj]
theorem open_intsR {fuel : Nat} {v : Value} {x : DataW H × List MemPlace} (h : DataW.trod enc Tryz.prog W base spare held fuel 23 [v] = some x) :
    ∃ a n c, ∃ l : List Int, v = .slice a n c ∧ n ≤ c ∧ c ≤ maxLen ∧ (∀ z ∈ l, (Lit.int .i64 z).wf = true) ∧ Ints W a n l := by
  obtain ⟨a, n, c, l, rfl, h1, h2, h3, h4⟩ := open_sl (Z := { z : Int // (Lit.int .i64 z).wf = true }) (fun b o z => W.cell? ⟨b, o, none⟩ = some (.int .i64 z.1)) 1 ⟨0, rfl⟩ (by kernel_rfl) (by omega) (fun fuel cs x b o h hc => by
    obtain ⟨n, rfl, _, hw⟩ := DataW.trod_int Tryz.underlying3 h
    exact ⟨⟨n, hw⟩, hc 0 (by omega)⟩) Tryz.underlying23 h
  refine ⟨a, n, c, l.map (·.1), rfl, h1, h2, fun z hz => ?_, by simp [h3], ?_⟩
  · obtain ⟨y, _, rfl⟩ := List.mem_map.1 hz
    exact y.2
  rcases h4 with h0 | ⟨b, o, rfl, hlt, hs⟩
  · exact .inl h0
  · refine .inr ⟨b, o, rfl, hlt, fun j hj => ?_⟩
    rw [List.length_map] at hj
    have := hs j l[j] (List.getElem?_eq_getElem hj)
    rw [Nat.mul_one] at this
    rw [this]
    simp [List.getD, hj]
end
end Go.Proofs.YtcpmgjnlnaigbaaGreatDoor
