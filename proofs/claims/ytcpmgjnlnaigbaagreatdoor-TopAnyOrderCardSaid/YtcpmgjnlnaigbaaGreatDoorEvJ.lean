/- The abstract machine's operations that make. -/
import Derived.Test.YtcpmgjnlnaigbaaGreatDoorEvI
import Derived.Laws.MakeOwn
set_option linter.unusedVariables false
set_option linter.unusedSimpArgs false
namespace Go.Ev
open Go

variable {P : Program} {E : Ren} {ρ : Env} {f : Operand → Value} {v : AV} {A : AH} {w : World}

/-- what an operation that makes comes to -/
def Mok (P : Program) (E : Ren) (f : Operand → Value) (o : Oper) (r : AObj × (Nat → AV)) : Prop :=
  r.1.live = true ∧ r.1.ro = false ∧ ∀ w : World, ∃ v' ob' κ w', (execOp f o).run P w = .ok (.value v') w' ∧ w'.heap = w.heap.push ob' ∧ w'.os = w.os ∧ w'.tape = w.tape ∧ w'.output = w.output ∧
    ∀ (E' : Ren) (n : Nat), E.le E' → E' n = some (w.heap.size, κ) → OR E' κ r.1 ob' ∧ VR E' (r.2 n) v'

theorem or_cells {E : Ren} {l : List AV} {arr : Array Value} {e : TypeId} (κ : Nat) (h : VRL E l arr.toList) : OR E κ (cellsOf l) (.cells arr e) := by
  refine ⟨arr, e, (0, 0), rfl, fun i v hv => ?_, fun _ i _ h => by omega, fun sz top h => by cases h⟩
  rw [mkCells_get l] at hv
  obtain ⟨v', hv', hr⟩ := h.get hv
  exact ⟨v', by simpa using hv', hr⟩


theorem or_cellsT {E : Ren} {l : List AV} {arr : Array Value} {t : TypeId} {κ : Nat} (h : VRL E l arr.toList) : OR E κ (cellsT t l) (.cells arr t) := by
  have hlen : arr.size = l.length := by have := h.length; simpa using this
  refine ⟨arr, t, (0, 0), rfl, fun i v hv => ?_, fun _ i _ h => by omega, fun sz top hg => ?_⟩
  · rw [mkCells_get l] at hv
    obtain ⟨v', hv', hr⟩ := h.get hv
    exact ⟨v', by simpa using hv', hr⟩
  · cases hb : Nat.ble (lenN l) 1048575 with
    | false => rw [hb] at hg; cases hg
    | true =>
      rw [hb, bc_true] at hg
      rw [Nat.ble_eq, lenN_eq] at hb
      cases hg
      rw [lenN_eq]
      have key : ∀ (t : Nat), ((t * 1048576 + l.length) / 1048576 = 0 ∨ t = (t * 1048576 + l.length) / 1048576) ∧ l.length = (t * 1048576 + l.length) % 1048576 := fun t => by omega
      refine ⟨⟨by simp, fun _ => by rw [hlen]; exact key t⟩, fun i v hv => ?_⟩
      rw [mkCells_get l] at hv
      have := (List.getElem?_eq_some_iff.1 hv).1
      exact Nat.lt_of_lt_of_le this (Nat.le_add_left _ _)

theorem run_newRow (t : TypeId) (c : Array Value) (w : World) : (newRow t c).run P w = .ok ⟨w.heap.size, 0, none⟩ (w.alloc (.cells c t)) := rfl

theorem vr_ptrTo {E : Ren} {n b κ : Nat} (h : E n = some (b, κ)) : VR E (ptrTo n) (.pointer (some ⟨b, 0, none⟩)) := by simp only [ptrTo, VR]; exact ⟨b, κ, h, rfl⟩

theorem kAlloc_ok {o : Oper} {t : TypeId} {r : AObj × (Nat → AV)} (ho : o.op = .alloc t) (h : kAlloc t P ρ = some r) (hG : Good E ρ f) : Mok P E f o r := by
  simp only [kAlloc, om_some] at h
  obtain ⟨z, hz, h⟩ := h
  cases h
  obtain ⟨z', hz1, hz2⟩ := zeroA_ok (E := E) hz
  refine ⟨rfl, rfl, fun w => ⟨.pointer (some ⟨w.heap.size, 0, none⟩), .cells z'.cells t, 0, w.alloc (.cells z'.cells t), ?_, rfl, rfl, rfl, rfl, fun E' n hle hn => ⟨or_cellsT (VRL.mono hle _ _ (VRL.cells hz1)), vr_ptrTo hn⟩⟩⟩
  simp [execOp, ho, Instr.alloc, hz2, newVar, run_newRow]

theorem kBox_ok {o : Oper} {t : TypeId} {x : Operand} {r : AObj × (Nat → AV)} (ho : o.op = .box t x) (h : kBox t x P ρ = some r) (hG : Good E ρ f) : Mok P E f o r := by
  simp only [kBox, om_some] at h
  obtain ⟨z, hz, h⟩ := h
  cases h
  have hx := hG x _ hz
  refine ⟨rfl, rfl, fun w => ⟨.pointer (some ⟨w.heap.size, 0, none⟩), .cells (f x).cells t, 0, w.alloc (.cells (f x).cells t), ?_, rfl, rfl, rfl, rfl, fun E' n hle hn => ⟨or_cells _ (VRL.mono hle _ _ (VRL.cells hx)), vr_ptrTo hn⟩⟩⟩
  simp [execOp, ho, Instr.box, newVar, run_newRow]

theorem elemInfo_some {t : TypeId} {e : Nat × Nat × List AV} (h : elemInfo P t = some e) :
    ∃ el z i, P.underlying t = some (.slice el) ∧ P.info? el = some i ∧ i.size = e.1 ∧ i.bytes = e.2.1 ∧ zeroA P el = some z ∧ cellsA z = e.2.2 ∧ e.2.2.length = e.1 ∧ e.1 ≠ 0 ∧ e.2.1 ≠ 0 := by
  unfold elemInfo at h
  split at h
  · rename_i el hel
    simp only [ob_some, og_some] at h
    obtain ⟨s, hs, b, hb, z, hz, hc, h⟩ := h
    cases h
    rw [bc_and, Nat.beq_eq, lenN_eq] at hc
    obtain ⟨h1, h2⟩ := hc
    unfold sizeA at hs
    unfold bytesA at hb
    rw [Option.map_eq_some_iff] at hs hb
    obtain ⟨i, hi, rfl⟩ := hs
    obtain ⟨j, hj, rfl⟩ := hb
    rw [hi] at hj
    cases hj
    refine ⟨el, z, i, hel, hi, rfl, rfl, hz, rfl, h1, ?_, ?_⟩
    · intro h0; simp only at h0; rw [h0] at h2; simp [bc] at h2
    · intro h0; simp only at h0; rw [h0] at h2; cases hb : Nat.beq i.size 0 <;> simp [hb, bc] at h2
  · cases h

theorem repeatL_zero (l : List AV) : repeatL l 0 = [] := rfl
theorem repeatL_succ (l : List AV) (n : Nat) : repeatL l (n + 1) = l ++ repeatL l n := rfl
theorem repeatL_len (l : List AV) (n : Nat) : (repeatL l n).length = n * l.length := by
  induction n with
  | zero => simp [repeatL_zero]
  | succ n ih => rw [repeatL_succ, List.length_append, ih, Nat.succ_mul]; omega
theorem repeatL_get (l : List AV) (hl : l.length ≠ 0) (n : Nat) : ∀ i, i < n * l.length → (repeatL l n)[i]? = l[i % l.length]? := by
  induction n with
  | zero => intro i hi; omega
  | succ n ih =>
    intro i hi
    rw [repeatL_succ]
    rw [Nat.succ_mul] at hi
    by_cases h : i < l.length
    · rw [List.getElem?_append_left h, Nat.mod_eq_of_lt h]
    · rw [List.getElem?_append_right (by omega), ih _ (by omega)]
      congr 1
      rw [Nat.mod_eq_sub_mod (by omega : i ≥ l.length)]
theorem made_ok {l : List AV} {z : Array Value} (h : VRL E l z.toList) (hl : l.length ≠ 0) (n : Nat) : VRL E (repeatL l n) ((Array.range (n * l.length)).map (z[· % z.size]!)).toList := by
  have hz : z.size = l.length := by have := h.length; simpa using this
  refine VRL.of_get (by simp [repeatL_len]) (fun i v v' hv hv' => ?_)
  have hi : i < n * l.length := by
    have := (List.getElem?_eq_some_iff.1 hv).1
    rwa [repeatL_len] at this
  rw [repeatL_get l hl n i hi] at hv
  obtain ⟨u, hu, hr⟩ := h.get hv
  have hm : i % l.length < l.length := Nat.mod_lt _ (by omega)
  have : v' = u := by
    simp only [Array.toList_map, Array.toList_range, List.getElem?_map, List.getElem?_range hi, Option.map_some, Option.some.injEq] at hv'
    rw [← hv', hz]
    have hu' : z[i % l.length]? = some u := by simpa using hu
    rw [getElem!_def, hu']
  rw [this]
  exact hr

theorem kBuildSlice_ok {o : Oper} {t : TypeId} {len : Nat} {parts : Array (Nat × Operand)} {r : AObj × (Nat → AV)} (ho : o.op = .buildSlice t len parts) (h : kBuildSlice t len parts P ρ = some r) (hG : Good E ρ f) : Mok P E f o r := by
  simp only [kBuildSlice, ob_some, og_some, om_some] at h
  obtain ⟨ps, hps, e, he, hlim, cs, hcs, h⟩ := h
  cases h
  obtain ⟨el, z, i, ht, hi, hs, hb, hz, hzc, hzl, h0, _⟩ := elemInfo_some he
  obtain ⟨z', hz1, hz2⟩ := zeroA_ok (E := E) hz
  have hcz := VRL.cells hz1
  rw [hzc] at hcz
  have hzs : z'.cells.size = e.1 := by have := hcz.length; rw [hzl] at this; simpa using this
  obtain ⟨h1, h2⟩ := partsO_ok hG hps
  have hlim := Nat.le_of_ble_eq_true hlim
  have hmade := made_ok hcz (by omega) len
  rw [hzl] at hmade
  obtain ⟨r', h3, h4⟩ := fill_ok (fun i => some (i * e.1, e.1)) ps _ _ ((Array.range (len * e.1)).map (z'.cells[· % z'.cells.size]!)) cs hcs h1 h2 hmade
  refine ⟨rfl, rfl, fun w => ⟨.slice (some ⟨w.heap.size, 0, none⟩) len len, .cells r' el, 0, w.alloc (.cells r' el), ?_, rfl, rfl, rfl, rfl, fun E' n hle hn => ⟨or_cells _ (VRL.mono hle _ _ h4), by simp only [VR]; exact ⟨_, _, hn, rfl⟩⟩⟩⟩
  have hsz : ∀ w, (sizeOf el).run P w = .ok e.1 w := fun w => by simp [sizeOf, typeInfo, hi, hs]
  by_cases hl0 : len = 0
  · subst hl0
    have hr' : Instr.fill (fun i => some (i * e.1, e.1)) ((Array.range (0 * e.1)).map ((#[] : Array Value)[· % (#[] : Array Value).size]!)) (parts.map fun (i, x) => (i, f x)).toList = some r' := by
      rw [← h3]; congr 1; simp
    simp only [execOp, ho, Instr.buildSlice, Sem.run_bind, run_und ht, Result.andThen_ok, hsz]
    rw [if_neg (by simp), if_pos (by simp)]
    simp only [Sem.run_bind, Sem.run_pure, Result.andThen_ok]
    rw [hr']
    rfl
  · have hne : len * e.1 ≠ 0 := Nat.mul_ne_zero hl0 h0
    simp only [execOp, ho, Instr.buildSlice, Sem.run_bind, run_und ht, Result.andThen_ok, hsz]
    rw [if_neg (by omega), if_neg hne]
    simp only [Sem.run_bind, Sem.run_pure, Result.andThen_ok, hz2]
    rw [h3]
    rfl

theorem kMakeMap_ok {o : Oper} {t : TypeId} {x : Option Operand} {r : AObj × (Nat → AV)} (ho : o.op = .makeMap t x) (h : kMakeMap t x P ρ = some r) (hG : Good E ρ f) : Mok P E f o r := by
  simp only [kMakeMap, ob_some, og_some] at h
  obtain ⟨hmt, u, hu, h⟩ := h
  obtain ⟨kt, et, ht⟩ := isMapT_true hmt
  have hr : r = (.map [] ⟨0, []⟩, fun n => .map (some n)) ∧ (u = none ∨ ∃ k n, u = some (.int k n)) := by
    cases u with
    | none => cases h; exact ⟨rfl, .inl rfl⟩
    | some a =>
      obtain ⟨k, n, rfl, h2⟩ := onInt_some.1 h
      cases h2
      exact ⟨rfl, .inr ⟨k, n, rfl⟩⟩
  obtain ⟨rfl, hu2⟩ := hr
  refine ⟨rfl, rfl, fun w => ⟨.map (some w.heap.size), .map #[] 0, 0, w.alloc (.map #[] 0), ?_, rfl, rfl, rfl, rfl, fun E' n hle hn => ⟨⟨#[], 0, rfl, Born.nil, fun _ => rfl, MapR.nil E'⟩, by simp only [VR]; exact ⟨_, _, hn, rfl⟩⟩⟩⟩
  have hox := optO_good hG hu
  cases x with
  | none => simp [execOp, ho, Instr.makeMap]
  | some y =>
    rcases hu2 with rfl | ⟨k, n, rfl⟩
    · exact hox.elim
    · have hy : VR E (.int k n) (f y) := hox
      simp only [VR] at hy
      simp [execOp, ho, Instr.makeMap, run_und ht, hy, Go.asInt, Go.asIntOf]

theorem natArg_some {a : AV} {n : Nat} (h : natArg a = some n) : ∃ k, a = .int k (Int.ofNat n) := by
  simp only [natArg, onInt_some] at h
  obtain ⟨k, m, rfl, h⟩ := h
  cases m with
  | negSucc m => cases h
  | ofNat m => have h' : some m = some n := h; cases h'; exact ⟨k, rfl⟩

theorem kMakeSlice_ok {o : Oper} {t : TypeId} {l c : Operand} {r : AObj × (Nat → AV)} (ho : o.op = .makeSlice t l c) (h : kMakeSlice t l c P ρ = some r) (hG : Good E ρ f) : Mok P E f o r := by
  simp only [kMakeSlice, ob_some, og_some] at h
  obtain ⟨a, ha, b, hb, e, he, n, hn, m, hm, hlim, h⟩ := h
  cases h
  obtain ⟨k1, rfl⟩ := natArg_some hn
  obtain ⟨k2, rfl⟩ := natArg_some hm
  obtain ⟨el, z, i, ht, hi, hs, hbt, hz, hzc, hzl, h0, hb0⟩ := elemInfo_some he
  obtain ⟨z', hz1, hz2⟩ := zeroA_ok (E := E) hz
  have hcz := VRL.cells hz1
  rw [hzc] at hcz
  rw [Bool.and_eq_true, Bool.and_eq_true, Nat.ble_eq, Nat.ble_eq, Nat.ble_eq] at hlim
  obtain ⟨⟨hl1, hl2⟩, hl3⟩ := hlim
  have hx := hG l _ ha
  have hy := hG c _ hb
  simp only [VR] at hx hy
  have hmade := made_ok hcz (by omega) m
  rw [hzl] at hmade
  have hm16 : m ≤ 16777216 := by
    have : 1 * m ≤ e.2.1 * m := Nat.mul_le_mul_right _ (by omega)
    omega
  have hzz : i.zero = some z' := by
    have := hz2 default
    simp only [zeroValue, typeInfo, Sem.run_bind, run_program, Result.andThen_ok, hi, Sem.run_pure] at this
    cases hiz : i.zero with
    | none => rw [hiz] at this; simp at this
    | some q => rw [hiz] at this; simp at this; rw [this]
  have hmul : e.1 * m = m * e.1 := Nat.mul_comm _ _
  refine ⟨rfl, rfl, fun w => ⟨.slice (some ⟨w.heap.size, 0, none⟩) n m, .cells (madeCells z'.cells (m * i.size)) el, 0, w.alloc (.cells (madeCells z'.cells (m * i.size)) el), ?_, rfl, rfl, rfl, rfl, fun E' k hle hk => ⟨or_cells _ (VRL.mono hle _ _ (by rw [hs]; exact hmade)), by simp only [VR]; exact ⟨_, _, hk, rfl⟩⟩⟩⟩
  have hb1 : (i.bytes : Int) * (m : Int) ≤ 281474976710656 := by
    have h1 : ((e.2.1 * m : Nat) : Int) ≤ 16777216 := by omega
    rw [Int.natCast_mul] at h1
    rw [hbt]
    omega
  have hrun := run_makeSlice (P := P) (w := w) t el i z' ht hi hzz k1 k2 (n : Int) (m : Int) (by omega) (by omega) (by rw [Int.toNat_natCast, hs]; omega) hb1 (by omega)
  rw [Int.toNat_natCast, Int.toNat_natCast] at hrun
  simp only [execOp, ho, hx, hy, Int.ofNat_eq_natCast, Sem.run_bind]
  rw [hrun]
  rfl

theorem kToBytes_ok {o : Oper} {s d : TypeId} {x : Operand} {r : AObj × (Nat → AV)} (ho : o.op = .convert s d x) (h : kToBytes s d x P ρ = some r) (hG : Good E ρ f) : Mok P E f o r := by
  simp only [kToBytes, og_some, ob_some, bc_and] at h
  obtain ⟨⟨hs, hd⟩, u, hu, h⟩ := h
  obtain ⟨l, rfl, h'⟩ := onStr_some.1 h
  cases h'
  obtain ⟨el, he, he2⟩ := isBytes_true hd
  have hs := isStr_true hs
  have hx := hG x _ hu
  simp only [VR] at hx
  obtain ⟨b, hx, rfl⟩ := hx
  refine ⟨rfl, rfl, fun w => ?_⟩
  obtain ⟨cap, hcap⟩ : ∃ cap, cap = (Question.appendCap b.size 0 el).cut (w.tape w.drawn (.appendCap b.size 0 el)) := ⟨_, rfl⟩
  have hle : b.size ≤ cap := by rw [hcap]; simp only [Question.cut]; omega
  obtain ⟨arr, harr⟩ : ∃ arr : Array Value, arr = (b.data.map fun c => Value.int .u8 c.toNat) ++ Array.replicate (cap - b.size) (.int .u8 0) := ⟨_, rfl⟩
  have hsz : arr.size = cap := by
    rw [harr]
    simp
    have : b.data.size = b.size := rfl
    omega
  refine ⟨.slice (some ⟨w.heap.size, 0, none⟩) b.size cap, .cells arr el (cap, cap + 1), cap, { w with heap := w.heap.push (.cells arr el (cap, cap + 1)), drawn := w.drawn + 1 }, ?_, rfl, rfl, rfl, rfl, fun E' n hle' hn => ⟨⟨arr, el, _, rfl, fun i v hv => ?_, fun _ i hi h => by rw [hsz] at hi; simp only at h; omega, fun sz top h => ?_⟩, ?_⟩⟩
  · have hrun : (Conv.stringToBytes el b).run P w = .ok (.slice (some ⟨w.heap.size, 0, none⟩) b.size cap) { w with heap := w.heap.push (.cells arr el (cap, cap + 1)), drawn := w.drawn + 1 } := by
      simp only [Conv.stringToBytes, Sem.run_bind, run_choose, Question.forced, Bool.false_eq_true, if_false, Result.andThen_ok, ← hcap]
      rw [← harr, run_newRow]
      simp only [Result.andThen_ok, World.alloc, markStringish, Sem.run_bind, run_shape, World.shape?]
      simp only [Array.getElem?_push_size, Result.andThen_ok, run_freeze, Sem.run_pure]
      congr 1
      simp only [World.freeze, hsz]
      rw [if_neg (by omega)]
      congr 1
      rw [← hsz]
      apply Array.ext_getElem?
      intro j
      rw [Array.getElem?_modify]
      by_cases hj : w.heap.size = j
      · subst hj; simp
      · rw [if_neg hj]
        rw [Array.getElem?_push, Array.getElem?_push]
        rw [if_neg (by omega), if_neg (by omega)]
    simp only [execOp, ho, hx, convert, Sem.run_bind, run_und hs, run_und he, Result.andThen_ok, run_und he2, hrun]
    rfl
  · rw [mkCells_get _] at hv
    rw [List.getElem?_map, Option.map_eq_some_iff] at hv
    obtain ⟨c, hc, rfl⟩ := hv
    unfold bytesN at hc
    rw [List.getElem?_map, Option.map_eq_some_iff] at hc
    obtain ⟨u8, hu8, rfl⟩ := hc
    refine ⟨.int .u8 u8.toNat, ?_, by simp only [byteAV, VR]; rfl⟩
    rw [harr]
    have hi := (List.getElem?_eq_some_iff.1 hu8).1
    rw [Array.getElem?_append_left (by simpa using hi)]
    have : b.data[i]? = some u8 := by simpa using hu8
    simp [this]
  · cases h
    refine ⟨by omega, fun i v hv => ?_⟩
    rw [mkCells_get _] at hv
    have := (List.getElem?_eq_some_iff.1 hv).1
    rw [lenN_eq]
    simpa using this
  · simp only [VR, lenN_eq, bytesN_len]
    exact ⟨_, _, hn, Nat.le_refl _, by omega, by simp⟩

theorem make_ok {o : Oper} {r : AObj × (Nat → AV)} (h : makeA o.op P ρ = some r) (hG : Good E ρ f) : Mok P E f o r := by
  cases ho : o.op <;> rw [ho] at h <;> first | (cases h; done) | skip
  case alloc => exact kAlloc_ok ho h hG
  case box => exact kBox_ok ho h hG
  case buildSlice => exact kBuildSlice_ok ho h hG
  case convert => exact kToBytes_ok ho h hG
  case makeMap => exact kMakeMap_ok ho h hG
  case makeSlice => exact kMakeSlice_ok ho h hG
end Go.Ev
