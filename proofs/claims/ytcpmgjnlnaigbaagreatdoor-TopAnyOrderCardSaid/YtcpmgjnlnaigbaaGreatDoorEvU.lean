/- Regions whose order is drawn: one operation more. -/
import Derived.Test.YtcpmgjnlnaigbaaGreatDoorEvT
set_option linter.unusedVariables false
set_option linter.unusedSimpArgs false
namespace Go.Ev
open Go

variable {D : List Deferred} {P : Program} {call : CallFn} {n : Nat} {ops : Array Oper} {bef : Array Nat} {order : List Nat} {A : AH} {t : Tp} {st : Nat → DSt}
variable {E0 E E' : Ren} {w0 w w' : World} {q x i : Nat} {C : Array Bool} {a : Act} {o : Oper}

theorem getD_set {C : Array Bool} {i j : Nat} (hi : i < C.size) : (C.setIfInBounds i true).getD j false = if j = i then true else C.getD j false := by
  by_cases h : j = i
  · subst h; rw [if_pos rfl, Array.getD_eq_getD_getElem?, Array.getElem?_setIfInBounds_self_of_lt hi]; rfl
  · rw [if_neg h, Array.getD_eq_getD_getElem?, Array.getElem?_setIfInBounds_ne (fun e => h e.symm), Array.getD_eq_getD_getElem?]

/-- what stands of an operation whose turn may come -/
structure Turn (ops : Array Oper) (bef : Array Nat) (order : List Nat) (C : Array Bool) (x i : Nat) (o : Oper) : Prop where
  at' : order[x]? = some i
  op : ops[i]? = some o
  no : C.getD i false = false
  lt : i < C.size
  wait : ∀ b, Waits bef i b → C.getD b false = true

/-- who writes a name that the operation looks at or writes has come, or comes behind -/
theorem Turn.cond (T : Turn ops bef order C x i o) (R : Run P call n ops bef order A t st) (hcl : ∀ i b, C.getD i false = true → Waits bef i b → C.getD b false = true) {d : Nat} (hd : d ∈ o.looksAt ops ∨ o.dst = some d) :
    ∀ (p' i' : Nat) (o' : Oper), order[p']? = some i' → ops[i']? = some o' → o'.dst = some d → (C.getD i' false = true ↔ p' < x) := by
  intro p' i' o' hp ho hd'
  by_cases hii : i' = i
  · subst hii
    have := R.sta.nd p' x i' hp T.at'
    subst this
    rw [T.no]
    constructor
    · intro h; cases h
    · intro h; omega
  · rcases R.sta.name i' i o' o d ho T.op hii hd' hd with h | h
    · have h1 : ¬ (C.getD i' false = true) := fun hc => by have := hcl i' i hc h; rw [T.no] at this; cases this
      obtain ⟨p'', h2, h3⟩ := R.sta.befLt p' i' i hp h
      have := R.sta.nd p'' x i h3 T.at'
      subst this
      constructor
      · intro hc; exact absurd hc h1
      · intro hc; omega
    · obtain ⟨p'', h2, h3⟩ := R.sta.befLt x i i' T.at' h
      have := R.sta.nd p'' p' i' h3 hp
      subst this
      exact ⟨fun _ => h2, fun _ => T.wait i' h⟩

theorem Turn.val (T : Turn ops bef order C x i o) (R : Run P call n ops bef order A t st) (I : Inv P n ops bef order A st E0 w0 D q C E a w) : ∀ d v, opdR (o.looksAt ops) (st x).t (.tmp d) = some v → ∃ v', a.tmps[d]? = some v' ∧ VR E v v' := by
  intro d v hv
  have hv' : og ((o.looksAt ops).contains d) (get3 (st x).t d) = some v := hv
  rw [og_some] at hv'
  obtain ⟨h1, h2⟩ := hv'
  exact I.tmp d x (Nat.le_of_lt (R.pos_lt T.at')) (T.cond R I.closed (.inl (by simpa using h1))) v h2

theorem Turn.good (T : Turn ops bef order C x i o) (R : Run P call n ops bef order A t st) (I : Inv P n ops bef order A st E0 w0 D q C E a w) (hGl : Glb E) : Good E (opdR (o.looksAt ops) (st x).t) a.eval := by
  intro y v hv
  cases y with
  | tmp d =>
    obtain ⟨v', h1, h2⟩ := T.val R I d v hv
    have : a.eval (.tmp d) = v' := by simp [Act.eval, Array.getD_eq_getD_getElem?, h1]
    rw [this]; exact h2
  | const c =>
    have hv' : absV c = some v := hv
    exact absV_ok E c v hv'
  | global g =>
    have hv' : og (Nat.ble (g + 1) 1000) (some (.ptr (some (g, 0)))) = some v := hv
    rw [og_some, Nat.ble_eq] at hv'
    obtain ⟨hg, hv'⟩ := hv'
    cases hv'
    obtain ⟨κ, hκ⟩ := hGl g (by omega)
    simp only [VR]
    exact ⟨g, κ, hκ, rfl⟩
  | func k =>
    have hv' : some (AV.func (.func k) [] []) = some v := hv
    cases hv'
    simp only [VR]
    exact ⟨_, _, rfl, by simp [VRL], by simp [VRL]⟩

theorem tmp_add (T : Turn ops bef order C x i o) (R : Run P call n ops bef order A t st) (hlim : n ≤ 512) (I : Inv P n ops bef order A st E0 w0 D q C E a w) (hle : E.le E') {v' : Value} (hdn : ∀ d, o.dst = some d → d < n) (hv : ∀ d, o.dst = some d → ∀ v, get3 (st (x + 1)).t d = some v → VR E' v v') :
    ∀ d p, p ≤ ops.size → (∀ (p' i' : Nat) (o' : Oper), order[p']? = some i' → ops[i']? = some o' → o'.dst = some d → ((C.setIfInBounds i true).getD i' false = true ↔ p' < p)) → ∀ v, get3 (st p).t d = some v → ∃ u, (a.put o.dst v').tmps[d]? = some u ∧ VR E' v u := by
  intro d p hp hw v hg
  by_cases hd : o.dst = some d
  · have hxp : x < p := (hw x i o T.at' T.op hd).1 (by rw [getD_set T.lt, if_pos rfl])
    have h1 := R.tmp hlim (d := d) (p := p) (q := x + 1) (by omega) hp (fun x' i' o' h2 h3 h4 h5 h6 => by
      have hii : i' ≠ i := fun e => by subst e; have := R.sta.nd x' x i' h4 T.at'; omega
      have h7 := (hw x' i' o' h4 h5 h6).2 h3
      rw [getD_set T.lt, if_neg hii] at h7
      have := (T.cond R I.closed (.inr hd) x' i' o' h4 h5 h6).1 h7
      omega)
    rw [h1] at hg
    refine ⟨v', ?_, hv d hd v hg⟩
    rw [hd]
    simp only [Act.put]
    exact Array.getElem?_setIfInBounds_self_of_lt (by rw [I.tsz]; exact hdn d hd)
  · obtain ⟨u, h1, h2⟩ := I.tmp d p hp (fun p' i' o' h3 h4 h5 => by
      have hii : i' ≠ i := fun e => by subst e; rw [T.op] at h4; cases h4; exact hd h5
      have := hw p' i' o' h3 h4 h5
      rwa [getD_set T.lt, if_neg hii] at this) v hg
    refine ⟨u, ?_, VR.mono hle _ _ h2⟩
    cases hdd : o.dst with
    | none => exact h1
    | some e =>
      simp only [Act.put]
      rw [Array.getElem?_setIfInBounds_ne (fun h => hd (by rw [hdd, h]))]
      exact h1

theorem put_size (a : Act) (d : Option Nat) (v : Value) : (a.put d v).tmps.size = a.tmps.size := by cases d <;> simp [Act.put]

theorem closed_add (T : Turn ops bef order C x i o) (hcl : ∀ i b, C.getD i false = true → Waits bef i b → C.getD b false = true) : ∀ j b, (C.setIfInBounds i true).getD j false = true → Waits bef j b → (C.setIfInBounds i true).getD b false = true := by
  intro j b hj hb
  rw [getD_set T.lt] at hj ⊢
  split
  · rfl
  · split at hj
    · rename_i h; subst h; exact T.wait b hb
    · exact hcl j b hj hb

/-- an operation that leaves the heap as it is, and does not act -/
theorem Inv.still (T : Turn ops bef order C x i o) (R : Run P call n ops bef order A t st) (hlim : n ≤ 512) (I : Inv P n ops bef order A st E0 w0 D q C E a w) (hqx : q ≤ x) (hna : isAct P ops i = false) (hh : (st (x + 1)).h = (st x).h) {v' : Value} (hdn : ∀ d, o.dst = some d → d < n) (hv : ∀ d, o.dst = some d → ∀ v, get3 (st (x + 1)).t d = some v → VR E v v') :
    Inv P n ops bef order A st E0 w0 D q (C.setIfInBounds i true) E (a.put o.dst v') w := by
  have hfl : ∀ {p}, Float st order q (C.setIfInBounds i true) p → Float st order q C p := by
    rintro p ⟨h1, ⟨j, h2, h3⟩, h4⟩
    refine ⟨h1, ⟨j, h2, ?_⟩, h4⟩
    rw [getD_set T.lt] at h3
    split at h3
    · rename_i e; subst e
      have := R.sta.nd p x j h2 T.at'
      subst this
      rw [hh] at h4; omega
    · exact h3
  refine ⟨by simp [I.csz], closed_add T I.closed, fun p j hp hj => ?_, fun p j hp hj hc => ?_, I.qle, I.mr, I.mrg, I.le, I.dom, I.frm, I.old, fun p h => I.flo p (hfl h), fun p p' b b' κ κ' h h' => I.floD p p' b b' κ κ' (hfl h) (hfl h'), fun m y h => ?_, by rw [put_size, I.tsz], tmp_add T R hlim I (Ren.le_refl E) hdn hv, by rw [put_defers', I.dfr]⟩
  · rw [getD_set T.lt]; split
    · rfl
    · exact I.pre p j hp hj
  · rw [getD_set T.lt] at hc
    split at hc
    · rename_i e; subst e; exact hna
    · exact I.post p j hp hj hc
  · rcases I.nam m y h with h1 | h1 | ⟨p, ⟨h1, ⟨j, h2, h3⟩, h4⟩, h5⟩
    · exact .inl h1
    · exact .inr (.inl h1)
    · exact .inr (.inr ⟨p, ⟨h1, ⟨j, h2, by rw [getD_set T.lt]; split; rfl; exact h3⟩, h4⟩, h5⟩)

/-- an act that is left out, at its turn -/
theorem Inv.skipAct (T : Turn ops bef order C x i o) (R : Run P call n ops bef order A t st) (hlim : n ≤ 512) (I : Inv P n ops bef order A st E0 w0 D x C E a w) (hh : (st (x + 1)).h = (st x).h) (hg : (st (x + 1)).g = (st x).g) {v' : Value} (hdn : ∀ d, o.dst = some d → d < n) (hv : ∀ d, o.dst = some d → ∀ v, get3 (st (x + 1)).t d = some v → VR E v v') :
    Inv P n ops bef order A st E0 w0 D (x + 1) (C.setIfInBounds i true) E (a.put o.dst v') w := by
  have hx := R.pos_lt T.at'
  have hfl : ∀ {p}, Float st order (x + 1) (C.setIfInBounds i true) p → Float st order x C p := by
    rintro p ⟨h1, ⟨j, h2, h3⟩, h4⟩
    refine ⟨by omega, ⟨j, h2, ?_⟩, h4⟩
    rw [getD_set T.lt] at h3
    split at h3
    · rename_i e; subst e
      have := R.sta.nd p x j h2 T.at'
      omega
    · exact h3
  refine ⟨by simp [I.csz], closed_add T I.closed, fun p j hp hj => ?_, fun p j hp hj hc => ?_, by omega, by rw [hh]; exact I.mr, by rw [hg]; exact I.mrg, I.le, I.dom, I.frm, by rw [hh]; exact I.old, fun p h => ?_, fun p p' b b' κ κ' h h' => I.floD p p' b b' κ κ' (hfl h) (hfl h'), fun m y h => ?_, by rw [put_size, I.tsz], tmp_add T R hlim I (Ren.le_refl E) hdn hv, by rw [put_defers', I.dfr]⟩
  · rw [getD_set T.lt]; split
    · rfl
    · rename_i hne
      refine I.pre p j ?_ hj
      rcases Nat.lt_or_ge p x with h | h
      · exact h
      · have : p = x := by omega
        subst this; rw [T.at'] at hj; cases hj; exact absurd rfl hne
  · rw [getD_set T.lt] at hc
    split at hc
    · rename_i e; subst e
      have := R.sta.nd p x j hj T.at'
      omega
    · exact I.post p j (by omega) hj hc
  · obtain ⟨b, κ, ob', r, h3, h4, h5, h6, h7, h8, h9, h10⟩ := (I.flo p (hfl h)).ok
    exact ⟨b, κ, ob', r, h3, h4, h5, h6, h7, h8, h9, by rw [hh]; exact h10⟩
  · rcases I.nam m y h with h1 | h1 | ⟨p, ⟨h1, ⟨j, h2, h3⟩, h4⟩, h5⟩
    · exact .inl h1
    · exact .inr (.inl (by rw [hh]; exact h1))
    · refine .inr (.inr ⟨p, ⟨?_, ⟨j, h2, by rw [getD_set T.lt]; split; rfl; exact h3⟩, h4⟩, h5⟩)
      rcases Nat.lt_or_ge x p with h6 | h6
      · exact h6
      · have : p = x := by omega
        subst this; rw [T.at'] at h2; cases h2; rw [T.no] at h3; cases h3

/-- an operation that makes, whenever it comes -/
theorem Inv.make (T : Turn ops bef order C x i o) (R : Run P call n ops bef order A t st) (hlim : n ≤ 512) (I : Inv P n ops bef order A st E0 w0 D q C E a w) (hF : Fresh E0 A (st ops.size).h) (hqx : q ≤ x) (hna : isAct P ops i = false) {r : AObj} {ob' : Obj} {κ : Nat} (hh : (st (x + 1)).h = (st x).h.push r) (hrl : r.live = true) (hro : r.ro = false)
    (hw1 : w'.heap = w.heap.push ob') (hw2 : w'.os = w.os) (hw3 : w'.tape = w.tape) (hw4 : w'.output = w.output) (hor : ∀ E'' : Ren, E.le E'' → E'' (st x).h.next = some (w.heap.size, κ) → OR E'' κ r ob') {v' : Value} (hdn : ∀ d, o.dst = some d → d < n)
    (hv : ∀ E'' : Ren, E.le E'' → E'' (st x).h.next = some (w.heap.size, κ) → ∀ d, o.dst = some d → ∀ v, get3 (st (x + 1)).t d = some v → VR E'' v v') :
    ∃ E'', Inv P n ops bef order A st E0 w0 D q (C.setIfInBounds i true) E'' (a.put o.dst v') w' := by
  have hx := R.pos_lt T.at'
  have hnx : (st (x + 1)).h.next = (st x).h.next + 1 := by rw [hh]; rfl
  have h0x := R.next (q := 0) (p := x) (Nat.zero_le _) (by omega)
  rw [R.st0] at h0x
  simp only at h0x
  have hqn := R.next hqx (by omega)
  have hfin := R.next (q := x + 1) (p := ops.size) (by omega) (Nat.le_refl _)
  have hflo : ∀ {p}, Float st order q C p → p ≠ x := by
    rintro p ⟨_, ⟨j, h2, h3⟩, _⟩ rfl
    rw [T.at'] at h2; cases h2; rw [T.no] at h3; cases h3
  have hfname : ∀ {p}, Float st order q C p → (st p).h.next ≠ (st x).h.next := by
    intro p hf he
    have h1 := hf.lt R
    have h2 := hf.2.2
    rcases Nat.lt_trichotomy p x with hlt | h | hlt
    · have := R.next (q := p + 1) (p := x) (by omega) (by omega); omega
    · exact hflo hf h
    · have := R.next (q := x + 1) (p := p) (by omega) (by omega); omega
  have hEn : E (st x).h.next = none := by
    cases hE : E (st x).h.next with
    | none => rfl
    | some y =>
      exfalso
      rcases I.nam _ _ hE with h1 | h1 | ⟨p, h1, h2⟩
      · rw [hF _ h0x (by omega)] at h1; cases h1
      · omega
      · exact hfname h1 h2.symm
  have hle := Ren.le_put hEn w.heap.size κ
  have hself := Ren.put_self E (st x).h.next w.heap.size κ
  have hkeep : ∀ (b : Nat) (o : Obj), w.heap[b]? = some o → w'.heap[b]? = some o := fun b o hb => by
    have := (Array.getElem?_eq_some_iff.1 hb).1
    rw [hw1, Array.getElem?_push, if_neg (by omega)]; exact hb
  have hput : ∀ m y, m ≠ (st x).h.next → E.put (st x).h.next w.heap.size κ m = some y → E m = some y := fun m y hm h => by
    unfold Ren.put at h; rwa [if_neg hm] at h
  have hblk : ∀ m o b κ', (st q).h.get m = some o → E m = some (b, κ') → b < w.heap.size := fun m o b κ' hm he => by
    obtain ⟨_, b1, κ1, h2, ob1, h3, _⟩ := I.mr.blk m o hm
    rw [he] at h2; cases h2
    exact (Array.getElem?_eq_some_iff.1 h3).1
  have hfl : ∀ {p}, Float st order q (C.setIfInBounds i true) p → p = x ∨ Float st order q C p := by
    rintro p ⟨h1, ⟨j, h2, h3⟩, h4⟩
    rw [getD_set T.lt] at h3
    split at h3
    · rename_i e; subst e; exact .inl (R.sta.nd p x j h2 T.at')
    · exact .inr ⟨h1, ⟨j, h2, h3⟩, h4⟩
  have hfx : Float st order q (C.setIfInBounds i true) x := ⟨hqx, ⟨i, T.at', by rw [getD_set T.lt, if_pos rfl]⟩, hnx⟩
  have hfu : ∀ {p}, Float st order q C p → Float st order q (C.setIfInBounds i true) p := by
    rintro p ⟨h1, ⟨j, h2, h3⟩, h4⟩
    exact ⟨h1, ⟨j, h2, by rw [getD_set T.lt]; split; rfl; exact h3⟩, h4⟩
  refine ⟨E.put (st x).h.next w.heap.size κ, by simp [I.csz], closed_add T I.closed, fun p j hp hj => ?_, fun p j hp hj hc => ?_, I.qle, I.mr.grow hle hkeep, I.mrg.grow hle hkeep, Ren.le_trans I.le hle, fun m b κ' h => ?_, ⟨hw2.trans I.frm.os, hw3.trans I.frm.tape, hw4.trans I.frm.output, by rw [hw1]; have := I.frm.size; simp; omega, fun b hb hn => ?_⟩, I.old, fun p h => ?_, fun p p' b b' κ1 κ2 h h' hne he he' => ?_, fun m y h => ?_, by rw [put_size, I.tsz], tmp_add T R hlim I hle hdn (hv _ hle hself), by rw [put_defers', I.dfr]⟩
  · rw [getD_set T.lt]; split
    · rfl
    · exact I.pre p j hp hj
  · rw [getD_set T.lt] at hc
    split at hc
    · rename_i e; subst e; exact hna
    · exact I.post p j hp hj hc
  · by_cases hm : m = (st x).h.next
    · subst hm
      rw [hself] at h
      cases h
      exact .inr ⟨h0x, by omega, .inl I.frm.size⟩
    · exact I.dom m b κ' (hput m _ hm h)
  · rw [hw1, Array.getElem?_push, if_neg (by have := I.frm.size; omega)]
    exact I.frm.block b hb hn
  · rcases hfl h with rfl | h
    · exact ⟨w.heap.size, κ, ob', r, hself, I.frm.size, by rw [hw1]; simp, hh, hrl, hro, hor _ hle hself, fun m o κ' hm hl he => by
        have hmn := (I.mr.blk m o hm).1
        have := hblk m o _ _ hm (hput m _ (by omega) he)
        omega⟩
    · obtain ⟨b, κ', ob1, r1, h3, h4, h5, h6, h7, h8, h9, h10⟩ := (I.flo p h).ok
      exact ⟨b, κ', ob1, r1, hle _ _ h3, h4, hkeep _ _ h5, h6, h7, h8, h9.mono hle, fun m o κ'' hm hl he => by
        have hmn := (I.mr.blk m o hm).1
        exact h10 m o κ'' hm hl (hput m _ (by omega) he)⟩
  · have hfb : ∀ {p b κ'}, Float st order q C p → E.put (st x).h.next w.heap.size κ (st p).h.next = some (b, κ') → E (st p).h.next = some (b, κ') ∧ b < w.heap.size := by
      intro p b κ' hf h
      have h1 := hput _ _ (hfname hf) h
      obtain ⟨b1, κ1, ob1, r1, h3, h4, h5, _⟩ := (I.flo p hf).ok
      rw [h3] at h1
      cases h1
      exact ⟨h3, (Array.getElem?_eq_some_iff.1 h5).1⟩
    rcases hfl h with rfl | h <;> rcases hfl h' with rfl | h'
    · exact absurd rfl hne
    · rw [hself] at he
      cases he
      have := (hfb h' he').2
      omega
    · rw [hself] at he'
      cases he'
      have := (hfb h he).2
      omega
    · exact I.floD p p' b b' κ1 κ2 h h' hne (hfb h he).1 (hfb h' he').1
  · by_cases hm : m = (st x).h.next
    · exact .inr (.inr ⟨x, hfx, hm⟩)
    · rcases I.nam m y (hput m _ hm h) with h1 | h1 | ⟨p, h1, h2⟩
      · exact .inl h1
      · exact .inr (.inl h1)
      · exact .inr (.inr ⟨p, hfu h1, h2⟩)

/-- an act, at its turn -/
theorem Inv.act (T : Turn ops bef order C x i o) (R : Run P call n ops bef order A t st) (hlim : n ≤ 512) (I : Inv P n ops bef order A st E0 w0 D x C E a w) (hF : Fresh E0 A (st ops.size).h) (hFx : Fresh E (st x).h (st (x + 1)).h) (s : Stp E (st x).h w E' (st (x + 1)).h w') (hg : (st (x + 1)).g = (st (x + 1)).h) {v' : Value} (hdn : ∀ d, o.dst = some d → d < n)
    (hv : ∀ d, o.dst = some d → ∀ v, get3 (st (x + 1)).t d = some v → VR E' v v') : Inv P n ops bef order A st E0 w0 D (x + 1) (C.setIfInBounds i true) E' (a.put o.dst v') w' := by
  have hx := R.pos_lt T.at'
  have h0x := R.next (q := 0) (p := x) (Nat.zero_le _) (by omega)
  rw [R.st0] at h0x
  simp only at h0x
  have hfin := R.next (q := x + 1) (p := ops.size) (by omega) (Nat.le_refl _)
  have hfl : ∀ {p}, Float st order (x + 1) (C.setIfInBounds i true) p → Float st order x C p := by
    rintro p ⟨h1, ⟨j, h2, h3⟩, h4⟩
    refine ⟨by omega, ⟨j, h2, ?_⟩, h4⟩
    rw [getD_set T.lt] at h3
    split at h3
    · rename_i e; subst e
      have := R.sta.nd p x j h2 T.at'
      omega
    · exact h3
  have own0 : ∀ b, b < w0.heap.size → Own E (st x).h b → Own E0 A b := by
    rintro b hb ⟨m, o, κ, h1, h2, h3, h4⟩
    rcases I.dom m b κ h4 with h5 | ⟨h5, h6, h7 | h7⟩
    · have hlt : m < A.next := by
        rcases Nat.lt_or_ge m A.next with h | h
        · exact h
        · have h8 := (I.mr.blk m o h1).1
          have h9 := R.next (q := x) (p := ops.size) (by omega) (Nat.le_refl _)
          rw [hF m h (by omega)] at h5; cases h5
      obtain ⟨p, hp, hl, hr⟩ := I.old m o hlt h1 h2
      exact ⟨m, p, κ, hp, hl, by rw [hr]; exact h3, h5⟩
    · omega
    · exact h7
  have hkeep : ∀ {p b κ} (hf : Float st order x C p), E (st p).h.next = some (b, κ) → ∀ ob', w.heap[b]? = some ob' → (∀ m o κ', (st x).h.get m = some o → o.live = true → E m ≠ some (b, κ')) → w'.heap[b]? = some ob' := by
    intro p b κ hf he ob' hb hap
    rw [s.frm.block b (Array.getElem?_eq_some_iff.1 hb).1, hb]
    rintro ⟨m, o, κ', h1, h2, _, h4⟩
    exact hap m o κ' h1 h2 h4
  refine ⟨by simp [I.csz], closed_add T I.closed, fun p j hp hj => ?_, fun p j hp hj hc => ?_, by omega, s.mr, by rw [hg]; exact s.mr, Ren.le_trans I.le s.le, fun m b κ h => ?_, ⟨s.frm.os.trans I.frm.os, s.frm.tape.trans I.frm.tape, s.frm.output.trans I.frm.output, Nat.le_trans I.frm.size s.frm.size, fun b hb hn => ?_⟩, fun m o hm ho hl => ?_, fun p h => ?_, fun p p' b b' κ κ' h h' hne he he' => ?_, fun m y h => ?_, by rw [put_size, I.tsz], tmp_add T R hlim I s.le hdn hv, by rw [put_defers', I.dfr]⟩
  · rw [getD_set T.lt]; split
    · rfl
    · rename_i hne
      refine I.pre p j ?_ hj
      rcases Nat.lt_or_ge p x with h | h
      · exact h
      · have : p = x := by omega
        subst this; rw [T.at'] at hj; cases hj; exact absurd rfl hne
  · rw [getD_set T.lt] at hc
    split at hc
    · rename_i e; subst e
      have := R.sta.nd p x j hj T.at'
      omega
    · exact I.post p j (by omega) hj hc
  · rcases s.dom m b κ h with h1 | ⟨h1, h2, h3⟩
    · exact I.dom m b κ h1
    · refine .inr ⟨by omega, by omega, ?_⟩
      rcases h3 with h3 | h3
      · exact .inl (Nat.le_trans I.frm.size h3)
      · rcases Nat.lt_or_ge b w0.heap.size with hb | hb
        · exact .inr (own0 b hb h3)
        · exact .inl hb
  · rw [s.frm.block b (Nat.lt_of_lt_of_le hb I.frm.size) (fun h => hn (own0 b hb h)), I.frm.block b hb hn]
  · obtain ⟨p, hp, hl', hr⟩ := s.old m o (by omega) ho hl
    obtain ⟨p', hp', hl'', hr'⟩ := I.old m p hm hp hl'
    exact ⟨p', hp', hl'', fun h => hr' (hr h)⟩
  · have hf := hfl h
    obtain ⟨b, κ, ob', r, h3, h4, h5, h6, h7, h8, h9, h10⟩ := (I.flo p hf).ok
    have hb := (Array.getElem?_eq_some_iff.1 h5).1
    refine ⟨b, κ, ob', r, s.le _ _ h3, h4, hkeep hf h3 ob' h5 h10, h6, h7, h8, h9.mono s.le, fun m o κ' hm hl he => ?_⟩
    have hmn := (s.mr.blk m o hm).1
    rcases s.dom m b κ' he with h11 | ⟨h11, h12, h13 | h13⟩
    · rcases Nat.lt_or_ge m (st x).h.next with hlt | hge
      · obtain ⟨p', hp', hl', _⟩ := s.old m o hlt hm hl
        exact h10 m p' κ' hp' hl' h11
      · rw [hFx m hge hmn] at h11; cases h11
    · omega
    · obtain ⟨m', o', κ'', h14, h15, _, h16⟩ := h13
      exact h10 m' o' κ'' h14 h15 h16
  · have hf := hfl h
    have hf' := hfl h'
    obtain ⟨b1, κ1, _, _, h3, _⟩ := (I.flo p hf).ok
    obtain ⟨b2, κ2, _, _, h4, _⟩ := (I.flo p' hf').ok
    have e1 := s.le _ _ h3
    have e2 := s.le _ _ h4
    rw [he] at e1
    rw [he'] at e2
    cases e1
    cases e2
    exact I.floD p p' b b' κ κ' hf hf' hne h3 h4
  · rcases s.dom m y.1 y.2 h with h1 | ⟨h1, h2, h3⟩
    · rcases I.nam m _ h1 with h4 | h4 | ⟨p, ⟨h5, ⟨j, h6, h7⟩, h8⟩, h9⟩
      · exact .inl h4
      · exact .inr (.inl (Nat.lt_of_lt_of_le h4 s.nxt))
      · refine .inr (.inr ⟨p, ⟨?_, ⟨j, h6, by rw [getD_set T.lt]; split; rfl; exact h7⟩, h8⟩, h9⟩)
        rcases Nat.lt_or_ge x p with h10 | h10
        · exact h10
        · have : p = x := by omega
          subst this; rw [T.at'] at h6; cases h6; rw [T.no] at h7; cases h7
    · exact .inr (.inl h2)
end Go.Ev
