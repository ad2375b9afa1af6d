/- Regions whose order is drawn: the machine, whatever the order. -/
import Derived.Test.YtcpmgjnlnaigbaaGreatDoorEvS
set_option linter.unusedVariables false
set_option linter.unusedSimpArgs false
namespace Go.Ev
open Go

variable {D : List Deferred} {P : Program} {call : CallFn} {n : Nat} {ops : Array Oper} {bef : Array Nat} {order : List Nat} {A : AH} {t : Tp} {st : Nat → DSt}

theorem OR.mono' {E E' : Ren} (h : E.le E') {κ : Nat} {a : AObj} {o : Obj} (ho : OR E κ a o) : OR E' κ a o := ho.mono h

theorem MR.grow {E E' : Ren} {A : AH} {w w' : World} (h : MR E A w) (hle : E.le E') (hw : ∀ (b : Nat) (o : Obj), w.heap[b]? = some o → w'.heap[b]? = some o) : MR E' A w' := by
  refine ⟨fun m o ho => ?_, fun m k o p b κ κ' ho hp hl hl' he he' => ?_⟩
  · obtain ⟨h1, b, κ, h2, ob', h3, h4⟩ := h.blk m o ho
    exact ⟨h1, b, κ, hle _ _ h2, ob', hw _ _ h3, h4.mono hle⟩
  · obtain ⟨_, b1, κ1, h2, _⟩ := h.blk m o ho
    obtain ⟨_, b2, κ2, h3, _⟩ := h.blk k p hp
    have e1 := hle _ _ h2
    have e2 := hle _ _ h3
    rw [he] at e1
    rw [he'] at e2
    cases e1
    cases e2
    exact h.inj m k o p b κ κ' ho hp hl hl' h2 h3

/-- a block that was made ahead of its turn -/
def Float (st : Nat → DSt) (order : List Nat) (q : Nat) (C : Array Bool) (p : Nat) : Prop := q ≤ p ∧ (∃ i, order[p]? = some i ∧ C.getD i false = true) ∧ (st (p + 1)).h.next = (st p).h.next + 1

structure FloatOk (st : Nat → DSt) (w0 : World) (E : Ren) (w : World) (q p : Nat) : Prop where
  ok : ∃ b κ ob' r, E ((st p).h.next) = some (b, κ) ∧ w0.heap.size ≤ b ∧ w.heap[b]? = some ob' ∧ (st (p + 1)).h = (st p).h.push r ∧ r.live = true ∧ r.ro = false ∧ OR E κ r ob' ∧ ∀ m o κ', (st q).h.get m = some o → o.live = true → E m ≠ some (b, κ')

structure Inv (P : Program) (n : Nat) (ops : Array Oper) (bef : Array Nat) (order : List Nat) (A : AH) (st : Nat → DSt) (E0 : Ren) (w0 : World) (D : List Deferred) (q : Nat) (C : Array Bool) (E : Ren) (a : Act) (w : World) : Prop where
  csz : C.size = ops.size
  closed : ∀ i b, C.getD i false = true → Waits bef i b → C.getD b false = true
  pre : ∀ (p i : Nat), p < q → order[p]? = some i → C.getD i false = true
  post : ∀ (p i : Nat), q ≤ p → order[p]? = some i → C.getD i false = true → isAct P ops i = false
  qle : q ≤ ops.size
  mr : MR E (st q).h w
  mrg : MR E (st q).g w
  le : E0.le E
  dom : ∀ m b κ, E m = some (b, κ) → E0 m = some (b, κ) ∨ (A.next ≤ m ∧ m < (st ops.size).h.next ∧ (w0.heap.size ≤ b ∨ Own E0 A b))
  frm : Frm E0 A w0 w
  old : ∀ m o, m < A.next → (st q).h.get m = some o → o.live = true → ∃ p, A.get m = some p ∧ p.live = true ∧ (o.ro = false → p.ro = false)
  flo : ∀ p, Float st order q C p → FloatOk st w0 E w q p
  floD : ∀ p p' b b' κ κ', Float st order q C p → Float st order q C p' → p ≠ p' → E (st p).h.next = some (b, κ) → E (st p').h.next = some (b', κ') → b ≠ b'
  nam : ∀ m x, E m = some x → E0 m = some x ∨ m < (st q).h.next ∨ ∃ p, Float st order q C p ∧ m = (st p).h.next
  tsz : a.tmps.size = n
  tmp : ∀ d p, p ≤ ops.size → (∀ (p' i' : Nat) (o' : Oper), order[p']? = some i' → ops[i']? = some o' → o'.dst = some d → (C.getD i' false = true ↔ p' < p)) → ∀ v, get3 (st p).t d = some v → ∃ v', a.tmps[d]? = some v' ∧ VR E v v'
  dfr : a.defers = D

variable {E0 E : Ren} {w0 w : World} {q : Nat} {C : Array Bool} {a : Act}

theorem Float.lt (R : Run P call n ops bef order A t st) {p : Nat} (h : Float st order q C p) : p < ops.size := by
  obtain ⟨_, ⟨i, hi, _⟩, _⟩ := h
  exact R.pos_lt hi
theorem Float.name_inj (R : Run P call n ops bef order A t st) {p p' : Nat} (h : Float st order q C p) (h' : Float st order q C p') (he : (st p).h.next = (st p').h.next) : p = p' := by
  have := h.lt R
  have := h'.lt R
  have e1 := h.2.2
  have e2 := h'.2.2
  rcases Nat.lt_trichotomy p p' with hlt | h | hlt
  · have := R.next (q := p + 1) (p := p') (by omega) (by omega); omega
  · exact h
  · have := R.next (q := p' + 1) (p := p) (by omega) (by omega); omega

theorem inv_start (R : Run P call n ops bef order A t st) (hM : MR E0 A w0) (hT : TR E0 t n a) (hn : (st ops.size).h.next = (st ops.size).h.next) : Inv P n ops bef order A st E0 w0 a.defers 0 (Array.replicate ops.size false) E0 a w0 := by
  have hC : ∀ i, (Array.replicate ops.size false).getD i false = false := fun i => by
    rw [Array.getD_eq_getD_getElem?, Array.getElem?_replicate]; split <;> rfl
  have hs := R.st0
  refine ⟨by simp, fun i b h => ?_, fun p i h => by omega, fun p i _ _ h => ?_, Nat.zero_le _, by rw [hs]; exact hM, by rw [hs]; exact hM, Ren.le_refl _, fun m b κ h => .inl h, ⟨rfl, rfl, rfl, Nat.le_refl _, fun _ _ _ => rfl⟩, fun m o hm ho hl => ?_, fun p h => ?_, fun p p' b b' κ κ' h => ?_, fun m x h => .inl h, hT.size, fun d p hp hw v hv => ?_, rfl⟩
  · rw [hC] at h; cases h
  · rw [hC] at h; cases h
  · rw [hs] at ho; exact ⟨o, ho, hl, id⟩
  · obtain ⟨_, ⟨i, _, h⟩, _⟩ := h; rw [hC] at h; cases h
  · obtain ⟨_, ⟨i, _, h⟩, _⟩ := h; rw [hC] at h; cases h
  · have := R.tmp hT.lim (d := d) (p := p) (q := 0) (Nat.zero_le _) hp (fun x i o _ hx hi ho hd => by
      have := (hw x i o hi ho hd).2 hx
      rw [hC] at this; cases this)
    rw [this, hs] at hv
    exact hT.val d v hv

/-- one that was done ahead comes to its turn -/
theorem Inv.absorb (R : Run P call n ops bef order A t st) (I : Inv P n ops bef order A st E0 w0 D q C E a w) (hA : ∀ m o, A.get m = some o → m < A.next) {i : Nat} (hi : order[q]? = some i) (hC : C.getD i false = true) : Inv P n ops bef order A st E0 w0 D (q + 1) C E a w := by
  have hna := I.post q i (Nat.le_refl _) hi hC
  obtain ⟨o, ho, hs⟩ := R.step q i hi
  have hq := R.pos_lt hi
  have hfl : ∀ {p}, Float st order (q + 1) C p → Float st order q C p := fun h => ⟨by have := h.1; omega, h.2⟩
  have hpre : ∀ (p j : Nat), p < q + 1 → order[p]? = some j → C.getD j false = true := fun p j hp hj => by
    rcases Nat.lt_or_ge p q with h | h
    · exact I.pre p j h hj
    · have : p = q := by omega
      subst this; rw [hi] at hj; cases hj; exact hC
  -- the heap: as it was, or one block more
  have hh : ((st (q + 1)).h = (st q).h ∧ (st (q + 1)).g = (st q).g) ∨ ((st (q + 1)).h.next = (st q).h.next + 1 ∧ (st (q + 1)).g = (st q).g) := by
    generalize hs1 : st (q + 1) = s1 at hs ⊢
    cases hs with
    | skip => exact .inl ⟨rfl, rfl⟩
    | pure => exact .inl ⟨rfl, rfl⟩
    | read => exact .inl ⟨rfl, rfl⟩
    | make => exact .inr ⟨rfl, rfl⟩
    | act v A' t' hw hc => rw [(isAct_iff ho).2 hc] at hna; cases hna
  rcases hh with ⟨h1, h2⟩ | ⟨h1, h2⟩
  · refine ⟨I.csz, I.closed, hpre, fun p j hp => I.post p j (by omega), by omega, by rw [h1]; exact I.mr, by rw [h2]; exact I.mrg, I.le, I.dom, I.frm, by rw [h1]; exact I.old, fun p h => ?_, fun p p' b b' κ κ' h h' => I.floD p p' b b' κ κ' (hfl h) (hfl h'), fun m x h => ?_, I.tsz, I.tmp, I.dfr⟩
    · obtain ⟨b, κ, ob', r, h3, h4, h5, h6, h7, h8, h9, h10⟩ := (I.flo p (hfl h)).ok
      exact ⟨b, κ, ob', r, h3, h4, h5, h6, h7, h8, h9, by rw [h1]; exact h10⟩
    · rcases I.nam m x h with h3 | h3 | ⟨p, h3, h4⟩
      · exact .inl h3
      · exact .inr (.inl (by rw [h1]; exact h3))
      · by_cases hp : p = q
        · subst hp; have := h3.2.2; rw [h1] at this; omega
        · exact .inr (.inr ⟨p, ⟨by have := h3.1; omega, h3.2⟩, h4⟩)
  · have hflq : Float st order q C q := ⟨Nat.le_refl _, ⟨i, hi, hC⟩, h1⟩
    obtain ⟨b, κ, ob', r, h3, h4, h5, h6, h7, h8, h9, h10⟩ := (I.flo q hflq).ok
    have htop : (st q).h.has = true := by
      have h11 := hs
      generalize hs1 : st (q + 1) = s1 at h11 h1
      cases h11 with
      | skip => simp only at h1; omega
      | pure => simp only at h1; omega
      | read => simp only at h1; omega
      | make r' t' hw hc hv htop ht => exact htop
      | act v A' t' hw hc => rw [(isAct_iff ho).2 hc] at hna; cases hna
    have hget : ∀ m, (st (q + 1)).h.get m = if m = (st q).h.next then some r else (st q).h.get m := fun m => by rw [h6]; exact AH.get_push _ _ _ htop
    have hlt : ∀ m o, (st q).h.get m = some o → m < (st q).h.next := fun m o h => (I.mr.blk m o h).1
    refine ⟨I.csz, I.closed, hpre, fun p j hp => I.post p j (by omega), by omega, ⟨fun m o hm => ?_, fun m k o p b1 κ1 κ2 hm hk hl hl' he he' => ?_⟩, by rw [h2]; exact I.mrg, I.le, I.dom, I.frm, fun m o hm hg hl => ?_, fun p h => ?_, fun p p' b b' κ κ' h h' => I.floD p p' b b' κ κ' (hfl h) (hfl h'), fun m x h => ?_, I.tsz, I.tmp, I.dfr⟩
    · rw [hget] at hm
      split at hm
      · rename_i he; subst he; cases hm
        exact ⟨by omega, b, κ, h3, ob', h5, h9⟩
      · obtain ⟨h11, h12⟩ := I.mr.blk m o hm
        exact ⟨by omega, h12⟩
    · rw [hget] at hm hk
      split at hm <;> split at hk
      · omega
      · rename_i e1 e2
        subst e1
        rw [h3] at he
        cases he
        exact absurd he' (h10 k p κ2 hk hl')
      · rename_i e1 e2
        subst e2
        rw [h3] at he'
        cases he'
        exact absurd he (h10 m o κ1 hm hl)
      · exact I.mr.inj m k o p b1 κ1 κ2 hm hk hl hl' he he'
    · rw [hget] at hg
      have h0 := R.next (q := 0) (p := q) (Nat.zero_le _) (by omega)
      rw [R.st0] at h0
      simp only at h0
      rw [if_neg (by omega)] at hg
      exact I.old m o hm hg hl
    · obtain ⟨b1, κ1, ob1, r1, g3, g4, g5, g6, g7, g8, g9, g10⟩ := (I.flo p (hfl h)).ok
      refine ⟨b1, κ1, ob1, r1, g3, g4, g5, g6, g7, g8, g9, fun m o κ' hm hl he => ?_⟩
      rw [hget] at hm
      split at hm
      · rename_i e1
        subst e1
        rw [h3] at he
        cases he
        exact I.floD q p b b κ κ1 hflq (hfl h) (by have := h.1; omega) h3 g3 rfl
      · exact g10 m o κ' hm hl he
    · rcases I.nam m x h with g3 | g3 | ⟨p, g3, g4⟩
      · exact .inl g3
      · exact .inr (.inl (by omega))
      · by_cases hp : p = q
        · subst hp; exact .inr (.inl (by omega))
        · exact .inr (.inr ⟨p, ⟨by have := g3.1; omega, g3.2⟩, g4⟩)

theorem Inv.absorbs (R : Run P call n ops bef order A t st) (hA : ∀ m o, A.get m = some o → m < A.next) {x : Nat} (hx : x ≤ ops.size) (hall : ∀ (p i : Nat), p < x → order[p]? = some i → C.getD i false = true) :
    ∀ (k q : Nat), q + k = x → Inv P n ops bef order A st E0 w0 D q C E a w → Inv P n ops bef order A st E0 w0 D x C E a w
  | 0, q, h, I => by have : q = x := by omega
                     subst this; exact I
  | k + 1, q, h, I => by
    obtain ⟨i, o, hi, _, _⟩ := R.at (p := q) (by omega)
    exact Inv.absorbs R hA hx hall k (q + 1) (by omega) (I.absorb R hA hi (hall q i (by omega) hi))
end Go.Ev
