/- Regions whose order is drawn: what the looks say. -/
import Derived.Test.YtcpmgjnlnaigbaaGreatDoorEvR
set_option linter.unusedVariables false
set_option linter.unusedSimpArgs false
namespace Go.Ev
open Go

variable {P : Program} {call : CallFn} {n : Nat} {ops : Array Oper} {bef : Array Nat} {order : List Nat}

/-- i waits for b -/
def Waits (bef : Array Nat) (i b : Nat) : Prop := (bef.getD i 0).testBit b = true

structure Static (P : Program) (ops : Array Oper) (bef : Array Nat) (order : List Nat) : Prop where
  len : order.length = ops.size
  all : ∀ i, i < ops.size → ∃ p : Nat, order[p]? = some i
  nd : ∀ (p p' i : Nat), order[p]? = some i → order[p']? = some i → p = p'
  lt : ∀ (p i : Nat), order[p]? = some i → i < ops.size
  befLt : ∀ (p i b : Nat), order[p]? = some i → Waits bef i b → ∃ p' : Nat, p' < p ∧ order[p']? = some b
  act : ∀ (p i p' i' : Nat), order[p]? = some i → isAct P ops i = true → p' < p → order[p']? = some i' → Waits bef i i'
  mask : ∀ (i : Nat) (o : Oper) (b : Nat), ops[i]? = some o → Waits bef i b → ∃ e ∈ o.after, Region.binds .any e = true ∧ (b = e.on ∨ Waits bef e.on b)
  name : ∀ (i j : Nat) (oi oj : Oper) (d : Nat), ops[i]? = some oi → ops[j]? = some oj → i ≠ j → oi.dst = some d → (d ∈ oj.looksAt ops ∨ oj.dst = some d) → Waits bef i j ∨ Waits bef j i

theorem orderOk_spec : ∀ (l : List Nat) (done : Nat) (pre : List Nat), (∀ b, done.testBit b = true ↔ b ∈ pre) → orderOk P ops bef l done = true → ∀ (p i : Nat), l[p]? = some i →
    i < ops.size ∧ i ∉ pre ++ l.take p ∧ (∀ b, Waits bef i b → b ∈ pre ++ l.take p) ∧ (isAct P ops i = true → ∀ b ∈ pre ++ l.take p, Waits bef i b)
  | [], _, _, _, _, p, i, h => by simp at h
  | j :: r, done, pre, hd, h, p, i, hp => by
    simp only [orderOk, Bool.and_eq_true, Nat.ble_eq, Bool.not_eq_true'] at h
    obtain ⟨⟨⟨h1, h2⟩, h3⟩, h4⟩ := h
    cases p with
    | zero =>
      simp at hp
      subst hp
      simp only [List.take_zero, List.append_nil]
      refine ⟨by omega, fun hm => ?_, fun b hb => ?_, fun ha b hb => ?_⟩
      · rw [(hd j).2 hm] at h2; cases h2
      · cases ha : isAct P ops j with
        | true =>
          rw [ha, bc_true, Nat.beq_eq] at h3
          unfold Waits at hb
          rw [h3] at hb
          exact (hd b).1 hb
        | false =>
          rw [ha, bc_false, Nat.beq_eq] at h3
          have : (bef.getD j 0 ||| done).testBit b = true := by rw [Nat.testBit_or, show (bef.getD j 0).testBit b = true from hb]; rfl
          rw [h3] at this
          exact (hd b).1 this
      · rw [ha, bc_true, Nat.beq_eq] at h3
        unfold Waits
        rw [h3]
        exact (hd b).2 hb
    | succ p =>
      simp only [List.getElem?_cons_succ] at hp
      have hd' : ∀ b, (done ||| 2 ^ j).testBit b = true ↔ b ∈ pre ++ [j] := fun b => by
        rw [Nat.testBit_or, Nat.testBit_two_pow, Bool.or_eq_true, hd b, List.mem_append]
        simp [eq_comm]
      have := orderOk_spec r _ _ hd' h4 p i hp
      simpa [List.append_assoc] using this

theorem mask_spec {o : Oper} {b : Nat} : ∀ (l : List Edge) (s : Nat), (l.foldl (fun s e => if Region.binds .any e then s ||| 2 ^ e.on ||| bef.getD e.on 0 else s) s).testBit b = true → s.testBit b = true ∨ ∃ e ∈ l, Region.binds .any e = true ∧ (b = e.on ∨ Waits bef e.on b)
  | [], s, h => .inl h
  | e :: l, s, h => by
    rw [List.foldl_cons] at h
    rcases mask_spec (o := o) l _ h with h1 | ⟨e', h1, h2⟩
    · split at h1
      · rename_i hb
        rw [Nat.testBit_or, Nat.testBit_or, Nat.testBit_two_pow, Bool.or_eq_true, Bool.or_eq_true, decide_eq_true_eq] at h1
        rcases h1 with (h1 | h1) | h1
        · exact .inl h1
        · exact .inr ⟨e, by simp, hb, .inl h1.symm⟩
        · exact .inr ⟨e, by simp, hb, .inr h1⟩
      · exact .inl h1
    · exact .inr ⟨e', by simp [h1], h2⟩

theorem static_ok (h : drawOk P ops bef order = true) : Static P ops bef order := by
  simp only [drawOk, Bool.and_eq_true, Nat.beq_eq, List.all_eq_true, List.mem_range] at h
  obtain ⟨⟨⟨⟨h1, h2⟩, h3⟩, h4⟩, h5⟩ := h
  have hspec := orderOk_spec (P := P) order 0 [] (fun b => by simp) h5
  simp only [List.nil_append] at hspec
  have take : ∀ (p p' i' : Nat), p' < p → order[p']? = some i' → i' ∈ order.take p := fun p p' i' hlt hp => by
    apply List.mem_of_getElem? (i := p')
    rw [List.getElem?_take, if_pos hlt, hp]
  refine ⟨h1, fun i hi => ?_, fun p p' i hp hp' => ?_, fun p i hp => (hspec p i hp).1, fun p i b hp hb => ?_, fun p i p' i' hp ha hlt hp' => (hspec p i hp).2.2.2 ha i' (take p p' i' hlt hp'), fun i o b ho hb => ?_, fun i j oi oj d hi hj hne hd hs => ?_⟩
  · have := h2 i hi
    have hm : i ∈ order := by simpa using this
    obtain ⟨p, hp, hpi⟩ := List.getElem_of_mem hm
    exact ⟨p, by rw [List.getElem?_eq_getElem hp, hpi]⟩
  · rcases Nat.lt_trichotomy p p' with hlt | rfl | hlt
    · exact absurd (take p' p i hlt hp) (hspec p' i hp').2.1
    · rfl
    · exact absurd (take p p' i hlt hp') (hspec p i hp).2.1
  · have := (hspec p i hp).2.2.1 b hb
    obtain ⟨p', hp', hpb⟩ := List.getElem_of_mem this
    have hlt : p' < p := by simp at hp'; omega
    refine ⟨p', hlt, ?_⟩
    rw [List.getElem_take] at hpb
    rw [← hpb, List.getElem?_eq_getElem]
  · have := h3 i (Array.getElem?_eq_some_iff.1 ho).1
    unfold maskOk at this
    rw [ho] at this
    simp only [Nat.beq_eq] at this
    unfold Waits at hb
    rw [this, ← Array.foldl_toList] at hb
    rcases mask_spec (o := o) _ 0 hb with h6 | ⟨e, h6, h7⟩
    · simp at h6
    · exact ⟨e, by simpa using h6, h7⟩
  · have := h4 i (Array.getElem?_eq_some_iff.1 hi).1 j (Array.getElem?_eq_some_iff.1 hj).1
    unfold nameOk at this
    rw [hi, hj] at this
    have hne' : Nat.beq i j = false := by cases hb : Nat.beq i j; rfl; rw [Nat.beq_eq] at hb; exact absurd hb hne
    simp only [hne', hd, Bool.false_or, Bool.or_eq_true, Bool.not_eq_true'] at this
    rcases this with (this | this) | this
    · rw [Bool.or_eq_false_iff] at this
      rcases hs with hs | hs
      · have h6 := this.1; simp at h6; exact absurd hs h6
      · have h6 := this.2; rw [hs] at h6; simp at h6
    · exact .inl this
    · exact .inr this

/-- one operation of the canonical order -/
inductive StepP (P : Program) (call : CallFn) (n : Nat) (ops : Array Oper) (bef : Array Nat) (i : Nat) (o : Oper) (s : DSt) : DSt → Prop
  | skip (t' : Tp) (hw : wantA ops (opdR (o.looksAt ops) s.t) o.guard = some false) (ht : putT n s.t o.dst undefA = some t') : StepP P call n ops bef i o s { s with t := t' }
  | pure (v : AV) (t' : Tp) (hw : wantA ops (opdR (o.looksAt ops) s.t) o.guard = some true) (hc : cls P o.op = .pure) (hv : pureA o.op P (opdR (o.looksAt ops) s.t) = some v) (ht : putT n s.t o.dst v = some t') : StepP P call n ops bef i o s { s with t := t' }
  | read (v : AV) (t' : Tp) (hw : wantA ops (opdR (o.looksAt ops) s.t) o.guard = some true) (hc : cls P o.op = .read) (hv : readA o.op P (opdR (o.looksAt ops) s.t) s.g = some v) (ha : readAll P (opdR (o.looksAt ops) s.t) o.op (bef.getD i 0) v s.past = true) (ht : putT n s.t o.dst v = some t') : StepP P call n ops bef i o s { s with t := t' }
  | make (r : AObj × (Nat → AV)) (t' : Tp) (hw : wantA ops (opdR (o.looksAt ops) s.t) o.guard = some true) (hc : cls P o.op = .make) (hv : makeA o.op P (opdR (o.looksAt ops) s.t) = some r) (htop : s.h.has = true) (ht : putT n s.t o.dst (r.2 s.h.next) = some t') : StepP P call n ops bef i o s { s with t := t', h := s.h.push r.1 }
  | act (v : AV) (A' : AH) (t' : Tp) (hw : wantA ops (opdR (o.looksAt ops) s.t) o.guard = some true) (hc : cls P o.op = .act) (hv : actA o.op P call (opdR (o.looksAt ops) s.t) s.h = some (v, A')) (hn : s.h.next ≤ A'.next) (ht : putT n s.t o.dst v = some t') : StepP P call n ops bef i o s { t := t', g := A', h := A', past := (i, s.g) :: s.past }

theorem drawStep_some {i : Nat} {s s' : DSt} (h : drawStep P call n ops bef i s = some s') : ∃ o, ops[i]? = some o ∧ StepP P call n ops bef i o s s' := by
  unfold drawStep at h
  rw [ob_some] at h
  obtain ⟨o, ho, h⟩ := h
  rw [ob_some] at h
  obtain ⟨w, hw, h⟩ := h
  refine ⟨o, ho, ?_⟩
  cases w with
  | false =>
    rw [bc_false, om_some] at h
    obtain ⟨t', ht, rfl⟩ := h
    exact .skip t' hw ht
  | true =>
    rw [bc_true] at h
    unfold drawOp at h
    cases hc : cls P o.op with
    | pure =>
      rw [hc] at h
      have h' : (ob (pureA o.op P (opdR (o.looksAt ops) s.t)) fun v => om (putT n s.t o.dst v) fun t' => { s with t := t' }) = some s' := h
      rw [ob_some] at h'
      obtain ⟨v, hv, h'⟩ := h'
      rw [om_some] at h'
      obtain ⟨t', ht, rfl⟩ := h'
      exact .pure v t' hw hc hv ht
    | read =>
      rw [hc] at h
      have h' : (ob (readA o.op P (opdR (o.looksAt ops) s.t) s.g) fun v => og (readAll P (opdR (o.looksAt ops) s.t) o.op (bef.getD i 0) v s.past) (om (putT n s.t o.dst v) fun t' => { s with t := t' })) = some s' := h
      rw [ob_some] at h'
      obtain ⟨v, hv, h'⟩ := h'
      rw [og_some, om_some] at h'
      obtain ⟨ha, t', ht, rfl⟩ := h'
      exact .read v t' hw hc hv ha ht
    | make =>
      rw [hc] at h
      have h' : (ob (makeA o.op P (opdR (o.looksAt ops) s.t)) fun r => og s.h.has (om (putT n s.t o.dst (r.2 s.h.next)) fun t' => { s with t := t', h := s.h.push r.1 })) = some s' := h
      rw [ob_some] at h'
      obtain ⟨r, hr, h'⟩ := h'
      rw [og_some, om_some] at h'
      obtain ⟨htop, t', ht, rfl⟩ := h'
      exact .make r t' hw hc hr htop ht
    | act =>
      rw [hc] at h
      have h' : (ob (actA o.op P call (opdR (o.looksAt ops) s.t) s.h) fun x => og (Nat.ble s.h.next x.2.next) (om (putT n s.t o.dst x.1) fun t' => { t := t', g := x.2, h := x.2, past := (i, s.g) :: s.past })) = some s' := h
      rw [ob_some] at h'
      obtain ⟨x, hx, h'⟩ := h'
      rw [og_some, om_some, Nat.ble_eq] at h'
      obtain ⟨hn, t', ht, rfl⟩ := h'
      exact .act x.1 x.2 t' hw hc hx hn ht

theorem drawGo_states : ∀ (l : List Nat) (s s' : DSt), drawGo P call n ops bef l s = some s' → ∃ st : Nat → DSt, st 0 = s ∧ st l.length = s' ∧ ∀ (p i : Nat), l[p]? = some i → drawStep P call n ops bef i (st p) = some (st (p + 1))
  | [], s, s', h => by
    have h' : some s = some s' := h
    cases h'
    exact ⟨fun _ => s, rfl, rfl, fun p i h => by simp at h⟩
  | i :: l, s, s', h => by
    have h' : (ob (drawStep P call n ops bef i s) (drawGo P call n ops bef l)) = some s' := h
    rw [ob_some] at h'
    obtain ⟨s1, h1, h2⟩ := h'
    obtain ⟨st, h3, h4, h5⟩ := drawGo_states l s1 s' h2
    refine ⟨fun p => match p with | 0 => s | p + 1 => st p, rfl, h4, fun p j hp => ?_⟩
    cases p with
    | zero => simp at hp; subst hp; simp only [h3]; exact h1
    | succ p => simp at hp; exact h5 p j hp

/-- the canonical run -/
structure Run (P : Program) (call : CallFn) (n : Nat) (ops : Array Oper) (bef : Array Nat) (order : List Nat) (A : AH) (t : Tp) (st : Nat → DSt) : Prop where
  sta : Static P ops bef order
  st0 : st 0 = { t, g := A, h := A, past := [] }
  step : ∀ (p i : Nat), order[p]? = some i → ∃ o, ops[i]? = some o ∧ StepP P call n ops bef i o (st p) (st (p + 1))

variable {A : AH} {t : Tp} {st : Nat → DSt}

theorem isAct_iff {i : Nat} {o : Oper} (ho : ops[i]? = some o) : isAct P ops i = true ↔ cls P o.op = .act := by
  unfold isAct
  rw [ho]
  simp only
  cases hc : cls P o.op <;> simp

theorem StepP.next {i : Nat} {o : Oper} {s s' : DSt} (h : StepP P call n ops bef i o s s') : s.h.next ≤ s'.h.next := by
  cases h <;> first | exact Nat.le_refl _ | assumption | exact Nat.le_succ _

theorem Run.at (R : Run P call n ops bef order A t st) {p : Nat} (hp : p < ops.size) : ∃ i o, order[p]? = some i ∧ ops[i]? = some o ∧ StepP P call n ops bef i o (st p) (st (p + 1)) := by
  have : p < order.length := by rw [R.sta.len]; exact hp
  have h1 : order[p]? = some order[p] := List.getElem?_eq_getElem this
  obtain ⟨o, h2, h3⟩ := R.step p _ h1
  exact ⟨_, o, h1, h2, h3⟩
theorem Run.pos_lt (R : Run P call n ops bef order A t st) {p i : Nat} (h : order[p]? = some i) : p < ops.size := by
  have := (List.getElem?_eq_some_iff.1 h).1
  rw [R.sta.len] at this; exact this

theorem Run.next (R : Run P call n ops bef order A t st) {p q : Nat} (h : q ≤ p) (hp : p ≤ ops.size) : (st q).h.next ≤ (st p).h.next := by
  induction p with
  | zero => have : q = 0 := by omega
            subst this; exact Nat.le_refl _
  | succ p ih =>
    rcases Nat.lt_or_ge p q with hlt | hge
    · have : q = p + 1 := by omega
      subst this; exact Nat.le_refl _
    · obtain ⟨i, o, _, _, hs⟩ := R.at (p := p) (by omega)
      exact Nat.le_trans (ih hge (by omega)) hs.next

/-- what the acts that came have left behind -/
theorem Run.past (R : Run P call n ops bef order A t st) {p q : Nat} (h : q ≤ p) (hp : p ≤ ops.size) :
    (st p).g = (st q).g ∨ ∃ (x i : Nat), q ≤ x ∧ order[x]? = some i ∧ isAct P ops i = true ∧ (i, (st q).g) ∈ (st p).past := by
  induction p with
  | zero => have : q = 0 := by omega
            subst this; exact .inl rfl
  | succ p ih =>
    rcases Nat.lt_or_ge p q with hlt | hge
    · have : q = p + 1 := by omega
      subst this; exact .inl rfl
    · obtain ⟨i, o, hi, ho, hs⟩ := R.at (p := p) (by omega)
      have ih := ih hge (by omega)
      generalize hs1 : st (p + 1) = s1 at hs ⊢
      cases hs with
      | skip => exact ih
      | pure => exact ih
      | read => exact ih
      | make => exact ih
      | act v A' t' hw hc hv hn ht =>
        refine .inr ?_
        rcases ih with ih | ⟨x, j, h1, h2, h3, h4⟩
        · exact ⟨p, i, hge, hi, (isAct_iff ho).2 hc, by simp [ih]⟩
        · exact ⟨x, j, h1, h2, h3, List.mem_cons_of_mem _ h4⟩

theorem putT_get {n : Nat} {t t' : Tp} {dst : Option Nat} {v : AV} (hlim : n ≤ 512) (h : putT n t dst v = some t') (d : Nat) : get3 t' d = if dst = some d then some v else get3 t d := by
  cases dst with
  | none => have h' : some t = some t' := h
            cases h'; rfl
  | some i =>
    have h' : og (Nat.ble (i + 1) n) (some (put3 t i v)) = some t' := h
    rw [og_some, Nat.ble_eq] at h'
    obtain ⟨hi, h'⟩ := h'
    cases h'
    rw [get3_put3 _ _ _ _ (by omega)]
    by_cases hd : d = i
    · subst hd; rw [if_pos rfl, if_pos rfl]
    · rw [if_neg hd, if_neg (fun e => hd (Option.some.inj e).symm)]

theorem StepP.tmp {i : Nat} {o : Oper} {s s' : DSt} (hlim : n ≤ 512) (h : StepP P call n ops bef i o s s') {d : Nat} (hd : o.dst ≠ some d) : get3 s'.t d = get3 s.t d := by
  cases h with
  | skip t' hw ht => show get3 t' d = _; rw [putT_get hlim ht, if_neg hd]
  | pure v t' hw hc hv ht => show get3 t' d = _; rw [putT_get hlim ht, if_neg hd]
  | read v t' hw hc hv ha ht => show get3 t' d = _; rw [putT_get hlim ht, if_neg hd]
  | make r t' hw hc hv htop ht => show get3 t' d = _; rw [putT_get hlim ht, if_neg hd]
  | act v A' t' hw hc hv hn ht => show get3 t' d = _; rw [putT_get hlim ht, if_neg hd]

/-- a name that no operation between writes -/
theorem Run.tmp (R : Run P call n ops bef order A t st) (hlim : n ≤ 512) {d p q : Nat} (h : q ≤ p) (hp : p ≤ ops.size) (hno : ∀ (x i : Nat) (o : Oper), q ≤ x → x < p → order[x]? = some i → ops[i]? = some o → o.dst ≠ some d) : get3 (st p).t d = get3 (st q).t d := by
  induction p with
  | zero => have : q = 0 := by omega
            subst this; rfl
  | succ p ih =>
    rcases Nat.lt_or_ge p q with hlt | hge
    · have : q = p + 1 := by omega
      subst this; rfl
    · obtain ⟨i, o, hi, ho, hs⟩ := R.at (p := p) (by omega)
      rw [hs.tmp hlim (hno p i o hge (by omega) hi ho)]
      exact ih hge (by omega) (fun x j o' h1 h2 => hno x j o' h1 (by omega))
end Go.Ev
