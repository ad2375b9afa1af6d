/- Operations one after the other. -/
import Derived.Test.YtcpmgjnlnaigbaaGreatDoorEvO
set_option linter.unusedVariables false
set_option linter.unusedSimpArgs false
namespace Go.Ev
open Go

variable {P : Program} {E : Ren} {ρ : Env} {v : AV} {A A' : AH} {w : World} {t t' : Tp} {n : Nat} {a : Act}

/-- the temporaries -/
structure TR (E : Ren) (t : Tp) (n : Nat) (a : Act) : Prop where
  size : a.tmps.size = n
  lim : n ≤ 512
  val : ∀ i v, get3 t i = some v → ∃ v', a.tmps[i]? = some v' ∧ VR E v v'

theorem TR.mono {E E' : Ren} (h : TR E t n a) (hle : E.le E') : TR E' t n a :=
  ⟨h.size, h.lim, fun i v hv => let ⟨v', h1, h2⟩ := h.val i v hv; ⟨v', h1, VR.mono hle _ _ h2⟩⟩

theorem TR.good (h : TR E t n a) (hG : Glb E) : Good E (opd t) a.eval := by
  intro x v hv
  cases x with
  | tmp i =>
    have hv' : get3 t i = some v := hv
    obtain ⟨v', h1, h2⟩ := h.val i v hv'
    have : a.eval (.tmp i) = v' := by simp [Act.eval, Array.getD_eq_getD_getElem?, h1]
    rw [this]; exact h2
  | const c =>
    have hv' : absV c = some v := hv
    exact absV_ok E c v hv'
  | global g =>
    have hv' : og (Nat.ble (g + 1) 1000) (some (.ptr (some (g, 0)))) = some v := hv
    rw [og_some, Nat.ble_eq] at hv'
    obtain ⟨hg, hv'⟩ := hv'
    cases hv'
    obtain ⟨κ, hκ⟩ := hG g (by omega)
    simp only [VR]
    exact ⟨g, κ, hκ, rfl⟩
  | func k =>
    have hv' : some (AV.func (.func k) [] []) = some v := hv
    cases hv'
    simp only [VR]
    exact ⟨_, _, rfl, by simp [VRL], by simp [VRL]⟩

theorem TR.put (h : TR E t n a) {d : Option Nat} {v' : Value} (hp : putT n t d v = some t') (hv : VR E v v') : TR E t' n (a.put d v') := by
  cases d with
  | none =>
    have : some t = some t' := hp
    cases this
    exact h
  | some i =>
    have hp' : og (Nat.ble (i + 1) n) (some (put3 t i v)) = some t' := hp
    rw [og_some, Nat.ble_eq] at hp'
    obtain ⟨hi, hp'⟩ := hp'
    cases hp'
    refine ⟨by simp [Act.put, h.size], h.lim, fun j u hu => ?_⟩
    have hj : i < 512 := by have := h.lim; omega
    rw [get3_put3 _ _ _ _ hj] at hu
    simp only [Act.put]
    by_cases hij : j = i
    · subst hij
      rw [if_pos rfl] at hu
      cases hu
      exact ⟨v', Array.getElem?_setIfInBounds_self_of_lt (by rw [h.size]; omega), hv⟩
    · rw [if_neg hij] at hu
      obtain ⟨u', h1, h2⟩ := h.val j u hu
      exact ⟨u', by rw [Array.getElem?_setIfInBounds_ne (fun e => hij e.symm)]; exact h1, h2⟩

theorem put_defers' (a : Act) (d : Option Nat) (v : Value) : (a.put d v).defers = a.defers := by cases d <;> rfl

theorem undef_ok (E : Ren) : VR E undefA undef := by simp only [undefA, VR]; exact ⟨_, rfl, by simp [VRL]⟩

/-- whether it is carried out: as the machine says -/
theorem want_ok {ops : Array Oper} {o : Oper} {c : Bool} (hval : ∀ d v, ρ (.tmp d) = some v → ∃ v', a.tmps[d]? = some v' ∧ VR E v v') (h : wantA ops ρ o.guard = some c) : Region.wanted o (yielded ops a.tmps) = c := by
  unfold Region.wanted
  cases hg : o.guard with
  | none =>
    rw [hg] at h
    have : some true = some c := h
    cases this
    rfl
  | some p =>
    rw [hg] at h
    obtain ⟨j, want⟩ := p
    have h' : (Option.casesOn (motive := fun _ => Option Bool) (dstAt ops j) (some false) fun d => ob (ρ (.tmp d)) (guardVal want)) = some c := h
    simp only
    unfold yielded
    unfold dstAt at h'
    cases hd : (ops[j]?).bind (·.dst) with
    | none =>
      rw [hd] at h'
      have : some false = some c := h'
      cases this
      rfl
    | some d =>
      rw [hd] at h'
      have h2 : ob (ρ (.tmp d)) (guardVal want) = some c := h'
      rw [ob_some] at h2
      obtain ⟨u, hu, hgv⟩ := h2
      obtain ⟨u', h1, hr⟩ := hval d u hu
      simp only [Option.bind_some, h1]
      unfold guardVal at hgv
      split at hgv
      · cases hgv
        simp only [VR] at hr
        subst hr
        rename_i b
        cases b <;> cases want <;> rfl
      · cases hgv
        simp only [VR] at hr
        obtain ⟨l', rfl, hl⟩ := hr
        rfl
      · cases hgv

/-- what one operation comes to -/
theorem op_ok {call : CallFn} (hC : CallOk P call) {o : Oper} (h : opA P call ρ A o.op = some (v, A')) (hGl : Glb E) (hG : Good E ρ a.eval) (hM : MR E A w) (hF : Fresh E A A') : ActOk P E A w a o v A' := by
  unfold opA at h
  cases hc : cls P o.op with
  | pure =>
    rw [hc] at h
    have h' : om (pureA o.op P ρ) (fun v => (v, A)) = some (v, A') := h
    rw [om_some] at h'
    obtain ⟨u, hu, h2⟩ := h'
    cases h2
    obtain ⟨v', h1, h2⟩ := pure_ok hu hc hG
    exact ActOk.value (h2 w) (Stp.refl hM) h1
  | read =>
    rw [hc] at h
    have h' : om (readA o.op P ρ A) (fun v => (v, A)) = some (v, A') := h
    rw [om_some] at h'
    obtain ⟨u, hu, h2⟩ := h'
    cases h2
    obtain ⟨v', h1, h2⟩ := read_ok hu hG hM
    exact ActOk.value h2 (Stp.refl hM) h1
  | make =>
    rw [hc] at h
    have h' : (ob (makeA o.op P ρ) fun r => og A.has (some (r.2 A.next, A.push r.1))) = some (v, A') := h
    rw [ob_some] at h'
    obtain ⟨r, hr, h2⟩ := h'
    rw [og_some] at h2
    obtain ⟨htop, h2⟩ := h2
    cases h2
    obtain ⟨h1, h2, h3⟩ := make_ok hr hG
    obtain ⟨v', ob', κ, w', hrun, hw1, hw2, hw3, hw4, hor⟩ := h3 w
    have hn : E A.next = none := hF A.next (Nat.le_refl _) (by show A.next < A.next + 1; omega)
    obtain ⟨h5, h6⟩ := hor (E.put A.next w.heap.size κ) A.next (Ren.le_put hn _ _) (Ren.put_self _ _ _ _)
    exact ActOk.value hrun (Stp.push hM hn htop h5 hw1 hw2 hw3 hw4) h6
  | act =>
    rw [hc] at h
    have h' : (ob (actA o.op P call ρ A) fun x => og (Nat.ble A.next x.2.next) (some x)) = some (v, A') := h
    rw [ob_some] at h'
    obtain ⟨x, hx, h2⟩ := h'
    rw [og_some] at h2
    obtain ⟨_, h2⟩ := h2
    cases h2
    exact act_ok hC hx hGl hG hM hF

theorem op_next {call : CallFn} {o : Op} (h : opA P call ρ A o = some (v, A')) : A.next ≤ A'.next := by
  unfold opA at h
  cases hc : cls P o with
  | pure =>
    rw [hc] at h
    have h' : om (pureA o P ρ) (fun v => (v, A)) = some (v, A') := h
    rw [om_some] at h'
    obtain ⟨u, hu, h2⟩ := h'
    cases h2; exact Nat.le_refl _
  | read =>
    rw [hc] at h
    have h' : om (readA o P ρ A) (fun v => (v, A)) = some (v, A') := h
    rw [om_some] at h'
    obtain ⟨u, hu, h2⟩ := h'
    cases h2; exact Nat.le_refl _
  | make =>
    rw [hc] at h
    have h' : (ob (makeA o P ρ) fun r => og A.has (some (r.2 A.next, A.push r.1))) = some (v, A') := h
    rw [ob_some] at h'
    obtain ⟨r, hr, h2⟩ := h'
    rw [og_some] at h2
    obtain ⟨htop, h2⟩ := h2
    cases h2; show A.next ≤ A.next + 1; omega
  | act =>
    rw [hc] at h
    have h' : (ob (actA o P call ρ A) fun x => og (Nat.ble A.next x.2.next) (some x)) = some (v, A') := h
    rw [ob_some] at h'
    obtain ⟨x, hx, h2⟩ := h'
    rw [og_some, Nat.ble_eq] at h2
    obtain ⟨h3, h2⟩ := h2
    cases h2; exact h3

theorem opsA_cons {call : CallFn} {ops : Array Oper} {o : Oper} {l : List Oper} {x : Tp × AH} : opsA P call n ops (o :: l) t A = some x ↔ ∃ y, opsStep P call n ops o t A = some y ∧ opsA P call n ops l y.1 y.2 = some x := by
  show (ob (opsStep P call n ops o t A) fun x => opsA P call n ops l x.1 x.2) = some x ↔ _
  rw [ob_some]
theorem opsStep_some {call : CallFn} {ops : Array Oper} {o : Oper} {y : Tp × AH} : opsStep P call n ops o t A = some y ↔
    (wantA ops (opd t) o.guard = some true ∧ ∃ v A', opA P call (opd t) A o.op = some (v, A') ∧ ∃ t', putT n t o.dst v = some t' ∧ y = (t', A')) ∨ (wantA ops (opd t) o.guard = some false ∧ ∃ t', putT n t o.dst undefA = some t' ∧ y = (t', A)) := by
  unfold opsStep
  rw [ob_some]
  constructor
  · rintro ⟨c, hc, h⟩
    cases c with
    | true =>
      rw [bc_true, ob_some] at h
      obtain ⟨x, hx, h⟩ := h
      rw [om_some] at h
      obtain ⟨t', ht, h⟩ := h
      exact .inl ⟨hc, x.1, x.2, hx, t', ht, h.symm⟩
    | false =>
      rw [bc_false, om_some] at h
      obtain ⟨t', ht, h⟩ := h
      exact .inr ⟨hc, t', ht, h.symm⟩
  · rintro (⟨hc, v, A', hx, t', ht, rfl⟩ | ⟨hc, t', ht, rfl⟩)
    · exact ⟨true, hc, by rw [bc_true, ob_some]; exact ⟨_, hx, by rw [om_some]; exact ⟨t', ht, rfl⟩⟩⟩
    · exact ⟨false, hc, by rw [bc_false, om_some]; exact ⟨t', ht, rfl⟩⟩

theorem opsStep_next {call : CallFn} {ops : Array Oper} {o : Oper} {y : Tp × AH} (h : opsStep P call n ops o t A = some y) : A.next ≤ y.2.next := by
  rcases opsStep_some.1 h with ⟨_, v, A', hx, t', _, rfl⟩ | ⟨_, t', _, rfl⟩
  · exact op_next hx
  · exact Nat.le_refl _
theorem opsA_next {call : CallFn} {ops : Array Oper} : ∀ {l : List Oper} {t : Tp} {A : AH} {x : Tp × AH}, opsA P call n ops l t A = some x → A.next ≤ x.2.next
  | [], t, A, x, h => by have h' : some (t, A) = some x := h; cases h'; exact Nat.le_refl _
  | o :: l, t, A, x, h => by
    obtain ⟨y, h1, h2⟩ := opsA_cons.1 h
    exact Nat.le_trans (opsStep_next h1) (opsA_next h2)

theorem ops_ok {call : CallFn} (hC : CallOk P call) {ops : Array Oper} {Q : Exit → Act → World → Prop} : ∀ (is : List Nat) (os : List Oper) (E : Ren) (t : Tp) (A : AH) (a : Act) (w : World) (x : Tp × AH), is.map (fun i => ops[i]?) = os.map some → opsA P call n ops os t A = some x →
    Glb E → MR E A w → TR E t n a → Fresh E A x.2 → (∀ E' a' w', Stp E A w E' x.2 w' → TR E' x.1 n a' → a'.defers = a.defers → Q .normal a' w') → wpOps P ops Q is a w
  | [], [], E, t, A, a, w, x, _, h, hGl, hM, hT, hF, hQ => by
    have h' : some (t, A) = some x := h
    cases h'
    exact hQ E a w (Stp.refl hM) hT rfl
  | [], _ :: _, _, _, _, _, _, _, hl, _, _, _, _, _, _ => by simp at hl
  | _ :: _, [], _, _, _, _, _, _, hl, _, _, _, _, _, _ => by simp at hl
  | i :: is, o :: os, E, t, A, a, w, x, hl, h, hGl, hM, hT, hF, hQ => by
    simp only [List.map_cons, List.cons.injEq] at hl
    obtain ⟨ho, hl⟩ := hl
    obtain ⟨y, h1, h2⟩ := opsA_cons.1 h
    have hn2 := opsA_next h2
    have hwant : ∀ c, wantA ops (opd t) o.guard = some c → Region.wanted o (yielded ops a.tmps) = c := fun c hc => want_ok (fun d v hv => hT.val d v hv) hc
    rcases opsStep_some.1 h1 with ⟨hc, v, A1, hx, t1, ht, rfl⟩ | ⟨hc, t1, ht, rfl⟩
    · simp only [wpOps, ho, hwant _ hc, if_true]
      refine .inl (op_ok hC hx hGl (hT.good hGl) hM (hF.left hn2) _ _ fun E1 v' w1 s1 hv => ?_)
      refine ops_ok hC is os E1 t1 A1 _ w1 x hl h2 (hGl.mono s1.le) s1.mr ((hT.mono s1.le).put ht hv) (hF.right s1) fun E' a' w' s2 hT' hd => hQ E' a' w' (s1.trans s2 hF) hT' (by rw [hd, put_defers'])
    · simp only [wpOps, ho, hwant _ hc, Bool.false_eq_true, if_false]
      exact ops_ok hC is os E t1 A _ w x hl h2 hGl hM (hT.put ht (undef_ok E)) hF fun E' a' w' s hT' hd => hQ E' a' w' s hT' (by rw [hd, put_defers'])
end Go.Ev
