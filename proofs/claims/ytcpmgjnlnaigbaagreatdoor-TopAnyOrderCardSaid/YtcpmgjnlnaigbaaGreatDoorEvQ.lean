/- Code, calls; but for regions whose order is drawn. -/
import Derived.Test.YtcpmgjnlnaigbaaGreatDoorEvP
import Derived.Scope
import Derived.LoopN
import Derived.Orders
import Derived.LoopNIn
import Derived.CallsIn
import Derived.OrdersIn
import Derived.RangeFuncIn
set_option linter.unusedVariables false
set_option linter.unusedSimpArgs false
namespace Go.Ev
open Go

variable {P : Program} {E : Ren} {ρ : Env} {v : AV} {A A' : AH} {w : World} {t t' : Tp} {n : Nat} {a : Act}

def Ex.to : Ex → Exit
  | .normal => .normal
  | .exit i => .exit i
  | .goto l => .goto l
  | .ret => .ret

/-- the fence: outside of loops over functions, or in a round of one -/
def fen : Option Nat → Fence
  | none => Fence.wide
  | some l => Fence.wide.inRound l
theorem wpIn_fen {r : Option Nat} {c : Code} {Q : Exit → Act → World → Prop} {m k : Nat} (h : c.wpIn (fen r) m P Q a w) : c.wpIn (fen r) k P Q a w := by
  intro b kk cs h1 h2 h3
  refine h b kk cs h1 h2 ?_
  cases r <;> exact room_wide _

/-- what a loop over a function leaves among the deferred calls -/
def mk (D : Nat) : Deferred := { target := .collected D, args := #[] }
def Ext (w : World) (D D' : List Deferred) (w' : World) : Prop :=
  ∃ ms : List Nat, D' = ms.map mk ++ D ∧ ms.Nodup ∧ ∀ m ∈ ms, w.heap.size ≤ m ∧ w'.heap[m]? = some (.deferred (some []))
theorem Ext.same (w : World) (D : List Deferred) (w' : World) : Ext w D D w' := ⟨[], rfl, List.nodup_nil, fun m h => by cases h⟩
theorem Ext.eq {D D' : List Deferred} {w w' : World} (h : D' = D) : Ext w D D' w' := by rw [h]; exact Ext.same _ _ _
theorem Own.kind (hM : MR E A w) {b : Nat} (h : Own E A b) {o : Obj} (ho : w.heap[b]? = some o) : o ≠ .deferred (some []) := by
  obtain ⟨n, p, κ, h1, h2, h3, h4⟩ := h
  obtain ⟨_, b', κ', he, o', hb, hor⟩ := hM.blk n p h1
  rw [h4] at he
  cases he
  rw [ho] at hb
  cases hb
  rintro rfl
  cases p with
  | cells cs g ro => obtain ⟨arr, e, fr, h, _⟩ := hor; cases h
  | map es c => obtain ⟨arr, _, h, _⟩ := hor; cases h
  | mapIter m _ _ _ =>
    cases m with
    | none => have : Obj.deferred (some []) = Obj.mapIter none _ _ _ := hor; cases this
    | some n => obtain ⟨_, _, _, h⟩ := hor; cases h
  | dead => cases h2
theorem Ext.trans {E1 E2 : Ren} {A1 A2 : AH} {w0 w1 w2 : World} {D D1 D2 : List Deferred} (h : Ext w0 D D1 w1) (hs : w0.heap.size ≤ w1.heap.size) (hM : MR E1 A1 w1) (s : Stp E1 A1 w1 E2 A2 w2) (k : Ext w1 D1 D2 w2) : Ext w0 D D2 w2 := by
  obtain ⟨ms, rfl, hn, hm⟩ := h
  obtain ⟨ks, rfl, kn, hk⟩ := k
  refine ⟨ks ++ ms, by simp, List.nodup_append.2 ⟨kn, hn, fun a ha b hb e => ?_⟩, fun m hmm => ?_⟩
  · subst e
    have h1 := (hk a ha).1
    have h2 := (Array.getElem?_eq_some_iff.1 (hm a hb).2).1
    omega
  · rcases List.mem_append.1 hmm with h | h
    · exact ⟨Nat.le_trans hs (hk m h).1, (hk m h).2⟩
    · obtain ⟨h1, h2⟩ := hm m h
      refine ⟨h1, ?_⟩
      rw [s.frm.block m (Array.getElem?_eq_some_iff.1 h2).1 (fun ho => ho.kind hM h2 rfl)]
      exact h2

/-- from a state on: wherever the machine comes to stand, there it holds -/
def From (E : Ren) (A : AH) (w : World) (A' : AH) (t' : Tp) (n : Nat) (D : List Deferred) (R : Act → World → Prop) : Prop := ∀ E' a' w', Stp E A w E' A' w' → TR E' t' n a' → Ext w D a'.defers w' → R a' w'

/-- no way out of the model -/
def NoOut (Q : Exit → Act → World → Prop) : Exit → Act → World → Prop
  | .outgrown, _, _ => False
  | e, a, w => Q e a w
theorem NoOut.imp {Q : Exit → Act → World → Prop} : ∀ e a w, NoOut Q e a w → Q e a w := fun e a w h => by cases e <;> first | exact h | exact h.elim
theorem NoOut.to {Q : Exit → Act → World → Prop} {e : Ex} {a : Act} {w : World} (h : Q e.to a w) : NoOut Q e.to a w := by cases e <;> exact h
theorem NoOut.no {Q : Exit → Act → World → Prop} : ¬ LetsOut (NoOut Q) := fun ⟨_, _, h⟩ => h

def BodyOk (P : Program) (n : Nat) (c : Code) (b : Body) : Prop := ∀ t A e t' A', b t A = some (e, t', A') → A.next ≤ A'.next ∧ ∀ r E a w Q m, (r = none ∨ noRF c = true) → Glb E → MR E A w → TR E t n a → Fresh E A A' → From E A w A' t' n a.defers (Q e.to) → c.wpIn (fen r) m P Q a w

def CodeOk (P : Program) (code : CodeFn) : Prop := ∀ n c, BodyOk P n c (code n c)

def DrawOk (P : Program) (call : CallFn) : Prop := ∀ ops n t A x, drawA P call n ops t A = some x → A.next ≤ x.2.next ∧ ∀ E a w Q, Glb E → MR E A w → TR E t n a → Fresh E A x.2 → From E A w x.2 x.1 n a.defers (Q .normal) →
  wpAny P .any ops Q ops.size (Array.replicate ops.size false) a { w with drawn := w.drawn + 1 }

theorem From.then {A B C : AH} {t' : Tp} {n : Nat} {D D1 : List Deferred} {R : Act → World → Prop} (hF : Fresh E A C) {E1 : Ren} {w1 : World} (s1 : Stp E A w E1 B w1) (x1 : Ext w D D1 w1) (h : From E A w C t' n D R) : From E1 B w1 C t' n D1 R :=
  fun E' a' w' s2 hT x2 => h E' a' w' (s1.trans s2 hF) hT (x1.trans s1.frm.size s1.mr s2 x2)

theorem andThen_some {r : Out} {f : Body} {e : Ex} {t' : Tp} {A' : AH} : andThen r f = some (e, t', A') ↔ ∃ e1 t1 A1, r = some (e1, t1, A1) ∧ ((e1 = .normal ∧ f t1 A1 = some (e, t', A')) ∨ (e1 ≠ .normal ∧ e = e1 ∧ t' = t1 ∧ A' = A1)) := by
  cases r with
  | none => exact ⟨fun h => (by cases h), fun ⟨_, _, _, h, _⟩ => (by cases h)⟩
  | some x =>
    obtain ⟨e1, t1, A1⟩ := x
    cases e1 with
    | normal =>
      show f t1 A1 = _ ↔ _
      constructor
      · intro h; exact ⟨_, _, _, rfl, .inl ⟨rfl, h⟩⟩
      · rintro ⟨e2, t2, A2, h, h2 | h2⟩
        · cases h; exact h2.2
        · cases h; exact absurd rfl h2.1
    | exit i =>
      show some _ = _ ↔ _
      constructor
      · intro h; cases h; exact ⟨_, _, _, rfl, .inr ⟨by simp, rfl, rfl, rfl⟩⟩
      · rintro ⟨e2, t2, A2, h, h2 | h2⟩
        · cases h; cases h2.1
        · cases h; obtain ⟨_, rfl, rfl, rfl⟩ := h2; rfl
    | goto i =>
      show some _ = _ ↔ _
      constructor
      · intro h; cases h; exact ⟨_, _, _, rfl, .inr ⟨by simp, rfl, rfl, rfl⟩⟩
      · rintro ⟨e2, t2, A2, h, h2 | h2⟩
        · cases h; cases h2.1
        · cases h; obtain ⟨_, rfl, rfl, rfl⟩ := h2; rfl
    | ret =>
      show some _ = _ ↔ _
      constructor
      · intro h; cases h; exact ⟨_, _, _, rfl, .inr ⟨by simp, rfl, rfl, rfl⟩⟩
      · rintro ⟨e2, t2, A2, h, h2 | h2⟩
        · cases h; cases h2.1
        · cases h; obtain ⟨_, rfl, rfl, rfl⟩ := h2; rfl

theorem noRF_seq {x y : Code} (h : noRF (.seq x y) = true) : noRF x = true ∧ noRF y = true := by simpa [noRF] using h
theorem noRF_cond {o : Operand} {x y : Code} (h : noRF (.cond o x y) = true) : noRF x = true ∧ noRF y = true := by simpa [noRF] using h

theorem seq_ok {x y : Code} {bx by' : Body} (hx : BodyOk P n x bx) (hy : BodyOk P n y by') : BodyOk P n (.seq x y) (fun t A => andThen (bx t A) by') := by
  intro t A e t' A' h
  obtain ⟨e1, t1, A1, h1, h2⟩ := andThen_some.1 h
  obtain ⟨hn1, hp1⟩ := hx t A e1 t1 A1 h1
  rcases h2 with ⟨rfl, h2⟩ | ⟨hne, rfl, rfl, rfl⟩
  · obtain ⟨hn2, hp2⟩ := hy _ _ _ _ _ h2
    refine ⟨Nat.le_trans hn1 hn2, fun r E a w Q m hr hGl hM hT hF hQ => wpIn_seq (hp1 r E a w _ m (hr.imp id fun h => (noRF_seq h).1) hGl hM hT (hF.left hn2) fun E1 a1 w1 s1 hT1 x1 => ?_)⟩
    exact hp2 r E1 a1 w1 Q m (hr.imp id fun h => (noRF_seq h).2) (hGl.mono s1.le) s1.mr hT1 (hF.right s1) (hQ.then hF s1 x1)
  · refine ⟨hn1, fun r E a w Q m hr hGl hM hT hF hQ => wpIn_seq (hp1 r E a w _ m (hr.imp id fun h => (noRF_seq h).1) hGl hM hT hF fun E1 a1 w1 s1 hT1 x1 => ?_)⟩
    have := hQ E1 a1 w1 s1 hT1 x1
    cases e <;> first | exact absurd rfl hne | exact this

theorem loopD_ok {c : Code} {b : Body} (hb : BodyOk P n c b) : ∀ (d : Nat) (t : Tp) (A : AH) (e : Ex) (t' : Tp) (A' : AH), loopD b d t A = some (e, t', A') → A.next ≤ A'.next ∧
    ∀ r E a w Q m, (r = none ∨ noRF c = true) → Glb E → MR E A w → TR E t n a → Fresh E A A' → From E A w A' t' n a.defers (Q e.to) → Code.roundsIn (fen r) m P c Q d a w
  | 0, t, A, e, t', A', h => by cases h
  | d + 1, t, A, e, t', A', h => by
    have h' : andThen (b t A) (loopD b d) = some (e, t', A') := h
    obtain ⟨e1, t1, A1, h1, h2⟩ := andThen_some.1 h'
    obtain ⟨hn1, hp1⟩ := hb t A e1 t1 A1 h1
    rcases h2 with ⟨rfl, h2⟩ | ⟨hne, rfl, rfl, rfl⟩
    · obtain ⟨hn2, hp2⟩ := loopD_ok hb d _ _ _ _ _ h2
      refine ⟨Nat.le_trans hn1 hn2, fun r E a w Q m hr hGl hM hT hF hQ => ?_⟩
      exact hp1 r E a w _ m hr hGl hM hT (hF.left hn2) fun E1 a1 w1 s1 hT1 x1 => hp2 r E1 a1 w1 Q m hr (hGl.mono s1.le) s1.mr hT1 (hF.right s1) (hQ.then hF s1 x1)
    · refine ⟨hn1, fun r E a w Q m hr hGl hM hT hF hQ => ?_⟩
      refine hp1 r E a w _ m hr hGl hM hT hF fun E1 a1 w1 s1 hT1 x1 => ?_
      have := hQ E1 a1 w1 s1 hT1 x1
      cases e <;> first | exact absurd rfl hne | exact this

theorem loop_ok {c : Code} {b : Body} (d : Nat) (hb : BodyOk P n c b) : BodyOk P n (.loop c) (fun t A => loopD b d t A) := by
  intro t A e t' A' h
  obtain ⟨hn, hp⟩ := loopD_ok hb d t A e t' A' h
  exact ⟨hn, fun r E a w Q m hr hGl hM hT hF hQ => wpIn_loop_rounds d (hp r E a w Q m hr hGl hM hT hF hQ)⟩

theorem block_ok {id : Nat} {c : Code} {b : Body} (hb : BodyOk P n c b) : BodyOk P n (.block id c) (fun t A => outBlock id (b t A)) := by
  intro t A e t' A' h
  cases hr : b t A with
  | none => simp only [hr] at h; cases h
  | some x =>
    obtain ⟨e1, t1, A1⟩ := x
    simp only [hr] at h
    obtain ⟨hn, hp⟩ := hb t A e1 t1 A1 hr
    cases e1 with
    | exit i =>
      have h' : bc (Nat.beq i id) (some (.normal, t1, A1)) (some (.exit i, t1, A1)) = some (e, t', A') := h
      cases hi : Nat.beq i id with
      | true =>
        rw [hi, bc_true] at h'
        cases h'
        rw [Nat.beq_eq] at hi
        refine ⟨hn, fun r E a w Q m hr hGl hM hT hF hQ => wpIn_block (hp r E a w _ m hr hGl hM hT hF fun E1 a1 w1 s1 hT1 x1 => ?_)⟩
        simp only [Ex.to, Exit.inBlock, hi, if_true]
        exact hQ E1 a1 w1 s1 hT1 x1
      | false =>
        rw [hi, bc_false] at h'
        cases h'
        have hi' : i ≠ id := by intro e; subst e; simp at hi
        refine ⟨hn, fun r E a w Q m hr hGl hM hT hF hQ => wpIn_block (hp r E a w _ m hr hGl hM hT hF fun E1 a1 w1 s1 hT1 x1 => ?_)⟩
        simp only [Ex.to, Exit.inBlock, hi', if_false]
        exact hQ E1 a1 w1 s1 hT1 x1
    | _ =>
      (have h' : some _ = some (e, t', A') := h)
      cases h'
      exact ⟨hn, fun r E a w Q m hr hGl hM hT hF hQ => wpIn_block (hp r E a w _ m hr hGl hM hT hF fun E1 a1 w1 s1 hT1 x1 => hQ E1 a1 w1 s1 hT1 x1)⟩

theorem cond_ok {x : Operand} {c d : Code} {bc' bd : Body} (hc : BodyOk P n c bc') (hd : BodyOk P n d bd) : BodyOk P n (.cond x c d) (fun t A => ob (opd t x) fun v => onBool v fun q => bc q (bc' t A) (bd t A)) := by
  intro t A e t' A' h
  simp only [ob_some] at h
  obtain ⟨u, hu, h⟩ := h
  obtain ⟨q, rfl, h'⟩ := onBool_some.1 h
  cases q with
  | true =>
    rw [bc_true] at h'
    obtain ⟨hn, hp⟩ := hc t A e t' A' h'
    refine ⟨hn, fun r E a w Q m hr hGl hM hT hF hQ => ?_⟩
    have := hT.good hGl x _ hu
    simp only [VR] at this
    exact wpIn_cond_true this (hp r E a w Q m (hr.imp id fun h => (noRF_cond h).1) hGl hM hT hF hQ)
  | false =>
    rw [bc_false] at h'
    obtain ⟨hn, hp⟩ := hd t A e t' A' h'
    refine ⟨hn, fun r E a w Q m hr hGl hM hT hF hQ => ?_⟩
    have := hT.good hGl x _ hu
    simp only [VR] at this
    exact wpIn_cond_false this (hp r E a w Q m (hr.imp id fun h => (noRF_cond h).2) hGl hM hT hF hQ)

/-- passes of a scope -/
def passes (P : Program) (c : Code) (Q : Exit → Act → World → Prop) : Nat → Code → Act → World → Prop
  | 0, _, _, _ => False
  | n + 1, x, a, w => x.wp P (fun e a w => match e with
    | .goto l => ∃ rest, findLabel c l = some rest ∧ passes P c Q n rest a w
    | e => Q e a w) a w

theorem wp_scope_passes {c : Code} {Q : Exit → Act → World → Prop} (m : Nat) (h : passes P c Q m c a w) : (Code.scope c).wp P Q a w := by
  intro b k cs
  have key : ∀ m x a w, passes P c Q m x a w → ∃ e a' w', Q e a' w' ∧ Arrives P (lone (b.at a (.code x :: .inScope c :: k)) cs w) b k cs e a' w' := by
    intro m
    induction m with
    | zero => intro x a w h; exact h.elim
    | succ m ih =>
      intro x a w h
      obtain ⟨e, a₁, w₁, hq, harr⟩ := h b (.inScope c :: k) cs
      cases e with
      | normal => exact ⟨.normal, a₁, w₁, hq, Steps.trans harr (.one step_inScope)⟩
      | exit id => exact ⟨.exit id, a₁, w₁, hq, fun k' hk => harr k' (by simp [exitTo, hk])⟩
      | goto l' =>
        obtain ⟨rest, hf, hp⟩ := hq
        obtain ⟨e₂, a₂, w₂, hq₂, harr₂⟩ := ih rest a₁ w₁ hp
        have hg : gotoIn l' (.inScope c :: k) = some (.code rest :: .inScope c :: k) := by simp [gotoIn, hf]
        exact ⟨e₂, a₂, w₂, hq₂, .of_steps (harr _ hg) harr₂⟩
      | ret => exact ⟨_, a₁, w₁, hq, harr⟩
      | panic ch => exact ⟨_, a₁, w₁, hq, harr⟩
      | outgrown => exact ⟨_, a₁, w₁, hq, harr⟩
  obtain ⟨e₂, a₂, w₂, hq₂, harr₂⟩ := key m c a w h
  exact ⟨e₂, a₂, w₂, hq₂, .of_steps (.one step_scope) harr₂⟩

theorem scopeD_ok {body : Code} {run : Code → Body} (hr : ∀ c, BodyOk P n c (run c)) : ∀ (d : Nat) (c : Code) (t : Tp) (A : AH) (e : Ex) (t' : Tp) (A' : AH), scopeD run body d c t A = some (e, t', A') → A.next ≤ A'.next ∧
    ∀ E a w Q, Glb E → MR E A w → TR E t n a → Fresh E A A' → From E A w A' t' n a.defers (Q e.to) → passes P body Q d c a w
  | 0, c, t, A, e, t', A', h => by cases h
  | d + 1, c, t, A, e, t', A', h => by
    have h' : (Option.casesOn (motive := fun _ => Out) (run c t A) none fun x => Ex.casesOn (motive := fun _ => Out) x.1 (some x) (fun _ => some x)
      (fun l => ob (findLabel body l) fun rest => scopeD run body d rest x.2.1 x.2.2) (some x)) = some (e, t', A') := h
    cases hc : run c t A with
    | none => rw [hc] at h'; cases h'
    | some x =>
      obtain ⟨e1, t1, A1⟩ := x
      rw [hc] at h'
      obtain ⟨hn1, hp1⟩ := hr c t A e1 t1 A1 hc
      have same : some (e1, t1, A1) = some (e, t', A') → (∀ l, e1 ≠ .goto l) → A.next ≤ A'.next ∧ ∀ E a w Q, Glb E → MR E A w → TR E t n a → Fresh E A A' → From E A w A' t' n a.defers (Q e.to) → passes P body Q (d + 1) c a w := by
        intro h2 hno
        cases h2
        refine ⟨hn1, fun E a w Q hGl hM hT hF hQ => ?_⟩
        refine wpIn_wide.1 (hp1 none E a w _ 0 (.inl rfl) hGl hM hT hF fun E1 a1 w1 s1 hT1 x1 => ?_)
        have := hQ E1 a1 w1 s1 hT1 x1
        cases e with
        | goto l => exact absurd rfl (hno l)
        | _ => exact this
      cases e1 with
      | normal => exact same h' (by simp)
      | exit i => exact same h' (by simp)
      | ret => exact same h' (by simp)
      | goto l =>
        have h2 : (ob (findLabel body l) fun rest => scopeD run body d rest t1 A1) = some (e, t', A') := h'
        obtain ⟨rest, hf, h2⟩ := ob_some.1 h2
        obtain ⟨hn2, hp2⟩ := scopeD_ok hr d rest t1 A1 e t' A' h2
        refine ⟨Nat.le_trans hn1 hn2, fun E a w Q hGl hM hT hF hQ => ?_⟩
        refine wpIn_wide.1 (hp1 none E a w _ 0 (.inl rfl) hGl hM hT (hF.left hn2) fun E1 a1 w1 s1 hT1 x1 => ⟨rest, hf, ?_⟩)
        exact hp2 E1 a1 w1 Q (hGl.mono s1.le) s1.mr hT1 (hF.right s1) (hQ.then hF s1 x1)

theorem scope_ok {c : Code} {run : Code → Body} (d : Nat) (hr : ∀ c, BodyOk P n c (run c)) : BodyOk P n (.scope c) (fun t A => scopeD run c d c t A) := by
  intro t A e t' A' h
  obtain ⟨hn, hp⟩ := scopeD_ok hr d c t A e t' A' h
  refine ⟨hn, fun r E a w Q m hr' hGl hM hT hF hQ => ?_⟩
  obtain rfl : r = none := hr'.resolve_right (by simp [noRF])
  exact wpIn_wide.2 (wp_scope_passes d (hp E a w Q hGl hM hT hF hQ))

theorem still_ok {c : Code} {e : Ex} (h : ∀ F m Q a w, Q e.to a w → c.wpIn F m P Q a w) : BodyOk P n c (fun t A => some (e, t, A)) := by
  intro t A e' t' A' h'
  cases h'
  exact ⟨Nat.le_refl _, fun r E a w Q m hr hGl hM hT hF hQ => h _ _ Q a w (hQ E a w (Stp.refl hM) hT (Ext.same _ _ _))⟩

end Go.Ev
