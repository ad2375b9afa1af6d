/- A run in pieces: each from a state that is written out (what it needs of the heap and the temporaries alone) up to the next. No program in sight. -/
import Derived.Test.YtcpmgjnlnaigbaaGreatDoorEvCut
set_option linter.unusedVariables false
set_option linter.unusedSimpArgs false
noncomputable section
namespace Go.Ev
open Go Go.RowKit

variable {P : Program} {E : Ren} {A A' : AH} {w : World} {t t' : Tp} {n : Nat} {a : Act}

/-- an object that is written out -/
inductive LO where
  | cells (room : Nat) (l : List (Nat × AV)) (g : Option (Nat × Nat)) (ro : Bool)
  | map (es : List (AV × AV)) (clock : Nat) (bs : List Nat)

def mkCs (room : Nat) (l : List (Nat × AV)) : Cs := List.rec (motive := fun _ => Cs) (noCells room) (fun p _ ih => ih.put p.1 p.2) l
def mkO (o : LO) : AObj := match o with
  | .cells room l g ro => .cells (mkCs room l) g ro
  | .map es c bs => .map es ⟨c, bs⟩
def beqG (a b : Option (Nat × Nat)) : Bool := match a, b with
  | none, none => true
  | some a, some b => bc (Nat.beq a.1 b.1) (Nat.beq a.2 b.2) false
  | _, _ => false
def beqB (a b : Bool) : Bool := match a, b with | true, true => true | false, false => true | _, _ => false
def beqV (a : AV) (b : Option AV) : Bool := match b with | some b => AV.beq a b | none => false
def leCells (room : Nat) (cs : Cs) (l : List (Nat × AV)) : Bool := List.rec (motive := fun _ => Bool) true (fun p _ ih => bc (Nat.ble (p.1 + 1) room) (bc (beqV p.2 (cs.get p.1)) ih false) false) l
def beqE (a b : List (AV × AV)) : Bool := match a, b with
  | [], [] => true
  | p :: r, q :: s => bc (AV.beq p.1 q.1) (bc (AV.beq p.2 q.2) (beqE r s) false) false
  | _, _ => false
def beqN (a b : List Nat) : Bool := match a, b with
  | [], [] => true
  | p :: r, q :: s => bc (Nat.beq p q) (beqN r s) false
  | _, _ => false
def leO (lo : LO) (o : AObj) : Bool := match lo, o with
  | .cells room l g ro, .cells cs g' ro' => bc (beqG g g') (bc (beqB ro ro') (leCells (noCells room).room cs l) false) false
  | .map es c bs, .map es' m => bc (beqE es es') (bc (Nat.beq c m.clock) (beqN bs m.bs) false) false
  | _, _ => false

theorem beqG_eq {a b : Option (Nat × Nat)} (h : beqG a b = true) : a = b := by
  unfold beqG at h
  split at h
  · rfl
  · rename_i a b
    rw [bc_and, Nat.beq_eq, Nat.beq_eq] at h
    obtain ⟨a1, a2⟩ := a
    obtain ⟨b1, b2⟩ := b
    simp only at h
    rw [h.1, h.2]
  · cases h
theorem beqB_eq {a b : Bool} (h : beqB a b = true) : a = b := by cases a <;> cases b <;> first | rfl | cases h
theorem beqV_eq {a : AV} {b : Option AV} (h : beqV a b = true) : b = some a := by
  unfold beqV at h
  split at h
  · rw [AV.beq_eq _ _ h]
  · cases h
theorem beqE_eq : ∀ {a b : List (AV × AV)}, beqE a b = true → a = b
  | [], [], _ => rfl
  | [], _ :: _, h => by cases h
  | _ :: _, [], h => by cases h
  | p :: r, q :: s, h => by
    have h' : bc (AV.beq p.1 q.1) (bc (AV.beq p.2 q.2) (beqE r s) false) false = true := h
    rw [bc_and, bc_and] at h'
    obtain ⟨p1, p2⟩ := p
    obtain ⟨q1, q2⟩ := q
    have h1 := AV.beq_eq _ _ h'.1
    have h2 := AV.beq_eq _ _ h'.2.1
    simp only at h1 h2
    rw [h1, h2, beqE_eq h'.2.2]
theorem beqN_eq : ∀ {a b : List Nat}, beqN a b = true → a = b
  | [], [], _ => rfl
  | [], _ :: _, h => by cases h
  | _ :: _, [], h => by cases h
  | p :: r, q :: s, h => by
    have h' : bc (Nat.beq p q) (beqN r s) false = true := h
    rw [bc_and, Nat.beq_eq] at h'
    rw [h'.1, beqN_eq h'.2]

theorem mkCs_room (room : Nat) : ∀ l : List (Nat × AV), (mkCs room l).room = (noCells room).room
  | [] => rfl
  | p :: r => by
    show ((mkCs room r).put p.1 p.2).room = _
    rw [room_put, mkCs_room room r]
theorem mkCs_get {room : Nat} {cs : Cs} : ∀ {l : List (Nat × AV)}, leCells (noCells room).room cs l = true → ∀ i v, (mkCs room l).get i = some v → cs.get i = some v
  | [], _, i, v, h => by
    have h' : (noCells room).get i = some v := h
    rw [noCells_get] at h'; cases h'
  | p :: r, hle, i, v, h => by
    have hle' : bc (Nat.ble (p.1 + 1) (noCells room).room) (bc (beqV p.2 (cs.get p.1)) (leCells (noCells room).room cs r) false) false = true := hle
    rw [bc_and, bc_and, Nat.ble_eq] at hle'
    have h' : ((mkCs room r).put p.1 p.2).get i = some v := h
    rw [csGet_put _ _ _ _ (by rw [mkCs_room]; omega)] at h'
    split at h'
    · rename_i hi; cases h'; rw [hi]; exact beqV_eq hle'.2.1
    · exact mkCs_get hle'.2.2 i v h'

theorem leO_live {lo : LO} {o : AObj} (h : leO lo o = true) : o.live = true ∧ (mkO lo).live = true ∧ (mkO lo).ro = o.ro := by
  unfold leO at h
  split at h
  · rw [bc_and, bc_and] at h
    refine ⟨rfl, rfl, ?_⟩
    show (_ : Bool) = _
    exact beqB_eq h.2.1
  · exact ⟨rfl, rfl, rfl⟩
  · cases h
theorem leO_ok {lo : LO} {o : AObj} {κ : Nat} {ob : Obj} (h : leO lo o = true) (ho : OR E κ o ob) : OR E κ (mkO lo) ob := by
  unfold leO at h
  split at h
  · rename_i room l g ro cs g' ro'
    rw [bc_and, bc_and] at h
    obtain ⟨h1, h2, h3⟩ := h
    have h1 := beqG_eq h1
    have h2 := beqB_eq h2
    subst h1 h2
    obtain ⟨arr, e, fr, rfl, k1, k2, k3⟩ := ho
    exact ⟨arr, e, fr, rfl, fun i v hv => k1 i v (mkCs_get h3 i v hv), k2, fun sz top hg => ⟨(k3 sz top hg).1, fun i v hv => (k3 sz top hg).2 i v (mkCs_get h3 i v hv)⟩⟩
  · rename_i es c bs es' m
    rw [bc_and, bc_and, Nat.beq_eq] at h
    obtain ⟨mc, mb⟩ := m
    obtain ⟨h1, h2, h3⟩ := h
    have h4 := beqE_eq h1
    have h5 : bs = mb := beqN_eq h3
    have h6 : c = mc := h2
    rw [← h4, ← h5, ← h6] at ho
    exact ho
  · cases h

def mkL5 (l : List (Nat × LO)) : L5 AObj := List.rec (motive := fun _ => L5 AObj) (n5 AObj) (fun p _ ih => put5 ih p.1 (mkO p.2)) l
def mkH (l : List (Nat × LO)) (next : Nat) : AH := ⟨.t (mkL5 l), next⟩
def beqO (lo : LO) (o : Option AObj) : Bool := match o with | some o => leO lo o | none => false
def leHl (h : AH) (l : List (Nat × LO)) : Bool := List.rec (motive := fun _ => Bool) true (fun p _ ih => bc (Nat.ble (p.1 + 1) 32768) (bc (beqO p.2 (h.get p.1)) ih false) false) l
def leH (l : List (Nat × LO)) (next : Nat) (h : AH) : Bool := bc (Nat.beq next h.next) (leHl h l) false
theorem mkH_get {next : Nat} {h : AH} : ∀ {l : List (Nat × LO)}, leHl h l = true → ∀ m o, (mkH l next).get m = some o → ∃ lo o', o = mkO lo ∧ h.get m = some o' ∧ leO lo o' = true
  | [], _, m, o, hg => by
    have h' : get5 (n5 AObj) m = some o := hg
    rw [get5_n5] at h'; cases h'
  | p :: r, hle, m, o, hg => by
    have hle' : bc (Nat.ble (p.1 + 1) 32768) (bc (beqO p.2 (h.get p.1)) (leHl h r) false) false = true := hle
    rw [bc_and, bc_and, Nat.ble_eq] at hle'
    have h' : get5 (put5 (mkL5 r) p.1 (mkO p.2)) m = some o := hg
    rw [get5_put5 _ _ _ _ (by omega)] at h'
    split at h'
    · rename_i hm
      cases h'
      subst hm
      have h2 := hle'.2.1
      unfold beqO at h2
      split at h2
      · rename_i o' ho'; exact ⟨p.2, o', rfl, ho', h2⟩
      · cases h2
    · exact mkH_get (next := next) hle'.2.2 m o h'

theorem MR.lit {l : List (Nat × LO)} {next : Nat} (h : MR E A w) (hl : leH l next A = true) : MR E (mkH l next) w := by
  unfold leH at hl
  rw [bc_and, Nat.beq_eq] at hl
  obtain ⟨rfl, hl⟩ := hl
  refine ⟨fun m o hm => ?_, fun m k o p b κ κ' hm hk _ _ he he' => ?_⟩
  · obtain ⟨lo, o', rfl, h1, h2⟩ := mkH_get hl m o hm
    obtain ⟨h3, b, κ, h4, ob, h5, h6⟩ := h.blk m o' h1
    exact ⟨h3, b, κ, h4, ob, h5, leO_ok h2 h6⟩
  · obtain ⟨lo, o', rfl, h1, h2⟩ := mkH_get hl m o hm
    obtain ⟨lo2, p', rfl, h3, h4⟩ := mkH_get hl k p hk
    exact h.inj m k o' p' b κ κ' h1 h3 (leO_live h2).1 (leO_live h4).1 he he'
theorem Own.lit {l : List (Nat × LO)} {next b : Nat} (hl : leH l next A = true) (h : Own E (mkH l next) b) : Own E A b := by
  unfold leH at hl
  rw [bc_and] at hl
  obtain ⟨m, o, κ, h1, h2, h3, h4⟩ := h
  obtain ⟨lo, o', rfl, h5, h6⟩ := mkH_get hl.2 m o h1
  obtain ⟨h7, _, h8⟩ := leO_live h6
  exact ⟨m, o', κ, h5, h7, by rw [← h8]; exact h3, h4⟩
/-- what a run from what is written out has done, a run from the whole has done -/
theorem Stp.ofLit {l : List (Nat × LO)} {next : Nat} {E' : Ren} {w' : World} (hl : leH l next A = true) (s : Stp E (mkH l next) w E' A' w') : Stp E A w E' A' w' := by
  have hl0 := hl
  unfold leH at hl
  rw [bc_and, Nat.beq_eq] at hl
  obtain ⟨rfl, hl⟩ := hl
  refine ⟨s.le, fun m b κ h => ?_, ⟨s.frm.os, s.frm.tape, s.frm.output, s.frm.size, fun b hb hn => s.frm.block b hb fun ho => hn (ho.lit hl0)⟩, s.mr, s.nxt, fun m o hm ho hlv => ?_⟩
  · rcases s.dom m b κ h with h | ⟨h1, h2, h3⟩
    · exact .inl h
    · exact .inr ⟨h1, h2, h3.imp id fun ho => ho.lit hl0⟩
  · obtain ⟨p, hp, h1, h2⟩ := s.old m o hm ho hlv
    obtain ⟨lo, o', rfl, h5, h6⟩ := mkH_get hl m p hp
    obtain ⟨h7, _, h8⟩ := leO_live h6
    exact ⟨o', h5, h7, fun h => by rw [← h8]; exact h2 h⟩

def mkT (l : List (Nat × AV)) : Tp := List.rec (motive := fun _ => Tp) (n3 AV) (fun p _ ih => put3 ih p.1 p.2) l
def leT (l : List (Nat × AV)) (t : Tp) : Bool := List.rec (motive := fun _ => Bool) true (fun p _ ih => bc (Nat.ble (p.1 + 1) 512) (bc (beqV p.2 (get3 t p.1)) ih false) false) l
theorem mkT_get : ∀ {l : List (Nat × AV)}, leT l t = true → ∀ i v, get3 (mkT l) i = some v → get3 t i = some v
  | [], _, i, v, h => by
    have h' : get3 (n3 AV) i = some v := h
    rw [get3_n3] at h'; cases h'
  | p :: r, hle, i, v, h => by
    have hle' : bc (Nat.ble (p.1 + 1) 512) (bc (beqV p.2 (get3 t p.1)) (leT r t) false) false = true := hle
    rw [bc_and, bc_and, Nat.ble_eq] at hle'
    have h' : get3 (put3 (mkT r) p.1 p.2) i = some v := h
    rw [get3_put3 _ _ _ _ (by omega)] at h'
    split at h'
    · rename_i hi; cases h'; rw [hi]; exact beqV_eq hle'.2.1
    · exact mkT_get hle'.2.2 i v h'
theorem TR.lit {l : List (Nat × AV)} (h : TR E t n a) (hl : leT l t = true) : TR E (mkT l) n a := ⟨h.size, h.lim, fun i v hv => h.val i v (mkT_get hl i v hv)⟩

/-- a state that is written out -/
structure Lit where
  t : List (Nat × AV)
  h : List (Nat × LO)
  next : Nat
def Lit.T (s : Lit) : Tp := mkT s.t
def Lit.H (s : Lit) : AH := mkH s.h s.next
def Lit.le (s : Lit) (t : Tp) (A : AH) : Bool := bc (leT s.t t) (leH s.h s.next A) false

/-! ### the pieces put together -/
def Tri (P : Program) (n : Nat) (c : Code) (t : Tp) (A : AH) (x : Ex × Tp × AH) : Prop := A.next ≤ x.2.2.next ∧
  ∀ r E a w Q m, (r = none ∨ noRF c = true) → Glb E → MR E A w → TR E t n a → Fresh E A x.2.2 → From E A w x.2.2 x.2.1 n a.defers (Q x.1.to) → c.wpIn (fen r) m P Q a w
def RTri (P : Program) (n : Nat) (c : Code) (d : Nat) (t : Tp) (A : AH) (x : Ex × Tp × AH) : Prop := A.next ≤ x.2.2.next ∧
  ∀ r E a w Q m, (r = none ∨ noRF c = true) → Glb E → MR E A w → TR E t n a → Fresh E A x.2.2 → From E A w x.2.2 x.2.1 n a.defers (Q x.1.to) → Code.roundsIn (fen r) m P c Q d a w

theorem tri_of {c : Code} {b : Body} (hb : BodyOk P n c b) {x : Ex × Tp × AH} (h : b t A = some x) : Tri P n c t A x := hb t A _ _ _ h
theorem rtri_of {c : Code} {b : Body} (hb : BodyOk P n c b) {d : Nat} {x : Ex × Tp × AH} (h : loopD b d t A = some x) : RTri P n c d t A x := loopD_ok hb d t A _ _ _ h

theorem From.lit {l : List (Nat × LO)} {next : Nat} {D : List Deferred} {R : Act → World → Prop} (hl : leH l next A = true) (h : From E A w A' t' n D R) : From E (mkH l next) w A' t' n D R :=
  fun E' a' w' s hT x => h E' a' w' (s.ofLit hl) hT x
theorem tri_pre {c : Code} {x : Ex × Tp × AH} (s : Lit) (hs : s.le t A = true) (h : Tri P n c s.T s.H x) : Tri P n c t A x := by
  unfold Lit.le at hs
  rw [bc_and] at hs
  have hnx : s.next = A.next := by have := hs.2; unfold leH at this; rw [bc_and, Nat.beq_eq] at this; exact this.1
  refine ⟨by rw [← hnx]; exact h.1, fun r E a w Q m hr hGl hM hT hF hQ => ?_⟩
  refine h.2 r E a w Q m hr hGl (hM.lit hs.2) (hT.lit hs.1) (fun m h1 h2 => hF m (by rw [← hnx]; exact h1) h2) (hQ.lit hs.2)
theorem rtri_pre {c : Code} {d : Nat} {x : Ex × Tp × AH} (s : Lit) (hs : s.le t A = true) (h : RTri P n c d s.T s.H x) : RTri P n c d t A x := by
  unfold Lit.le at hs
  rw [bc_and] at hs
  have hnx : s.next = A.next := by have := hs.2; unfold leH at this; rw [bc_and, Nat.beq_eq] at this; exact this.1
  refine ⟨by rw [← hnx]; exact h.1, fun r E a w Q m hr hGl hM hT hF hQ => ?_⟩
  refine h.2 r E a w Q m hr hGl (hM.lit hs.2) (hT.lit hs.1) (fun m h1 h2 => hF m (by rw [← hnx]; exact h1) h2) (hQ.lit hs.2)

theorem tri_seq {c d : Code} {t1 : Tp} {A1 : AH} {x : Ex × Tp × AH} (h1 : Tri P n c t A (.normal, t1, A1)) (h2 : Tri P n d t1 A1 x) : Tri P n (.seq c d) t A x := by
  obtain ⟨hn1, hp1⟩ := h1
  obtain ⟨hn2, hp2⟩ := h2
  refine ⟨Nat.le_trans hn1 hn2, fun r E a w Q m hr hGl hM hT hF hQ => wpIn_seq (hp1 r E a w _ m (hr.imp id fun h => (noRF_seq h).1) hGl hM hT (hF.left hn2) fun E1 a1 w1 s1 hT1 x1 => ?_)⟩
  exact hp2 r E1 a1 w1 Q m (hr.imp id fun h => (noRF_seq h).2) (hGl.mono s1.le) s1.mr hT1 (hF.right s1) (hQ.then hF s1 x1)
theorem rtri_round {c : Code} {d : Nat} {t1 : Tp} {A1 : AH} {x : Ex × Tp × AH} (h1 : Tri P n c t A (.normal, t1, A1)) (h2 : RTri P n c d t1 A1 x) : RTri P n c (d + 1) t A x := by
  obtain ⟨hn1, hp1⟩ := h1
  obtain ⟨hn2, hp2⟩ := h2
  refine ⟨Nat.le_trans hn1 hn2, fun r E a w Q m hr hGl hM hT hF hQ => ?_⟩
  exact hp1 r E a w _ m hr hGl hM hT (hF.left hn2) fun E1 a1 w1 s1 hT1 x1 => hp2 r E1 a1 w1 Q m hr (hGl.mono s1.le) s1.mr hT1 (hF.right s1) (hQ.then hF s1 x1)
theorem tri_loop {c : Code} {d : Nat} {x : Ex × Tp × AH} (h : RTri P n c d t A x) : Tri P n (.loop c) t A x :=
  ⟨h.1, fun r E a w Q m hr hGl hM hT hF hQ => wpIn_loop_rounds d (h.2 r E a w Q m hr hGl hM hT hF hQ)⟩
open Classical in
theorem tri_block {c : Code} {id : Nat} {x : Tp × AH} (h : Tri P n c t A (.exit id, x)) : Tri P n (.block id c) t A (.normal, x) := by
  have hb : BodyOk P n c (fun t0 A0 => if t0 = t ∧ A0 = A then some (.exit id, x) else none) := by
    intro t0 A0 e t1 A1 h0
    simp only at h0
    split at h0
    · rename_i hc
      obtain ⟨rfl, rfl⟩ := hc
      cases h0
      exact h
    · cases h0
  have := block_ok (id := id) hb t A .normal x.1 x.2 (by
    simp only [and_self, if_true]
    show bc (Nat.beq id id) (some (Ex.normal, x)) (some (Ex.exit id, x)) = _
    rw [Nat.beq_refl, bc_true])
  exact this

/-- so many rounds, none of them the last -/
def loopN (b : Body) (k : Nat) : Tp → AH → Option (Tp × AH) :=
  Nat.rec (motive := fun _ => Tp → AH → Option (Tp × AH)) (fun t h => some (t, h)) (fun _ ih t h => match b t h with | some (.normal, t1, h1) => ih t1 h1 | _ => none) k
theorem rtri_many {c : Code} {b : Body} (hb : BodyOk P n c b) {d : Nat} {x : Ex × Tp × AH} : ∀ (k : Nat) (t : Tp) (A : AH) (t1 : Tp) (A1 : AH), loopN b k t A = some (t1, A1) → RTri P n c d t1 A1 x → RTri P n c (d + k) t A x
  | 0, t, A, t1, A1, h, h2 => by
    have h' : some (t, A) = some (t1, A1) := h
    cases h'
    exact h2
  | k + 1, t, A, t1, A1, h, h2 => by
    have h' : (match b t A with | some (.normal, t1, h1) => loopN b k t1 h1 | _ => none) = some (t1, A1) := h
    cases hx : b t A with
    | none => rw [hx] at h'; cases h'
    | some z =>
      obtain ⟨e1, t2, A2⟩ := z
      rw [hx] at h'
      cases e1 with
      | normal => exact rtri_round (tri_of hb hx) (rtri_many hb k t2 A2 t1 A1 h' h2)
      | _ => cases h'
theorem tri_preRun {code : CodeFn} (hcode : CodeOk P code) : ∀ (j : Nat) (c : Code) (t : Tp) (A : AH) (r : Code × Tp × AH) (x : Ex × Tp × AH), preRun code n j c t A = some r → Tri P n r.1 r.2.1 r.2.2 x → Tri P n c t A x
  | 0, c, t, A, r, x, h, h2 => by
    have h' : some (c, t, A) = some r := h
    cases h'
    exact h2
  | j + 1, c, t, A, r, x, h, h2 => by
    cases c with
    | seq p q =>
      have h' : (match code n p t A with | some (.normal, t1, h1) => preRun code n j q t1 h1 | _ => none) = some r := h
      cases hx : code n p t A with
      | none => rw [hx] at h'; cases h'
      | some z =>
        obtain ⟨e1, t1, A1⟩ := z
        rw [hx] at h'
        cases e1 with
        | normal => exact tri_seq (tri_of (hcode n p) hx) (tri_preRun hcode j q t1 A1 r x h' h2)
        | _ => cases h'
    | _ => (have h' : none = some r := h); cases h'

/-- a law without arguments, out of its pieces -/
theorem law_of_tri {f : FuncId} {x : Nat × List ResultVar × Code} {r : Ex × Tp × AH} (hx : funcOf P f = some x) (h : Tri P x.1 x.2.2 (putArgs [] 0 (n3 AV)) heap0 r) (he : okEnd P x.2.1 (some r) = true) (w : World) :
    Calls P f #[] w fun e w' => e = .returned (.bool true) ∧ Below w.heap.size w w' := by
  obtain ⟨e, t1, A1, hr, he', hres⟩ := okEnd_some he
  clear he
  have he := he'
  have hr := Option.some.inj hr
  subst hr
  obtain ⟨fn, hf, hb, hnt, hx1, hx2⟩ := funcOf_some hx
  rw [hx1] at h
  rw [hx2] at hres
  obtain ⟨hn2, hp2⟩ := h
  have hM : MR ren0 heap0 w := ⟨fun n o h => (by rw [heap0_get] at h; cases h), fun n m o p b κ κ' h => (by rw [heap0_get] at h; cases h)⟩
  have hF : Fresh ren0 heap0 A1 := fun n h1 h2 => by
    have h3 : 1000 ≤ n := h1
    unfold ren0
    rw [if_neg (by omega)]
  have hGl : Glb ren0 := fun g hg => ⟨0, by unfold ren0; rw [if_pos hg]⟩
  have hT : TR ren0 (putArgs [] 0 (n3 AV)) fn.ntmps { tmps := #[] ++ Array.replicate (fn.ntmps - 0) undef, defers := [] } := by
    refine ⟨by simp, hnt, fun i u hu => ?_⟩
    have hu' : get3 (n3 AV) i = some u := hu
    rw [get3_n3] at hu'; cases hu'
  have key : Calls P f #[] w fun e w' => ∃ E' v', e = .returned v' ∧ VR E' (.bool true) v' ∧ Stp ren0 heap0 w E' A1 w' := by
    refine callsIn_wide.1 (callsIn_of_wp_marks (n := 0) hf hb trivial ?_ rfl)
    refine hp2 none ren0 _ w _ 0 (.inl rfl) hGl hM hT hF fun E2 a2 w2 s2 hT3 x2 => ?_
    obtain ⟨ms, hd, hnd, hms⟩ := x2
    have hd' : a2.defers = ms.map mk := by simpa using hd
    have fin : LeavesInM Fence.wide 0 P fn a2.tmps (fun e w' => ∃ E' v', e = .returned v' ∧ VR E' (.bool true) v' ∧ Stp ren0 heap0 w E' A1 w') a2.defers .returning w2 := by
      rw [hd']
      refine leaves_marks (fun W s => ?_) ms w2 hnd hms s2
      obtain ⟨v', h5, h6⟩ := results_ok (P := P) s.mr hT3 hres
      exact ⟨v', h6, E2, v', rfl, h5, s⟩
    rcases he with rfl | rfl
    · exact fin
    · exact fin
  refine key.mono ?_
  rintro e w' ⟨E', v', rfl, hv, s⟩
  simp only [VR] at hv
  subst hv
  refine ⟨rfl, s.frm.os, s.frm.tape, s.frm.output, s.frm.size, fun b hb => s.frm.block b hb ?_⟩
  rintro ⟨n, o, κ, h3, _⟩
  rw [heap0_get] at h3
  cases h3
end Go.Ev
