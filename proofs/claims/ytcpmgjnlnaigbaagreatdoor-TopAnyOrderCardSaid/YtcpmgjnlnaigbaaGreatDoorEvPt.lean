/- A call from a state that is written out, as known; scopes in pieces. No program in sight. -/
import Derived.Test.YtcpmgjnlnaigbaaGreatDoorEvSp
import Derived.Test.YtcpmgjnlnaigbaaGreatDoorEvPr
set_option linter.unusedVariables false
set_option linter.unusedSimpArgs false
noncomputable section
namespace Go.Ev
open Go Go.RowKit

variable {P : Program} {E : Ren} {A A' : AH} {w : World} {t t' : Tp} {n : Nat} {a : Act}

/-! ### scopes -/
def STri (P : Program) (n : Nat) (body : Code) (d : Nat) (c : Code) (t : Tp) (A : AH) (x : Ex × Tp × AH) : Prop := A.next ≤ x.2.2.next ∧
  ∀ E a w Q, Glb E → MR E A w → TR E t n a → Fresh E A x.2.2 → From E A w x.2.2 x.2.1 n a.defers (Q x.1.to) → passes P body Q d c a w
theorem stri_of {code : CodeFn} (hcode : CodeOk P code) {body c : Code} {d : Nat} {x : Ex × Tp × AH} (h : scopeD (code n) body d c t A = some x) : STri P n body d c t A x := scopeD_ok (hcode n) d c t A _ _ _ h
theorem stri_pre {body c : Code} {d : Nat} {x : Ex × Tp × AH} (s : Lit) (hs : s.le t A = true) (h : STri P n body d c s.T s.H x) : STri P n body d c t A x := by
  unfold Lit.le at hs
  rw [bc_and] at hs
  have hnx : s.next = A.next := by have := hs.2; unfold leH at this; rw [bc_and, Nat.beq_eq] at this; exact this.1
  refine ⟨by rw [← hnx]; exact h.1, fun E a w Q hGl hM hT hF hQ => ?_⟩
  refine h.2 E a w Q hGl (hM.lit hs.2) (hT.lit hs.1) (fun m h1 h2 => hF m (by rw [← hnx]; exact h1) h2) (hQ.lit hs.2)
theorem stri_jump {body c rest : Code} {d l : Nat} {t1 : Tp} {A1 : AH} {x : Ex × Tp × AH} (h1 : Tri P n c t A (.goto l, t1, A1)) (hf : findLabel body l = some rest) (h2 : STri P n body d rest t1 A1 x) : STri P n body (d + 1) c t A x := by
  obtain ⟨hn1, hp1⟩ := h1
  obtain ⟨hn2, hp2⟩ := h2
  refine ⟨Nat.le_trans hn1 hn2, fun E a w Q hGl hM hT hF hQ => ?_⟩
  refine wpIn_wide.1 (hp1 none E a w _ 0 (.inl rfl) hGl hM hT (hF.left hn2) fun E1 a1 w1 s1 hT1 x1 => ⟨rest, hf, ?_⟩)
  exact hp2 E1 a1 w1 Q (hGl.mono s1.le) s1.mr hT1 (hF.right s1) (hQ.then hF s1 x1)
open Classical in
theorem tri_scope {body : Code} {d : Nat} {x : Ex × Tp × AH} (h : STri P n body d body t A x) : Tri P n (.scope body) t A x := by
  refine ⟨h.1, fun r E a w Q m hr hGl hM hT hF hQ => ?_⟩
  have hr' : r = none := hr.resolve_right (by simp [noRF])
  subst hr'
  exact wpIn_wide.2 (wp_scope_passes d (h.2 E a w Q hGl hM hT hF hQ))
/-- so many jumps to one label -/
def jumpsN (b : Body) (l k : Nat) : Tp → AH → Option (Tp × AH) :=
  Nat.rec (motive := fun _ => Tp → AH → Option (Tp × AH)) (fun t h => some (t, h)) (fun _ ih t h => match b t h with | some (.goto i, t1, h1) => bc (Nat.beq i l) (ih t1 h1) none | _ => none) k
theorem stri_many {code : CodeFn} (hcode : CodeOk P code) {body rest : Code} {l d : Nat} (hf : findLabel body l = some rest) {x : Ex × Tp × AH} : ∀ (k : Nat) (t : Tp) (A : AH) (t1 : Tp) (A1 : AH), jumpsN (code n rest) l k t A = some (t1, A1) → STri P n body d rest t1 A1 x → STri P n body (d + k) rest t A x
  | 0, t, A, t1, A1, h, h2 => by
    have h' : some (t, A) = some (t1, A1) := h
    cases h'
    exact h2
  | k + 1, t, A, t1, A1, h, h2 => by
    have h' : (match code n rest t A with | some (.goto i, t1, h1) => bc (Nat.beq i l) (jumpsN (code n rest) l k t1 h1) none | _ => none) = some (t1, A1) := h
    cases hx : code n rest t A with
    | none => rw [hx] at h'; cases h'
    | some z =>
      obtain ⟨e1, t2, A2⟩ := z
      rw [hx] at h'
      cases e1 with
      | goto i =>
        have h3 : bc (Nat.beq i l) (jumpsN (code n rest) l k t2 A2) none = some (t1, A1) := h'
        cases hi : Nat.beq i l with
        | false => rw [hi] at h3; cases h3
        | true =>
          rw [hi, bc_true] at h3
          rw [Nat.beq_eq] at hi
          subst hi
          exact stri_jump (tri_of (hcode n rest) hx) hf (stri_many hcode hf k t2 A2 t1 A1 h3 h2)
      | _ => cases h'

/-! ### one call -/
def CallPt (P : Program) (f : FuncId) (args : List AV) (A : AH) (v : AV) (A' : AH) : Prop := Enters P f ∧ A.next ≤ A'.next ∧ ∀ E w (az : Array Value), Glb E → MR E A w → VRL E args az.toList → Fresh E A A' →
  Calls P f az w fun e w' => ∃ E' v', e = .returned v' ∧ VR E' v v' ∧ Stp E A w E' A' w'

/-- a step's end, as far as it is written out -/
theorem Stp.toLit {l : List (Nat × LO)} {next : Nat} {E' : Ren} {w' : World} (hl : leH l next A' = true) (s : Stp E A w E' A' w') : Stp E A w E' (mkH l next) w' := by
  have hl0 := hl
  unfold leH at hl
  rw [bc_and, Nat.beq_eq] at hl
  obtain ⟨rfl, hl⟩ := hl
  refine ⟨s.le, s.dom, s.frm, s.mr.lit hl0, s.nxt, fun m o hm ho hlv => ?_⟩
  obtain ⟨lo, o', rfl, h5, h6⟩ := mkH_get hl m o ho
  obtain ⟨h7, _, h8⟩ := leO_live h6
  obtain ⟨p, hp, h1, h2⟩ := s.old m o' hm h5 h7
  exact ⟨p, hp, h1, fun h => h2 (by rw [← h8]; exact h)⟩
theorem leH_next {l : List (Nat × LO)} {next : Nat} (hl : leH l next A = true) : next = A.next := by
  unfold leH at hl; rw [bc_and, Nat.beq_eq] at hl; exact hl.1
theorem CallPt.toLit {f : FuncId} {args : List AV} {v : AV} (h : CallPt P f args A v A') {l : List (Nat × LO)} {next : Nat} (hl : leH l next A' = true) : CallPt P f args A v (mkH l next) := by
  have hnx := leH_next hl
  refine ⟨h.1, by show A.next ≤ next; rw [hnx]; exact h.2.1, fun E w az hGl hM ha hF => (h.2.2 E w az hGl hM ha fun m h1 h2 => hF m h1 (by show m < next; rw [hnx]; exact h2)).mono ?_⟩
  rintro e w' ⟨E', v', h1, h2, s⟩
  exact ⟨E', v', h1, h2, s.toLit hl⟩
theorem callPt_of {call : CallFn} (hC : CallOk P call) {f : FuncId} {args : List AV} {v : AV} (h : call f args A = some (v, A')) (hn : A.next ≤ A'.next) : CallPt P f args A v A' :=
  ⟨(hC f args A v A' h).1, hn, (hC f args A v A' h).2⟩

def noPrims : Prims := ⟨fun _ => none, fun _ => none⟩
theorem noPrims_ok : PrimsOk P noPrims := ⟨fun f p h => (by cases h), fun f s h => (by cases h)⟩
open Classical in
theorem callPt_of_tri (hN : P.funcs.all (fun fn => !(fn.name == "runtime.NumGoroutine")) = true) {f : FuncId} {x : Nat × List ResultVar × Code} (hx : funcOf P f = some x) {args : List AV} (hlen : args.length ≤ x.1) {y : Ex × Tp × AH}
    (h : Tri P x.1 x.2.2 (putArgs args 0 (n3 AV)) A y) (he : y.1 = .normal ∨ y.1 = .ret) {l : List AV} (hres : mapO (resA P y.2.1 y.2.2) x.2.1 = some l) : CallPt P f args A (resOf l) y.2.2 := by
  let code : CodeFn := fun n c t h => if n = x.1 ∧ c = x.2.2 ∧ t = putArgs args 0 (n3 AV) ∧ h = A then some y else none
  have hcode : CodeOk P code := by
    intro n c t A0 e t1 A1 h0
    have h0' : (if n = x.1 ∧ c = x.2.2 ∧ t = putArgs args 0 (n3 AV) ∧ A0 = A then some y else none) = some (e, t1, A1) := h0
    split at h0'
    · rename_i hc
      obtain ⟨rfl, rfl, rfl, rfl⟩ := hc
      cases h0'
      exact h
    · cases h0'
  refine callPt_of (call_ok hN noPrims_ok hcode) ?_ h.1
  show (ob (funcOf P f) fun x => og (Nat.ble (lenN args) x.1) (atEnd (code x.1 x.2.2 (putArgs args 0 (n3 AV)) A) fun t h' => om (mapO (resA P t h') x.2.1) fun l => (resOf l, h'))) = some (resOf l, y.2.2)
  rw [ob_some]
  refine ⟨x, hx, ?_⟩
  rw [og_some, Nat.ble_eq, lenN_eq]
  refine ⟨hlen, ?_⟩
  have hc : code x.1 x.2.2 (putArgs args 0 (n3 AV)) A = some y := by
    show (if x.1 = x.1 ∧ x.2.2 = x.2.2 ∧ putArgs args 0 (n3 AV) = putArgs args 0 (n3 AV) ∧ A = A then some y else none) = some y
    rw [if_pos ⟨rfl, rfl, rfl, rfl⟩]
  rw [hc]
  obtain ⟨e, t1, A1⟩ := y
  simp only at he hres
  rcases he with rfl | rfl
  · show (om (mapO (resA P t1 A1) x.2.1) fun l => (resOf l, A1)) = _
    rw [hres]; rfl
  · show (om (mapO (resA P t1 A1) x.2.1) fun l => (resOf l, A1)) = _
    rw [hres]; rfl

/-- a call that is known at one state -/
def ptP (args0 : List AV) (s0 : List (Nat × LO)) (n0 : Nat) (v : AV) (s1 : List (Nat × LO)) (n1 : Nat) : PrimF := fun args h => og (bc (AV.beqL args0 args) (leH s0 n0 h) false) (some (v, mkH s1 n1))
theorem ptP_ok {f : FuncId} {args0 : List AV} {s0 s1 : List (Nat × LO)} {n0 n1 : Nat} {v : AV} (h : CallPt P f args0 (mkH s0 n0) v (mkH s1 n1)) : CallOk P fun g xs A => bc (Nat.beq g f) (ptP args0 s0 n0 v s1 n1 xs A) none := by
  intro g xs A u A' h0
  have h0' : bc (Nat.beq g f) (ptP args0 s0 n0 v s1 n1 xs A) none = some (u, A') := h0
  cases hg : Nat.beq g f with
  | false => rw [hg] at h0'; cases h0'
  | true =>
    rw [hg, bc_true] at h0'
    rw [Nat.beq_eq] at hg
    subst hg
    unfold ptP at h0'
    rw [og_some, bc_and] at h0'
    obtain ⟨⟨h1, h2⟩, h3⟩ := h0'
    cases h3
    have := AV.beqL_eq _ _ h1
    subst this
    have hnx := leH_next h2
    refine ⟨h.1, fun E w az hGl hM ha hF => (h.2.2 E w az hGl (hM.lit h2) ha fun m k1 k2 => hF m (by rw [← hnx]; exact k1) k2).mono ?_⟩
    rintro e w' ⟨E', v', k1, k2, s⟩
    exact ⟨E', v', k1, k2, s.ofLit h2⟩
def orP (p q : PrimF) : PrimF := fun args h => match p args h with | some r => some r | none => q args h
theorem orP_ok {f : FuncId} {p q : PrimF} (hp : CallOk P fun g xs A => bc (Nat.beq g f) (p xs A) none) (hq : CallOk P fun g xs A => bc (Nat.beq g f) (q xs A) none) : CallOk P fun g xs A => bc (Nat.beq g f) (orP p q xs A) none := by
  intro g xs A u A' h0
  have h0' : bc (Nat.beq g f) (orP p q xs A) none = some (u, A') := h0
  cases hg : Nat.beq g f with
  | false => rw [hg] at h0'; cases h0'
  | true =>
    rw [hg, bc_true] at h0'
    unfold orP at h0'
    cases hpx : p xs A with
    | some r => rw [hpx] at h0'; exact hp g xs A u A' (by simp only [hg, bc_true]; rw [hpx]; exact h0')
    | none => rw [hpx] at h0'; exact hq g xs A u A' (by simp only [hg, bc_true]; exact h0')
/-- a closed function that answers true -/
def trueP : PrimF := fun args h => match args with | [] => some (.bool true, h) | _ => none
theorem trueP_ok {f : FuncId} (hE : Enters P f) (h : ∀ w, Calls P f #[] w fun e w' => e = .returned (.bool true) ∧ Below w.heap.size w w') : CallOk P fun g xs A => bc (Nat.beq g f) (trueP xs A) none := by
  intro g xs A u A' h0
  have h0' : bc (Nat.beq g f) (trueP xs A) none = some (u, A') := h0
  cases hg : Nat.beq g f with
  | false => rw [hg] at h0'; cases h0'
  | true =>
    rw [hg, bc_true] at h0'
    rw [Nat.beq_eq] at hg
    subst hg
    unfold trueP at h0'
    split at h0'
    · cases h0'
      refine ⟨hE, fun E w az hGl hM ha hF => ?_⟩
      have ha' : az.toList = [] := by simpa [VRL] using ha
      have : az = #[] := by rw [← Array.toArray_toList (xs := az), ha']
      subst this
      refine (h w).mono ?_
      rintro e w' ⟨rfl, hb⟩
      exact ⟨E, _, rfl, by simp [VR], Stp.below hM hb⟩
    · cases h0'
end Go.Ev
