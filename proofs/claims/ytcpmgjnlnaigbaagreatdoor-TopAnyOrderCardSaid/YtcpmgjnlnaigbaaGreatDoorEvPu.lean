/- A call whose body is 'a; scope { .. goto l .. }', cut between jumps. No program in sight. -/
import Derived.Test.YtcpmgjnlnaigbaaGreatDoorEvPt
set_option linter.unusedVariables false
set_option linter.unusedSimpArgs false
noncomputable section
namespace Go.Ev
open Go Go.RowKit

variable {P : Program} {A A' : AH} {t t' : Tp} {n : Nat}

def partsS (l : Nat) (c : Code) : Option (Code × Code × Code) := match c with
  | .seq a (.scope b) => (match findLabel b l with | some rest => some (a, b, rest) | none => none)
  | _ => none
theorem partsS_some {l : Nat} {c a b rest : Code} (h : partsS l c = some (a, b, rest)) : c = .seq a (.scope b) ∧ findLabel b l = some rest := by
  unfold partsS at h
  split at h
  · split at h
    · rename_i hf; cases h; exact ⟨rfl, hf⟩
    · cases h
  · cases h

/-- from the call to the first state -/
def firstS (code : CodeFn) (l k : Nat) (x : Nat × List ResultVar × Code) (args : List AV) (s0 : List (Nat × LO)) (n0 : Nat) (s : Lit) : Bool :=
  match partsS l x.2.2 with
  | some (a, b, rest) => (match code x.1 a (putArgs args 0 (n3 AV)) (mkH s0 n0) with
    | some (.normal, t1, h1) => (match code x.1 b t1 h1 with
      | some (.goto i, t2, h2) => bc (Nat.beq i l) (match jumpsN (code x.1 rest) l k t2 h2 with | some (t, h) => s.le t h | none => false) false
      | _ => false)
    | _ => false)
  | none => false
/-- from one to the next -/
def midS (code : CodeFn) (l k : Nat) (x : Nat × List ResultVar × Code) (s s' : Lit) : Bool :=
  match partsS l x.2.2 with
  | some (_, _, rest) => (match jumpsN (code x.1 rest) l k s.T s.H with | some (t, h) => s'.le t h | none => false)
  | none => false
def isEnd (e : Ex) : Bool := match e with | .normal => true | .ret => true | _ => false
/-- from the last to the answer -/
def lastS (P : Program) (code : CodeFn) (d l : Nat) (x : Nat × List ResultVar × Code) (s : Lit) (v : AV) (s1 : List (Nat × LO)) (n1 : Nat) : Bool :=
  match partsS l x.2.2 with
  | some (_, b, rest) => (match scopeD (code x.1) b d rest s.T s.H with
    | some (e, t, h) => bc (isEnd e) (match mapO (resA P t h) x.2.1 with | some vs => bc (AV.beq (resOf vs) v) (leH s1 n1 h) false | none => false) false
    | none => false)
  | none => false
def GoodS (P : Program) (l : Nat) (x : Nat × List ResultVar × Code) (v : AV) (s1 : List (Nat × LO)) (n1 : Nat) (t : Tp) (A : AH) : Prop :=
  ∃ a b rest d y vs, partsS l x.2.2 = some (a, b, rest) ∧ STri P x.1 b d rest t A y ∧ (y.1 = .normal ∨ y.1 = .ret) ∧ mapO (resA P y.2.1 y.2.2) x.2.1 = some vs ∧ resOf vs = v ∧ leH s1 n1 y.2.2 = true

theorem isEnd_or {e : Ex} (h : isEnd e = true) : e = .normal ∨ e = .ret := by cases e <;> first | exact .inl rfl | exact .inr rfl | cases h

theorem goodS_last {code : CodeFn} (hcode : CodeOk P code) {d l : Nat} {x : Nat × List ResultVar × Code} {s : Lit} {v : AV} {s1 : List (Nat × LO)} {n1 : Nat} (h : lastS P code d l x s v s1 n1 = true) : GoodS P l x v s1 n1 s.T s.H := by
  unfold lastS at h
  split at h
  case h_2 => cases h
  rename_i a b rest hp
  split at h
  case h_2 => cases h
  rename_i e t1 h1 hs
  rw [bc_and] at h
  obtain ⟨he, h⟩ := h
  split at h
  case h_2 => cases h
  rename_i vs hvs
  rw [bc_and] at h
  exact ⟨a, b, rest, d, (e, t1, h1), vs, hp, stri_of hcode hs, isEnd_or he, hvs, AV.beq_eq _ _ h.1, h.2⟩
theorem goodS_mid {code : CodeFn} (hcode : CodeOk P code) {k l : Nat} {x : Nat × List ResultVar × Code} {s s' : Lit} {v : AV} {s1 : List (Nat × LO)} {n1 : Nat} (h : midS code l k x s s' = true) (hg : GoodS P l x v s1 n1 s'.T s'.H) : GoodS P l x v s1 n1 s.T s.H := by
  obtain ⟨a, b, rest, d, y, vs, hp, g1, g2⟩ := hg
  unfold midS at h
  rw [hp] at h
  simp only at h
  split at h
  · rename_i t1 h1 hj
    exact ⟨a, b, rest, d + k, y, vs, hp, stri_many hcode (partsS_some hp).2 k _ _ _ _ hj (stri_pre s' h g1), g2⟩
  · cases h
theorem callPt_scope (hN : P.funcs.all (fun fn => !(fn.name == "runtime.NumGoroutine")) = true) {code : CodeFn} (hcode : CodeOk P code) {f : FuncId} {k l : Nat} {x : Nat × List ResultVar × Code} (hx : funcOf P f = some x) {args : List AV} (hlen : Nat.ble args.length x.1 = true)
    {s : Lit} {v : AV} {s0 s1 : List (Nat × LO)} {n0 n1 : Nat} (h : firstS code l k x args s0 n0 s = true) (hg : GoodS P l x v s1 n1 s.T s.H) : CallPt P f args (mkH s0 n0) v (mkH s1 n1) := by
  obtain ⟨a, b, rest, d, y, vs, hp, g1, g2, g3, g4, g5⟩ := hg
  obtain ⟨hc, hf⟩ := partsS_some hp
  unfold firstS at h
  rw [hp] at h
  simp only at h
  split at h
  case h_2 => cases h
  rename_i t1 h1 ha
  split at h
  case h_2 => cases h
  rename_i i t2 h2 hb
  rw [bc_and, Nat.beq_eq] at h
  obtain ⟨rfl, h⟩ := h
  split at h
  case h_2 => cases h
  rename_i t3 h3 hj
  have tri : Tri P x.1 x.2.2 (putArgs args 0 (n3 AV)) (mkH s0 n0) y := by
    rw [hc]
    exact tri_seq (tri_of (hcode x.1 a) ha) (tri_scope (stri_jump (tri_of (hcode x.1 b) hb) hf (stri_many hcode hf k _ _ _ _ hj (stri_pre s h g1))))
  have := callPt_of_tri hN hx (Nat.le_of_ble_eq_true hlen) tri g2 g3
  rw [g4] at this
  exact this.toLit g5

/-- a call that is run in one piece, from a state that is written out -/
def callB (call : CallFn) (f : FuncId) (args : List AV) (s0 : List (Nat × LO)) (n0 : Nat) (v : AV) (s1 : List (Nat × LO)) (n1 : Nat) : Bool :=
  match call f args (mkH s0 n0) with | some (u, h) => bc (AV.beq u v) (bc (Nat.ble n0 h.next) (leH s1 n1 h) false) false | none => false
theorem callPt_run {call : CallFn} (hC : CallOk P call) {f : FuncId} {args : List AV} {s0 s1 : List (Nat × LO)} {n0 n1 : Nat} {v : AV} (h : callB call f args s0 n0 v s1 n1 = true) : CallPt P f args (mkH s0 n0) v (mkH s1 n1) := by
  unfold callB at h
  split at h
  · rename_i u h1 heq
    rw [bc_and, bc_and, Nat.ble_eq] at h
    have := AV.beq_eq _ _ h.1
    subst this
    exact (callPt_of hC heq h.2.1).toLit h.2.2
  · cases h
end Go.Ev
namespace Go.Ev
open Go
/-- a function by the machine itself, as a function that is known -/
def callP (call : CallFn) (f : FuncId) : PrimF := fun args h => call f args h
theorem callP_ok {P : Program} {call : CallFn} (hC : CallOk P call) (f : FuncId) : CallOk P fun g xs A => bc (Nat.beq g f) (callP call f xs A) none := by
  intro g xs A u A' h0
  have h0' : bc (Nat.beq g f) (call f xs A) none = some (u, A') := h0
  cases hg : Nat.beq g f with
  | false => rw [hg] at h0'; cases h0'
  | true =>
    rw [hg, bc_true] at h0'
    rw [Nat.beq_eq] at hg
    subst hg
    exact hC g xs A u A' h0'
end Go.Ev
