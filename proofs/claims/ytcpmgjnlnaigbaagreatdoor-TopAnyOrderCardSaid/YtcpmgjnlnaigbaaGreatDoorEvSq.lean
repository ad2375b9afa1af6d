/- A law without arguments whose body has one great loop: cut between rounds. No program in sight. -/
import Derived.Test.YtcpmgjnlnaigbaaGreatDoorEvSp
set_option linter.unusedVariables false
set_option linter.unusedSimpArgs false
noncomputable section
namespace Go.Ev
open Go Go.RowKit

variable {P : Program} {A A' : AH} {w : World} {t t' : Tp} {n : Nat}

/-- 'a; block id { loop b }; rest' -/
def partsOf (c : Code) : Option (Code × Nat × Code × Code) := match c with
  | .seq (.seq a (.block id (.loop b))) rest => some (a, id, b, rest)
  | _ => none
theorem partsOf_some {c a b rest : Code} {id : Nat} (h : partsOf c = some (a, id, b, rest)) : c = .seq (.seq a (.block id (.loop b))) rest := by
  unfold partsOf at h
  split at h
  · cases h; rfl
  · cases h

def GoodL (P : Program) (n : Nat) (id : Nat) (b rest : Code) (res : List ResultVar) (t : Tp) (A : AH) : Prop :=
  ∃ d t' A' y, RTri P n b d t A (.exit id, t', A') ∧ Tri P n rest t' A' y ∧ okEnd P res (some y) = true

/-- from a state that is written out to the end -/
def lastB (P : Program) (code : CodeFn) (n d id : Nat) (b rest : Code) (res : List ResultVar) (s : Lit) : Bool :=
  match loopD (code n b) d s.T s.H with
  | some (.exit i, t, h) => bc (Nat.beq i id) (okEnd P res (code n rest t h)) false
  | _ => false
/-- from one to the next -/
def midB (code : CodeFn) (n k : Nat) (b : Code) (s s' : Lit) : Bool :=
  match loopN (code n b) k s.T s.H with | some (t, h) => s'.le t h | none => false
/-- from the start to the first -/
def firstB (code : CodeFn) (n j k : Nat) (c : Code) (s : Lit) : Bool :=
  match preRun code n j c (putArgs [] 0 (n3 AV)) heap0 with
  | some (c', t1, h1) => (match partsOf c' with
    | some (a, _, b, _) => (match code n a t1 h1 with
      | some (.normal, t2, h2) => (match loopN (code n b) k t2 h2 with | some (t, h) => s.le t h | none => false)
      | _ => false)
    | none => false)
  | none => false

theorem good_last {code : CodeFn} (hcode : CodeOk P code) {d id : Nat} {b rest : Code} {res : List ResultVar} {s : Lit} (h : lastB P code n d id b rest res s = true) : GoodL P n id b rest res s.T s.H := by
  unfold lastB at h
  split at h
  · rename_i i t1 h1 heq
    rw [bc_and, Nat.beq_eq] at h
    obtain ⟨rfl, h⟩ := h
    have h0 := h
    obtain ⟨e, t2, A2, hr, _, _⟩ := okEnd_some h
    exact ⟨d, t1, h1, (e, t2, A2), rtri_of (hcode n b) heq, tri_of (hcode n rest) hr, by rw [hr] at h0; exact h0⟩
  · cases h
theorem good_mid {code : CodeFn} (hcode : CodeOk P code) {k id : Nat} {b rest : Code} {res : List ResultVar} {s s' : Lit} (h : midB code n k b s s' = true) (hg : GoodL P n id b rest res s'.T s'.H) : GoodL P n id b rest res s.T s.H := by
  unfold midB at h
  split at h
  · rename_i t1 h1 heq
    obtain ⟨d, t', A', y, g1, g2, g3⟩ := hg
    exact ⟨d + k, t', A', y, rtri_many (hcode n b) k _ _ _ _ heq (rtri_pre s' h g1), g2, g3⟩
  · cases h
theorem law_first {code : CodeFn} (hcode : CodeOk P code) {f : FuncId} {x : Nat × List ResultVar × Code} {j k id : Nat} {c a b rest : Code} {s : Lit} (hx : funcOf P f = some x) (ht : tailN j x.2.2 = some c) (hp : partsOf c = some (a, id, b, rest))
    (h : firstB code x.1 j k x.2.2 s = true) (hg : GoodL P x.1 id b rest x.2.1 s.T s.H) (w : World) :
    Calls P f #[] w fun e w' => e = .returned (.bool true) ∧ Below w.heap.size w w' := by
  unfold firstB at h
  split at h
  case h_2 => cases h
  rename_i c' t1 h1 heq
  have hc' : tailN j x.2.2 = some c' := by
    have : ∀ (j : Nat) (c : Code) (t : Tp) (A : AH) (r : Code × Tp × AH), preRun code x.1 j c t A = some r → tailN j c = some r.1 := by
      intro j
      induction j with
      | zero => intro c t A r h; have h' : some (c, t, A) = some r := h; cases h'; rfl
      | succ j ih =>
        intro c t A r h
        cases c with
        | seq p q =>
          have h' : (match code x.1 p t A with | some (.normal, t1, h1) => preRun code x.1 j q t1 h1 | _ => none) = some r := h
          split at h'
          · exact ih q _ _ r h'
          · cases h'
        | _ => (have h' : none = some r := h); cases h'
    exact this j _ _ _ _ heq
  rw [ht] at hc'
  cases hc'
  rw [hp] at h
  simp only at h
  split at h
  · rename_i t2 h2 heq2
    split at h
    · rename_i t3 h3 heq3
      obtain ⟨d, t', A', y, g1, g2, g3⟩ := hg
      have hc := partsOf_some hp
      refine law_of_tri hx (tri_preRun hcode j _ _ _ _ y heq ?_) g3 w
      simp only
      rw [hc]
      refine tri_seq (tri_seq (tri_of (hcode x.1 a) heq2) (tri_block (tri_loop (rtri_many (hcode x.1 b) k _ _ _ _ heq3 (rtri_pre s h g1))))) g2
    · cases h
  · cases h
end Go.Ev
