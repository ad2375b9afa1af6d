/- What is known of functions, put together; maps.Clone; a number brought within bounds. No program in sight. -/
import Derived.Test.YtcpmgjnlnaigbaaGreatDoorEvY
import Derived.Shelf.SlMaps.Clone
set_option linter.unusedVariables false
set_option linter.unusedSimpArgs false
noncomputable section
namespace Go.Ev
open Go Go.RowKit Go.Shelf Go.Proofs

variable {P : Program} {E : Ren} {A A' : AH} {w : World}

abbrev PrimF := List AV → AH → Option (AV × AH)
def addPrim (g : FuncId) (p : PrimF) (rest : FuncId → Option PrimF) : FuncId → Option PrimF := fun f => bc (Nat.beq f g) (some p) (rest f)
def noPrim : FuncId → Option PrimF := fun _ => none
def FnOk (P : Program) (fn : FuncId → Option PrimF) : Prop := ∀ f q, fn f = some q → CallOk P fun x xs A => bc (Nat.beq x f) (q xs A) none
theorem noPrim_ok : FnOk P noPrim := fun f q h => by cases h
theorem addPrim_ok {g : FuncId} {p : PrimF} {rest : FuncId → Option PrimF} (h : CallOk P fun x xs A => bc (Nat.beq x g) (p xs A) none) (hr : FnOk P rest) : FnOk P (addPrim g p rest) := by
  intro f q hq
  have hq' : bc (Nat.beq f g) (some p) (rest f) = some q := hq
  cases hb : Nat.beq f g with
  | true =>
    rw [hb, bc_true] at hq'
    rw [Nat.beq_eq] at hb
    subst hb
    cases hq'
    exact h
  | false => rw [hb, bc_false] at hq'; exact hr f q hq'

def cloneP (l : List AV) (h : AH) : Option (AV × AH) :=
  match l with
  | [.map none] => some (.map none, h)
  | [.map (some n)] => ob (h.get n) fun o => onMapO o fun es c => og h.has (some (.map (some h.next), h.push (.map es c)))
  | _ => none

theorem clone_prim {ρ : Go.Shelf.Ren} (L : SlLaysW.n5 P ρ) (eE : Enters P (ρ.f 5)) : CallOk P fun g xs A => bc (Nat.beq g (ρ.f 5)) (cloneP xs A) none := by
  intro g xs A v A' h0
  have h : bc (Nat.beq g (ρ.f 5)) (cloneP xs A) none = some (v, A') := h0
  clear h0
  cases hg : Nat.beq g (ρ.f 5) with
  | false => rw [hg] at h; cases h
  | true =>
    rw [hg, bc_true] at h
    rw [Nat.beq_eq] at hg
    subst hg
    refine ⟨eE, fun E w args hGl hM hargs hF => ?_⟩
    unfold cloneP at h
    split at h
    · cases h
      simp only [VRL, VR] at hargs
      obtain ⟨y, s, hy, rfl, rfl⟩ := hargs
      have ha : args = #[.map none] := by rw [← Array.toArray_toList (xs := args), hy]
      subst ha
      refine (Go.Proofs.AnyW.maps_Clone_nil L w).mono ?_
      rintro e w' ⟨rfl, rfl⟩
      exact ⟨E, _, rfl, by simp [VR], Stp.refl hM⟩
    · rename_i n
      simp only [ob_some, onMapO_some, og_some] at h
      obtain ⟨_, hgn, es, c, rfl, htop, h⟩ := h
      cases h
      simp only [VRL, VR] at hargs
      obtain ⟨y, s, hy, ⟨b, κ, hEn, rfl⟩, rfl⟩ := hargs
      have ha : args = #[.map (some b)] := by rw [← Array.toArray_toList (xs := args), hy]
      subst ha
      obtain ⟨arr, clk, hb, hbn, hclk, hmr⟩ := hM.map hgn hEn
      have hEx : E A.next = none := hF A.next (Nat.le_refl _) (by show A.next < A.next + 1; omega)
      refine (Go.Proofs.AnyW.maps_Clone L b arr clk w hb).mono ?_
      rintro e w' ⟨rfl, rfl⟩
      have hle := Ren.le_put hEx w.heap.size 0
      have ho : OR (E.put A.next w.heap.size 0) 0 (.map es c) (.map arr clk) := OR.mono hle ⟨arr, clk, rfl, hbn, hclk, hmr⟩
      exact ⟨E.put A.next w.heap.size 0, _, rfl, by simp only [VR]; exact ⟨_, _, Ren.put_self _ _ _ _, rfl⟩, Stp.push hM hEx htop ho rfl rfl rfl rfl⟩
    · cases h

/-- n brought into lo .. hi -/
def wthn (n lo hi : Int) : Int := lo + (if n.tmod (hi - lo + 1) < 0 then n.tmod (hi - lo + 1) + (hi - lo + 1) else n.tmod (hi - lo + 1))
theorem wthn_bd (n lo hi : Int) (h : lo ≤ hi) : lo ≤ wthn n lo hi ∧ wthn n lo hi ≤ hi := by
  unfold wthn
  have h1 := Int.tmod_lt_of_pos n (b := hi - lo + 1) (by omega)
  have h2 : -(hi - lo + 1) < n.tmod (hi - lo + 1) := by
    have h3 := Int.tmod_lt_of_pos (-n) (b := hi - lo + 1) (by omega)
    rw [Int.neg_tmod] at h3
    omega
  split <;> omega
def smallI (n : Int) : Bool := Int.casesOn (motive := fun _ => Bool) n (fun m => Nat.ble m 1000000000) (fun _ => false)
def withinP (l : List AV) (h : AH) : Option (AV × AH) :=
  match l with
  | [.int .i64 n, .int .i64 lo, .int .i64 hi] => og (bc (smallI lo) (bc (smallI hi) (!(ltI hi lo)) false) false) (some (.int .i64 (wthn n lo hi), h))
  | _ => none
theorem smallI_bd {n : Int} (h : smallI n = true) : 0 ≤ n ∧ n ≤ 1000000000 := by
  cases n with
  | ofNat m => have := Nat.le_of_ble_eq_true h; constructor <;> simp <;> omega
  | negSucc m => cases h

/-- what Within comes to -/
def WithinOk (P : Program) (f : FuncId) : Prop := Enters P f ∧ ∀ (n lo hi : Int) (w : World), 0 ≤ lo → lo ≤ hi → hi ≤ 1000000000 →
  Calls P f #[.int .i64 n, .int .i64 lo, .int .i64 hi] w fun e w' => e = .returned (.int .i64 (wthn n lo hi)) ∧ w' = w
theorem within_prim {f : FuncId} (hW : WithinOk P f) : CallOk P fun g xs A => bc (Nat.beq g f) (withinP xs A) none := by
  intro g xs A v A' h0
  have h : bc (Nat.beq g f) (withinP xs A) none = some (v, A') := h0
  clear h0
  cases hg : Nat.beq g f with
  | false => rw [hg] at h; cases h
  | true =>
    rw [hg, bc_true] at h
    rw [Nat.beq_eq] at hg
    subst hg
    refine ⟨hW.1, fun E w args hGl hM hargs hF => ?_⟩
    unfold withinP at h
    split at h
    · rename_i n lo hi
      rw [og_some, bc_and, bc_and] at h
      obtain ⟨⟨h1, h2, h3⟩, h⟩ := h
      cases h
      have h1 := smallI_bd h1
      have h2 := smallI_bd h2
      rw [ltI_eq] at h3
      have h3 : lo ≤ hi := by simpa using h3
      simp only [VRL, VR] at hargs
      obtain ⟨y, s, hy, rfl, y2, s2, rfl, rfl, y3, s3, rfl, rfl, rfl⟩ := hargs
      have ha : args = #[.int .i64 n, .int .i64 lo, .int .i64 hi] := by rw [← Array.toArray_toList (xs := args), hy]
      subst ha
      refine (hW.2 n lo hi w (by omega) h3 (by omega)).mono ?_
      rintro e w' ⟨rfl, rfl⟩
      exact ⟨E, _, rfl, by simp [VR], Stp.refl hM⟩
    · cases h
end Go.Ev
