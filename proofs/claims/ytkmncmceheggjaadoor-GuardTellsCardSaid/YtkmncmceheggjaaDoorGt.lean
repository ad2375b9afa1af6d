/- A region that draws its order: reads may be taken first where the cells stand as they are behind every operation that does not wait for all of these reads (what is written behind the last read is free). No program's text. -/
import Derived.Test.YtkmncmceheggjaaDoorGf
import Derived.OrdersHeld
namespace Go.Proofs.YtkmncmceheggjaaDoor
open Go.RowKit Go.Shelf
set_option linter.unusedVariables false
set_option linter.unusedSimpArgs false

section
variable {P : Program} {ops : Array Oper} {Q : Exit → Act → World → Prop} {md : Region.Mode} {C : World → Prop} {T L : Nat → Bool}

/-- what an operation waits for, directly -/
def waits (md : Region.Mode) (ops : Array Oper) (j : Nat) : List Nat := match ops[j]? with
  | some o => o.after.toList.filterMap fun e => if Region.binds md e = true then some e.on else none
  | none => []
/-- and through others -/
def ancN (md : Region.Mode) (ops : Array Oper) : Nat → Nat → List Nat
  | 0, _ => []
  | n + 1, j => waits md ops j ++ (waits md ops j).flatMap (ancN md ops n)
def lateB (md : Region.Mode) (ops : Array Oper) (n : Nat) (ts ls : List Nat) : Bool := ls.all fun j => ts.all fun t => (ancN md ops n j).contains t

/-- what has come up has all behind it that it waits for -/
def Closed (md : Region.Mode) (ops : Array Oper) (listed : Array Bool) : Prop := ∀ j, listed.getD j false = true → ∀ e ∈ waits md ops j, listed.getD e false = true
def closedB (md : Region.Mode) (ops : Array Oper) (listed : Array Bool) : Bool := (List.range listed.size).all fun j => !(listed.getD j false) || (waits md ops j).all fun e => listed.getD e false
theorem closed_of_B {listed : Array Bool} (h : closedB md ops listed = true) : Closed md ops listed := by
  intro j hj e he
  unfold closedB at h
  have hlt : j < listed.size := by
    rcases Nat.lt_or_ge j listed.size with h' | h'
    · exact h'
    · simp [Array.getElem?_eq_none h'] at hj
  have h1 := List.all_eq_true.1 h j (List.mem_range.2 hlt)
  simp only [hj, Bool.not_true, Bool.false_or] at h1
  exact List.all_eq_true.1 h1 e he
theorem waits_of_ready {listed : Array Bool} {j : Nat} (h : j ∈ Region.ready md ops listed) : ∀ e ∈ waits md ops j, listed.getD e false = true := by
  obtain ⟨_, o, ho, hall⟩ := mem_ready.1 h
  intro e he
  unfold waits at he
  rw [ho] at he
  simp only [List.mem_filterMap, Option.ite_none_right_eq_some, Option.some.injEq] at he
  obtain ⟨d, hd, hb, rfl⟩ := he
  have := hall d (by simpa using hd) hb
  simpa using this
theorem anc_listed {listed : Array Bool} (hc : Closed md ops listed) : ∀ (n j : Nat), (∀ e ∈ waits md ops j, listed.getD e false = true) → ∀ t ∈ ancN md ops n j, listed.getD t false = true
  | 0, _, _, t, ht => by simp [ancN] at ht
  | n + 1, j, hj, t, ht => by
    unfold ancN at ht
    rcases List.mem_append.1 ht with h | h
    · exact hj t h
    · obtain ⟨e, he, h2⟩ := List.mem_flatMap.1 h
      exact anc_listed hc n e (hc e (hj e he)) t h2
theorem closed_set {listed : Array Bool} {j : Nat} (hc : Closed md ops listed) (hj : j ∈ Region.ready md ops listed) : Closed md ops (listed.setIfInBounds j true) := by
  intro k hk e he
  have mono : ∀ x, listed.getD x false = true → (listed.setIfInBounds j true).getD x false = true := by
    intro x hx
    by_cases hxj : j = x
    · subst hxj
      simp [Array.getElem?_setIfInBounds]
      rcases Nat.lt_or_ge j listed.size with h' | h'
      · simp [h']
      · simp [Array.getElem?_eq_none h'] at hx
    · rw [getD_set_ne false hxj]; exact hx
  by_cases hkj : j = k
  · subst hkj
    exact mono e (waits_of_ready hj e he)
  · rw [getD_set_ne false hkj] at hk
    exact mono e (hc k hk e he)

/-- whatever order is picked from here on, and C holds behind every operation that is not late -/
def wpAnyT (P : Program) (md : Region.Mode) (ops : Array Oper) (Q : Exit → Act → World → Prop) (C : World → Prop) (L : Nat → Bool) : Nat → Array Bool → Act → World → Prop
  | 0, listed, a, w => Region.ready md ops listed = [] ∧ Q .normal a w
  | fuel + 1, listed, a, w =>
    (Region.ready md ops listed = [] → Q .normal a w) ∧
    ∀ i ∈ Region.ready md ops listed, wpOp P ops Q i (fun a' w' => (L i = false → C w') ∧ wpAnyT P md ops Q C L fuel (listed.setIfInBounds i true) a' w') a w

theorem wpAny_of_T : ∀ (fuel : Nat) (listed : Array Bool) (a : Act) (w : World), wpAnyT P md ops Q C L fuel listed a w → wpAny P md ops Q fuel listed a w
  | 0, _, _, _, h => h
  | fuel + 1, _, _, _, h => ⟨h.1, fun i hi => wpOp_mono (fun a' w' h' => wpAny_of_T fuel _ a' w' h'.2) (h.2 i hi)⟩

theorem wpAnyT_first {i : Nat} {oi : Oper} {v : Value} (hi : ops[i]? = some oi) (hL : ∀ (listed : Array Bool) j, Closed md ops listed → L j = true → j ∈ Region.ready md ops listed → listed.getD i false = true) (hsel : ∀ (j : Nat) (o : Oper) cs b, ops[j]? = some o → o.op ≠ .select cs b)
    (hQ : ∀ c a w, Q (.panic c) (a.put oi.dst v) w → Q (.panic c) a w) :
    ∀ (fuel : Nat) (listed : Array Bool) (a : Act) (w : World), Closed md ops listed →
      (∀ j oj, ops[j]? = some oj → j ≠ i → listed.getD j true = false → (∀ e ∈ oj.after, Region.binds md e = true → e.on ≠ i) → oi.apart ops oj = true) →
      i ∈ Region.ready md ops listed → YieldsIf P ops C oi v a → C w →
      wpAnyT P md ops Q C L fuel (listed.setIfInBounds i true) (a.put oi.dst v) w → wpAnyT P md ops Q C L (fuel + 1) listed a w := by
  intro fuel
  induction fuel with
  | zero =>
    intro listed a w _ _ hr hy hS H
    refine ⟨fun h => (by rw [h] at hr; cases hr), fun j hj => ?_⟩
    by_cases hji : j = i
    · subst hji; exact hy.wpOp hi hS ⟨fun _ => hS, H⟩
    · have := ready_mono hj hji
      rw [H.1] at this
      cases this
  | succ fuel ih =>
    intro listed a w hcl hfree hr hy hS H
    refine ⟨fun h => (by rw [h] at hr; cases hr), fun j hj => ?_⟩
    by_cases hji : j = i
    · subst hji; exact hy.wpOp hi hS ⟨fun _ => hS, H⟩
    · have h1 := H.2 j (ready_mono hj hji)
      obtain ⟨hjun, oj, hoj, hall⟩ := mem_ready.1 hj
      have hipend := (mem_ready.1 hr).1
      have hnl : L j = false := by
        cases hq : L j with
        | false => rfl
        | true =>
          have h2 := hL listed j hcl hq hj
          rcases Nat.lt_or_ge i listed.size with h' | h'
          · simp [h'] at h2 hipend; rw [h2] at hipend; cases hipend
          · simp [Array.getElem?_eq_none h'] at h2
      have hnot : ∀ e ∈ oj.after, Region.binds md e = true → e.on ≠ i := fun e he hb heq => by
        have h1 := hall e he hb
        have h0 := (mem_ready.1 hr).1
        rw [heq] at h1
        rcases Nat.lt_or_ge i listed.size with h' | h'
        · simp [h'] at h0 h1; rw [h0] at h1; cases h1
        · simp [Array.getElem?_eq_none h'] at h1
      have h2 := wpOp_putIf hoj (hfree j oj hoj hji hjun hnot) (fun cs b => hsel i oi cs b hi) (fun cs b => hsel j oj cs b hoj) hQ hy h1
      have hfree' : ∀ k ok, ops[k]? = some ok → k ≠ i → (listed.setIfInBounds j true).getD k true = false →
          (∀ e ∈ ok.after, Region.binds md e = true → e.on ≠ i) → oi.apart ops ok = true := fun k ok hk hki hun hno => by
        refine hfree k ok hk hki ?_ hno
        by_cases hjk : j = k
        · subst hjk; exact hjun
        · rw [getD_set_ne true hjk] at hun; exact hun
      refine wpOp_mono (fun a' w' h3 => ⟨h3.2.1, ih (listed.setIfInBounds j true) a' w' (closed_set hcl hj) hfree' (ready_mono hr (Ne.symm hji)) h3.1 (h3.2.1 hnl) ?_⟩) h2
      rw [Array.setIfInBounds_comm _ _ hji]
      exact h3.2.2

theorem late_of_B {n : Nat} {ts ls : List Nat} (h : lateB md ops n ts ls = true) {i : Nat} (hi : i ∈ ts) : ∀ (listed : Array Bool) j, Closed md ops listed → ls.contains j = true → j ∈ Region.ready md ops listed → listed.getD i false = true := by
  intro listed j hc hj hr
  unfold lateB at h
  have h1 := List.all_eq_true.1 (List.all_eq_true.1 h j (by simpa using hj)) i hi
  exact anc_listed hc n j (waits_of_ready hr) i (by simpa using h1)

/-- take number i first -/
theorem wpAnyT_take {n : Nat} {ts ls : List Nat} (hB : lateB md ops n ts ls = true) {i : Nat} {oi : Oper} {v : Value} {fuel : Nat} {listed : Array Bool} {a : Act} {w : World} (hi : ops[i]? = some oi) (hT : ts.contains i = true) (hcl : closedB md ops listed = true)
    (hs : Region.noSelect ops = true) (hf : Region.free md ops listed i = true) (hr : (Region.ready md ops listed).contains i = true)
    (hQ : ∀ c a w, Q (.panic c) (a.put oi.dst v) w → Q (.panic c) a w) (hC : C w) (hy : YieldsIf P ops C oi v a)
    (h : wpAnyT P md ops Q C ls.contains fuel (listed.setIfInBounds i true) (a.put oi.dst v) w) : wpAnyT P md ops Q C ls.contains (fuel + 1) listed a w :=
  wpAnyT_first hi (late_of_B hB (by simpa using hT)) (Region.noSelect_spec hs) hQ fuel listed a w (closed_of_B hcl) (Region.free_spec hi hf) (by simpa using hr) hy hC h
/-- one alone may come up -/
theorem wpAnyT_only {i : Nat} {oi : Oper} {fuel : Nat} {listed : Array Bool} {a : Act} {w : World} (hi : ops[i]? = some oi) (hr : Region.ready md ops listed = [i]) (hw : Region.wanted oi (yielded ops a.tmps) = true)
    (h : Oper.wp P oi a w (fun a' w' => (L i = false → C w') ∧ wpAnyT P md ops Q C L fuel (listed.setIfInBounds i true) a' w') Q) : wpAnyT P md ops Q C L (fuel + 1) listed a w := by
  refine ⟨fun h0 => (by rw [hr] at h0; cases h0), fun j hj => ?_⟩
  rw [hr] at hj
  obtain rfl : j = i := by simpa using hj
  unfold wpOp
  simp only [hi, hw, if_true]
  exact .inl h
/-- all have come up -/
theorem wpAnyT_done {listed : Array Bool} {a : Act} {w : World} (hr : Region.ready md ops listed = []) (h : Q .normal a w) : ∀ fuel, wpAnyT P md ops Q C L fuel listed a w
  | 0 => ⟨hr, h⟩
  | _ + 1 => ⟨fun _ => h, by rw [hr]; simp⟩
end
theorem wpIn_region_T {P : Program} {ops : Array Oper} {Q : Exit → Act → World → Prop} {C : World → Prop} {L : Nat → Bool} {id l n : Nat} {a : Act} {w : World} (hm : P.follows .mixedOrders = true) (hd : noDefer ops = true) (hLo : ¬ LetsOut Q)
    (h : wpAnyT P .any ops Q C L ops.size (Array.replicate ops.size false) a w.drew) : (Code.region id ops true).wpIn (Fence.wide.inRound l) n P Q a w :=
  wpIn_region_any hm (wpAnyIn_of_wpAny l n hd hLo _ _ _ _ (wpAny_of_T _ _ _ _ h))
attribute [irreducible] wpAnyT
end Go.Proofs.YtkmncmceheggjaaDoor
