/- maps.Copy over elements of four cells (a text, three slices): what is known of it. No program in sight. -/
import Derived.Test.YtcpmgjnlnaigbaaGreatDoorEvSo
import Derived.Lib.SlMapMerge
set_option linter.unusedVariables false
set_option linter.unusedSimpArgs false
noncomputable section
namespace Go.Ev
open Go Go.RowKit Go.Maps Go.Sort Go.Shelf Go.Proofs Go.WideElems

/-- an element of four cells reads as itself -/
def stR (v : Value) : Option (DataW Value × List MemPlace) :=
  match v with
  | .agg ⟨[.string s, .slice p1 n1 c1, .slice p2 n2 c2, .slice p3 n3 c3]⟩ => some (.held (.agg #[.string s, .slice p1 n1 c1, .slice p2 n2 c2, .slice p3 n3 c3]), [])
  | _ => none
theorem stR_some {v : Value} {x : DataW Value × List MemPlace} (h : stR v = some x) : ∃ s p1 n1 c1 p2 n2 c2 p3 n3 c3, v = .agg #[.string s, .slice p1 n1 c1, .slice p2 n2 c2, .slice p3 n3 c3] := by
  unfold stR at h
  split at h
  · exact ⟨_, _, _, _, _, _, _, _, _, _, rfl⟩
  · cases h
theorem stR_held {v : Value} {x : DataW Value × List MemPlace} (h : stR v = some x) : x.1 = .held v := by
  obtain ⟨s, p1, n1, c1, p2, n2, c2, p3, n3, c3, rfl⟩ := stR_some h
  have : (some (DataW.held (Value.agg #[.string s, .slice p1 n1 c1, .slice p2 n2 c2, .slice p3 n3 c3]), ([] : List MemPlace))) = some x := h
  cases this
  rfl

/-- what maps.Copy comes to -/
def CopyOk (P : Program) (f : FuncId) : Prop := Enters P f ∧ (∀ (pd : Option Nat) (w : World), Calls P f #[.map pd, .map none] w fun e w' => e = .returned (.tuple #[]) ∧ w' = w.alloc (.mapIter none 0 #[] 0)) ∧ ∃ k, P.underlying k = some .string ∧ ∀ (bd bs nd ns : Nat) (Dd Ds : DataW Value) (w : World), w.ownsMap P k stR bd nd Dd → w.ownsMap P k stR bs ns Ds → bd ≠ bs → nd + Maps.size Ds ≤ maxLen →
    Calls P f #[.map (some bd), .map (some bs)] w fun e w' => e = .returned (.tuple #[]) ∧ w'.ownsMap P k stR bd (nd + Maps.size Ds) (Lib.mergeD Dd Ds) ∧ w.grownBy w' (some bd)

/-! ### one list laid into another -/
section
variable {H : Type}
def notIn (Ls : List (Lit × DataW H)) (p : Lit × DataW H) : Bool := Ls.all fun q => !p.1.sameKey q.1

theorem notIn_perm {a b : List (Lit × DataW H)} (h : a.Perm b) (p : Lit × DataW H) : notIn a p = notIn b p := by
  rw [Bool.eq_iff_iff]
  unfold notIn
  rw [List.all_eq_true, List.all_eq_true]
  exact ⟨fun hh x hx => hh x (h.symm.subset hx), fun hh x hx => hh x (h.subset hx)⟩

theorem fold_put : ∀ (Ls L0 : List (Lit × DataW H)), Ls.Pairwise (fun p q => p.1.sameKey q.1 = false) →
    ∃ L, Ls.foldl (fun D p => D.put p.1 p.2) (DataW.map L0) = .map L ∧ L.Perm ((L0.filter (notIn Ls)) ++ Ls)
  | [], L0, _ => ⟨L0, rfl, by
    have : L0.filter (notIn []) = L0 := List.filter_eq_self.2 fun _ _ => rfl
    rw [this]; simp⟩
  | a :: r, L0, h => by
    rw [List.pairwise_cons] at h
    obtain ⟨L, h1, h2⟩ := fold_put r (DataW.insert (a.1, a.2) (L0.filter fun p => !p.1.sameKey a.1)) h.2
    refine ⟨L, h1, h2.trans ?_⟩
    have h3 := (insert_perm (a.1, a.2) (L0.filter fun p => !p.1.sameKey a.1)).filter (notIn r)
    have ha : notIn r (a.1, a.2) = true := by
      unfold notIn
      rw [List.all_eq_true]
      intro x hx
      show (!a.1.sameKey x.1) = true
      rw [h.1 x hx]; rfl
    rw [List.filter_cons_of_pos ha, List.filter_filter] at h3
    have h4 : (L0.filter fun p => notIn r p && !p.1.sameKey a.1) = L0.filter (notIn (a :: r)) := List.filter_congr fun p _ => by
      show (notIn r p && !p.1.sameKey a.1) = (!p.1.sameKey a.1 && notIn r p)
      rw [Bool.and_comm]
    rw [h4] at h3
    refine (h3.append_right r).trans ?_
    show ((a.1, a.2) :: (L0.filter (notIn (a :: r)) ++ r)).Perm _
    exact List.perm_middle.symm
end

theorem perm_map {α β : Type} {f : α → β} {a : List α} {b c : List β} (h : c.Perm b) (hc : c = a.map f) : ∃ l : List α, l.Perm a ∧ l.map f = b := by
  induction h generalizing a with
  | nil => exact ⟨a, .refl _, by rw [← hc]⟩
  | cons x _ ih =>
    cases a with
    | nil => cases hc
    | cons k ks =>
      simp only [List.map_cons, List.cons.injEq] at hc
      obtain ⟨l, h1, h2⟩ := ih hc.2
      exact ⟨k :: l, h1.cons k, by rw [List.map_cons, h2, hc.1]⟩
  | swap x y l =>
    cases a with
    | nil => cases hc
    | cons p ks =>
      cases ks with
      | nil => cases hc
      | cons q ks =>
        simp only [List.map_cons, List.cons.injEq] at hc
        exact ⟨q :: p :: ks, .swap p q ks, by rw [List.map_cons, List.map_cons, hc.1, hc.2.1, hc.2.2]⟩
  | trans _ _ ih1 ih2 =>
    obtain ⟨l1, h1, h2⟩ := ih1 hc
    obtain ⟨l2, h3, h4⟩ := ih2 h2.symm
    exact ⟨l2, h3.trans h1, h4⟩

variable {P : Program} {E : Ren} {A A' : AH} {w : World}

/-- an own block turned, new ones laid -/
theorem Stp.grown {w' : World} (h : MR E A w) {n b κ : Nat} {o p : AObj} {ob' : Obj} (hg : A.get n = some p) (hl : p.live = true) (hr : p.ro = false) (he : E n = some (b, κ)) (hro : o.ro = false)
    (ho : OR E κ o ob') (hb' : w'.heap[b]? = some ob') (hw : w.grownBy w' (some b)) : Stp E A w E (A.set n o) w' := by
  have hn := AH.get_lt _ _ _ hg
  refine ⟨Ren.le_refl E, fun _ _ _ h => .inl h, ⟨hw.os, hw.tape, hw.output, hw.size, fun j hj hown => ?_⟩, ⟨fun m q hq => ?_, fun m k q r b' κ1 κ2 hq hr' hl1 hl2 he1 he2 => ?_⟩, Nat.le_refl _, fun m q hm hq hlq => ?_⟩
  · refine hw.block j hj ?_
    intro e
    cases e
    exact hown ⟨n, p, κ, hg, hl, hr, he⟩
  · rw [AH.get_set _ _ _ _ hn] at hq
    split at hq
    · rename_i hm; subst hm; cases hq
      exact ⟨(h.blk m p hg).1, b, κ, he, ob', hb', ho⟩
    · rename_i hm
      obtain ⟨h5, b', κ', he', ob1, hob, hor⟩ := h.blk m q hq
      by_cases hb : b' = b
      · subst hb
        by_cases hlq : q.live = true
        · exact absurd (h.inj m n q p b' κ' κ hq hg hlq hl he' he) hm
        · refine ⟨h5, b', κ', he', ob', hb', ?_⟩
          cases q <;> first | trivial | (simp [AObj.live] at hlq)
      · exact ⟨h5, b', κ', he', ob1, by rw [hw.block b' (Array.getElem?_eq_some_iff.1 hob).1 (fun e => hb (by cases e; rfl))]; exact hob, hor⟩
  · rw [AH.get_set _ _ _ _ hn] at hq hr'
    have hx : ∀ (m : Nat) (q : AObj), (if m = n then some o else A.get m) = some q → q.live = true → ∃ q', A.get m = some q' ∧ q'.live = true := fun m q hq hl' => by
      split at hq
      · rename_i hm; subst hm; exact ⟨p, hg, hl⟩
      · exact ⟨q, hq, hl'⟩
    obtain ⟨q', hq', hlq'⟩ := hx m q hq hl1
    obtain ⟨r', hr'', hlr'⟩ := hx k r hr' hl2
    exact h.inj m k q' r' b' κ1 κ2 hq' hr'' hlq' hlr' he1 he2
  · rw [AH.get_set _ _ _ _ hn] at hq
    split at hq
    · rename_i hm'; subst hm'; cases hq; exact ⟨p, hg, hl, fun _ => hr⟩
    · exact ⟨q, hq, hlq, id⟩

/-! ### the same, over names -/
def slA (a : AV) : Bool := match a with | .slice _ _ _ => true | .gslice _ _ _ _ _ => true | .eslice => true | _ => false
def stA (a : AV) : Bool := match a with | .agg [.str _, x, y, z] => bc (slA x) (bc (slA y) (slA z) false) false | _ => false
def apartA (ess : List (AV × AV)) (p : AV × AV) : Bool := List.rec (motive := fun _ => Bool) true (fun q _ ih => bc (Option.casesOn (motive := fun _ => Bool) (keyEq p.1 q.1) false fun b => !b) ih false) ess
def mergeA (esd ess : List (AV × AV)) : List (AV × AV) := esd.filter (apartA ess) ++ ess
def allSt (es : List (AV × AV)) : Bool := List.rec (motive := fun _ => Bool) true (fun p _ ih => bc (stA p.2) ih false) es
def unkC (es : List (AV × AV)) : MC := ⟨0, 0 :: es.map fun _ => 0⟩
def copyP (l : List AV) (h : AH) : Option (AV × AH) :=
  match l with
  | [.map (some nd), .map (some ns)] => og (!(Nat.beq nd ns)) (ob (h.get nd) fun od => onMapO od fun esd cd => ob (h.get ns) fun os => onMapO os fun ess cs =>
      og (bc (allFit fitStr esd) (bc (allFit fitStr ess) (bc (allSt esd) (bc (allSt ess) (Nat.ble (lenN esd + lenN ess) 16777216) false) false) false) false) (some (.tuple [], h.set nd (.map (mergeA esd ess) (unkC (mergeA esd ess))))))
  | [.map _, .map none] => some (.tuple [], h)
  | _ => none

theorem slA_ok {a : AV} {v : Value} (h : slA a = true) (hv : VR E a v) : ∃ p n c, v = .slice p n c := by
  unfold slA at h
  split at h
  · rename_i a _ _
    cases a <;> simp only [VR] at hv
    · exact ⟨_, _, _, hv⟩
    · obtain ⟨b, κ, _, rfl⟩ := hv; exact ⟨_, _, _, rfl⟩
  · simp only [VR] at hv; obtain ⟨b, κ, _, _, _, rfl⟩ := hv; exact ⟨_, _, _, rfl⟩
  · simp only [VR] at hv; obtain ⟨a, c, rfl⟩ := hv; exact ⟨_, _, _, rfl⟩
  · cases h
theorem stA_ok {a : AV} {v : Value} (h : stA a = true) (hv : VR E a v) : stR v = some (.held v, []) := by
  unfold stA at h
  split at h
  · rename_i s x y z
    rw [bc_and, bc_and] at h
    obtain ⟨hx, hy, hz⟩ := h
    simp only [VR, VRL] at hv
    obtain ⟨l', rfl, a, r, hl, ⟨t, rfl, _⟩, b, r2, rfl, hb, c, r3, rfl, hc, d, r4, rfl, hd, rfl⟩ := hv
    obtain ⟨p1, n1, c1, rfl⟩ := slA_ok hx hb
    obtain ⟨p2, n2, c2, rfl⟩ := slA_ok hy hc
    obtain ⟨p3, n3, c3, rfl⟩ := slA_ok hz hd
    have : l' = #[.string t, .slice p1 n1 c1, .slice p2 n2 c2, .slice p3 n3 c3] := by rw [← Array.toArray_toList (xs := l'), hl]
    subst this
    rfl
  · cases h
theorem allSt_spec : ∀ {es : List (AV × AV)}, allSt es = true → ∀ p ∈ es, stA p.2 = true
  | [], _, p, hp => by cases hp
  | q :: r, h, p, hp => by
    have h' : bc (stA q.2) (allSt r) false = true := h
    rw [bc_and] at h'
    rcases List.mem_cons.1 hp with rfl | hp
    · exact h'.1
    · exact allSt_spec h'.2 p hp

/-- an entry over names beside one of the world's -/
def EntR (E : Ren) (k : TypeId) (P : Program) (p : AV × AV) (e : MapEntry) : Prop := ∃ s : List UInt8, p.1 = .str (s.map (·.toNat)) ∧ e.key = encStr s ∧ keyOf P k e.key = some (.string s) ∧ VR E p.2 e.val ∧ rd P k stR e = some (.string s, .held e.val)

theorem ent_of {k : TypeId} (hk : P.underlying k = some .string) {p : AV × AV} {e : MapEntry} (hf : fitStr p.1 = true) (hs : stA p.2 = true) (h1 : VR E p.1 e.key) (h2 : VR E p.2 e.val) : EntR E k P p e := by
  obtain ⟨s, e1, e2, e3⟩ := keyStr.of E p.1 e.key hf h1
  have e3' : s.length ≤ 140737488351232 := e3
  have hk' : keyOf P k e.key = some (.string s) := by
    have e2' : e.key = encStr s := e2
    rw [e2']
    exact keyStr_of hk (by unfold maxLen; omega)
  exact ⟨s, e1, e2, hk', h2, by simp [rd, hk', stA_ok hs h2]⟩

theorem apartA_eq {k : TypeId} {p : AV × AV} {e : MapEntry} (hp : EntR E k P p e) : ∀ (Z : List ((AV × AV) × MapEntry)), (∀ z ∈ Z, EntR E k P z.1 z.2) → apartA (Z.map (·.1)) p = notIn ((Z.map (·.2)).map (rg P k stR)) (rg P k stR e)
  | [], _ => rfl
  | z :: r, h => by
    have ih := apartA_eq hp r (fun x hx => h x (List.mem_cons_of_mem _ hx))
    obtain ⟨s, a1, a2, a3, a4, a5⟩ := hp
    obtain ⟨t, b1, b2, b3, b4, b5⟩ := h z (by simp)
    have e1 : (rg P k stR e).1 = .string s := by rw [rg_of a5]
    have e2 : (rg P k stR z.2).1 = .string t := by rw [rg_of b5]
    show bc (Option.casesOn (motive := fun _ => Bool) (keyEq p.1 z.1.1) false fun b => !b) (apartA (r.map (·.1)) p) false = (!(rg P k stR e).1.sameKey (rg P k stR z.2).1 && notIn ((r.map (·.2)).map (rg P k stR)) (rg P k stR e))
    rw [ih, e1, e2, a1, b1]
    have hke : keyEq (.str (s.map (·.toNat))) (.str (t.map (·.toNat))) = some (decide (s = t)) := by
      show onStr (.str (t.map (·.toNat))) (fun y => some (eqS (s.map (·.toNat)) y)) = _
      rw [onStr_some]
      refine ⟨_, rfl, ?_⟩
      congr 1
      rw [Bool.eq_iff_iff, eqS_eq]
      simp only [decide_eq_true_iff]
      exact ⟨fun h => toNat_inj h, fun h => by rw [h]⟩
    rw [hke]
    show bc (!decide (s = t)) _ false = (!(s == t) && _)
    by_cases hst : s = t
    · subst hst; simp [bc_false]
    · have : (s == t) = false := by simpa using hst
      rw [this]
      simp [hst, bc_true]
theorem merge_ents {k : TypeId} {Zd Zs : List ((AV × AV) × MapEntry)} (hd : ∀ z ∈ Zd, EntR E k P z.1 z.2) (hs : ∀ z ∈ Zs, EntR E k P z.1 z.2) :
    mergeA (Zd.map (·.1)) (Zs.map (·.1)) = (Zd.filter (fun z => apartA (Zs.map (·.1)) z.1) ++ Zs).map (·.1) ∧
    ((Zd.map (·.2)).map (rg P k stR)).filter (notIn ((Zs.map (·.2)).map (rg P k stR))) ++ (Zs.map (·.2)).map (rg P k stR) = ((Zd.filter (fun z => apartA (Zs.map (·.1)) z.1) ++ Zs).map (·.2)).map (rg P k stR) := by
  constructor
  · unfold mergeA
    rw [List.filter_map, List.map_append]
    rfl
  · rw [List.map_append, List.map_append, List.filter_map, List.filter_map]
    congr 3
    refine List.filter_congr fun z hz => ?_
    exact (apartA_eq (hd z hz) Zs hs).symm

theorem copy_prim {f : FuncId} (hC : CopyOk P f) : CallOk P fun g xs A => bc (Nat.beq g f) (copyP xs A) none := by
  intro g xs A v A' h0
  have h : bc (Nat.beq g f) (copyP xs A) none = some (v, A') := h0
  clear h0
  cases hg : Nat.beq g f with
  | false => rw [hg] at h; cases h
  | true =>
    rw [hg, bc_true] at h
    rw [Nat.beq_eq] at hg
    subst hg
    obtain ⟨eE, hCn, k, hk, hC⟩ := hC
    refine ⟨eE, fun E w args hGl hM hargs hF => ?_⟩
    unfold copyP at h
    split at h
    case h_3 => cases h
    case h_2 =>
      rename_i m
      cases h
      simp only [VRL] at hargs
      obtain ⟨y, s, hy, hm, y2, s2, rfl, hn, rfl⟩ := hargs
      simp only [VR] at hn
      subst hn
      have hp : ∃ pd, y = .map pd := by
        cases m with
        | none => simp only [VR] at hm; exact ⟨_, hm⟩
        | some n => simp only [VR] at hm; obtain ⟨b, κ, _, rfl⟩ := hm; exact ⟨_, rfl⟩
      obtain ⟨pd, rfl⟩ := hp
      have ha : args = #[.map pd, .map none] := by rw [← Array.toArray_toList (xs := args), hy]
      subst ha
      refine (hCn pd w).mono ?_
      rintro e w' ⟨rfl, rfl⟩
      exact ⟨E, _, rfl, by simp [VR, VRL], Stp.below hM ((Below.refl _ w).alloc (Nat.le_refl _) _)⟩
    rename_i nd ns
    simp only [og_some, ob_some, onMapO_some] at h
    obtain ⟨hne, _, hgd, esd, cd, rfl, _, hgs, ess, cs, rfl, hall, h⟩ := h
    cases h
    rw [bc_and, bc_and, bc_and, bc_and, Nat.ble_eq, lenN_eq, lenN_eq] at hall
    obtain ⟨hfd, hfs, hsd, hss, hlen⟩ := hall
    have hne : nd ≠ ns := by
      rintro rfl
      rw [Nat.beq_refl] at hne
      cases hne
    simp only [VRL, VR] at hargs
    obtain ⟨y, s, hy, ⟨bd, κd, hEd, rfl⟩, y2, s2, rfl, ⟨bs, κs, hEs, rfl⟩, rfl⟩ := hargs
    have ha : args = #[.map (some bd), .map (some bs)] := by rw [← Array.toArray_toList (xs := args), hy]
    subst ha
    obtain ⟨arrd, clkd, hbd, hbnd, _, ld, hd1, hd2, hd3, hd4, _⟩ := hM.map hgd hEd
    obtain ⟨arrs, clks, hbs, hbns, _, ls, hs1, hs2, hs3, hs4, _⟩ := hM.map hgs hEs
    have hbne : bd ≠ bs := by
      rintro rfl
      exact hne (hM.inj nd ns _ _ bd κd κs hgd hgs rfl rfl hEd hEs)
    -- the pairs
    have zip : ∀ (es : List (AV × AV)) (l : List MapEntry), l.length = es.length → (∀ p ∈ es, fitStr p.1 = true) → (∀ p ∈ es, stA p.2 = true) → (∀ (i : Nat) (p : AV × AV) (e : MapEntry), es[i]? = some p → l[i]? = some e → VR E p.1 e.key ∧ VR E p.2 e.val) →
        ∃ Z : List ((AV × AV) × MapEntry), Z.map (·.1) = es ∧ Z.map (·.2) = l ∧ ∀ z ∈ Z, EntR E k P z.1 z.2 := by
      intro es
      induction es with
      | nil => intro l h _ _ _; have : l = [] := by simpa using h
               subst this; exact ⟨[], rfl, rfl, by simp⟩
      | cons p r ih =>
        intro l h h1 h2 h3
        cases l with
        | nil => simp at h
        | cons e l =>
          obtain ⟨Z, z1, z2, z3⟩ := ih l (by simpa using h) (fun q hq => h1 q (List.mem_cons_of_mem _ hq)) (fun q hq => h2 q (List.mem_cons_of_mem _ hq)) (fun i q x hq hx => h3 (i + 1) q x (by simpa using hq) (by simpa using hx))
          obtain ⟨v1, v2⟩ := h3 0 p e (by simp) (by simp)
          exact ⟨(p, e) :: Z, by rw [List.map_cons, z1], by rw [List.map_cons, z2], fun z hz => by
            rcases List.mem_cons.1 hz with rfl | hz
            · exact ent_of hk (h1 p (by simp)) (h2 p (by simp)) v1 v2
            · exact z3 z hz⟩
    obtain ⟨Zd, d1, d2, d3⟩ := zip esd ld hd2 (allFit_spec hfd) (allSt_spec hsd) hd3
    obtain ⟨Zs, s1, s2, s3⟩ := zip ess ls hs2 (allFit_spec hfs) (allSt_spec hss) hs3
    subst d1 d2 s1 s2
    have reads : ∀ {Z : List ((AV × AV) × MapEntry)} {arr : Array MapEntry}, (Z.map (·.2)).Perm arr.toList → (∀ z ∈ Z, EntR E k P z.1 z.2) → ∀ x ∈ arr.toList, ∃ y, rd P k stR x = some y := fun hp hz x hx => by
      obtain ⟨z, hz1, rfl⟩ := List.mem_map.1 (hp.symm.subset hx)
      obtain ⟨s, _, _, _, _, h5⟩ := hz z hz1
      exact ⟨_, h5⟩
    have keysnd : ∀ {Z : List ((AV × AV) × MapEntry)} {arr : Array MapEntry}, (Z.map (·.2)).Perm arr.toList → (∀ z ∈ Z, EntR E k P z.1 z.2) → (Z.map (·.1)).Pairwise (fun p q => keyEq p.1 q.1 = some false) → (arr.toList.map (·.key)).Nodup := fun {Z arr} hp hz hpw => by
      refine (hp.map (·.key)).nodup ?_
      rw [List.map_map, List.nodup_iff_pairwise_ne, List.pairwise_map]
      rw [List.pairwise_map] at hpw
      refine hpw.imp_of_mem fun {a b} ha hb hab e => ?_
      obtain ⟨s, a1, a2, _⟩ := hz a ha
      obtain ⟨t, b1, b2, _⟩ := hz b hb
      have e' : encStr s = encStr t := by rw [← a2, ← b2]; exact e
      have := encStr_inj e'
      subst this
      rw [a1, b1] at hab
      have := keyStr.self s
      have hs : keyEq (.str (s.map (·.toNat))) (.str (s.map (·.toNat))) = some true := this
      rw [hs] at hab
      cases hab
    have hld : arrd.size = Zd.length := by have := hd1.length_eq; simpa using this.symm
    have hls : arrs.size = Zs.length := by have := hs1.length_eq; simpa using this.symm
    simp only [List.length_map] at hlen
    have fitd : Fit P k stR arrd clkd := ⟨by unfold maxLen; omega, ⟨hbnd.1, hbnd.2, keysnd hd1 d3 hd4⟩, reads hd1 d3⟩
    have fits : Fit P k stR arrs clks := ⟨by unfold maxLen; omega, ⟨hbns.1, hbns.2, keysnd hs1 s3 hs4⟩, reads hs1 s3⟩
    have hsz : Maps.size (H := Value) (.map ((arrs.toList.map (rg P k stR)).foldr DataW.insert [])) = Zs.length := by
      rw [Maps.size_eq, (sorted_perm _).length_eq]; simpa using hls
    refine (hC bd bs arrd.size arrs.size _ _ w ⟨arrd, clkd, hbd, fitd, Nat.le_refl _, rfl⟩ ⟨arrs, clks, hbs, fits, Nat.le_refl _, rfl⟩ hbne (by rw [hsz]; unfold maxLen; omega)).mono ?_
    rintro e w' ⟨rfl, ⟨arr', clk', hb', F', _, hD⟩, hgrow⟩
    -- what the map holds
    have hpw : ((arrs.toList.map (rg P k stR)).foldr DataW.insert []).Pairwise (fun p q => p.1.sameKey q.1 = false) := by
      refine ((sorted_perm _).trans (hs1.symm.map (rg P k stR))).symm.pairwise ?_ (fun {x y} h => ?_)
      · rw [List.map_map, List.pairwise_map]
        rw [List.pairwise_map] at hs4
        refine hs4.imp_of_mem fun {a b} ha hb hab => ?_
        obtain ⟨s, a1, a2, a3, a4, a5⟩ := s3 a ha
        obtain ⟨t, b1, b2, b3, b4, b5⟩ := s3 b hb
        show (rg P k stR a.2).1.sameKey (rg P k stR b.2).1 = false
        rw [rg_of a5, rg_of b5]
        show (s == t) = false
        rw [a1, b1] at hab
        have hne : s ≠ t := by
          rintro rfl
          have hs : keyEq (.str (s.map (·.toNat))) (.str (s.map (·.toNat))) = some true := keyStr.self s
          rw [hs] at hab
          cases hab
        simpa using hne
      · have h' : x.1.sameKey y.1 = false := h
        cases hyx : y.1.sameKey x.1 with
        | false => rfl
        | true =>
          have e := WideAt.sameKey_eq hyx
          rw [e] at hyx h'
          rw [hyx] at h'; cases h'
    obtain ⟨L, hL1, hL2⟩ := fold_put _ ((arrd.toList.map (rg P k stR)).foldr DataW.insert []) hpw
    have hDL : ((arr'.toList.map (rg P k stR)).foldr DataW.insert []) = L := by
      have h1 : Lib.mergeD (DataW.map ((arrd.toList.map (rg P k stR)).foldr DataW.insert [])) (.map ((arrs.toList.map (rg P k stR)).foldr DataW.insert [])) = .map L := hL1
      rw [h1] at hD
      exact (DataW.map.inj hD).symm
    have hps := (sorted_perm (arrs.toList.map (rg P k stR))).trans (hs1.symm.map (rg P k stR))
    have hpd := (sorted_perm (arrd.toList.map (rg P k stR))).trans (hd1.symm.map (rg P k stR))
    have hfun : notIn ((arrs.toList.map (rg P k stR)).foldr DataW.insert []) = notIn ((Zs.map (·.2)).map (rg P k stR)) := funext fun p => notIn_perm hps p
    rw [hfun] at hL2
    have hperm : (arr'.toList.map (rg P k stR)).Perm (((Zd.map (·.2)).map (rg P k stR)).filter (notIn ((Zs.map (·.2)).map (rg P k stR))) ++ (Zs.map (·.2)).map (rg P k stR)) := by
      refine (sorted_perm _).symm.trans ?_
      rw [hDL]
      exact hL2.trans ((hpd.filter _).append hps)
    obtain ⟨m1, m2⟩ := merge_ents d3 s3
    rw [m2] at hperm
    obtain ⟨l, hl1, hl2⟩ := perm_map hperm rfl
    have hZ : ∀ z ∈ Zd.filter (fun z => apartA (Zs.map (·.1)) z.1) ++ Zs, EntR E k P z.1 z.2 := fun z hz => by
      rcases List.mem_append.1 hz with hz | hz
      · exact d3 z (List.mem_filter.1 hz).1
      · exact s3 z hz
    have hmr : MapR E (mergeA (Zd.map (·.1)) (Zs.map (·.1))) (unkC (mergeA (Zd.map (·.1)) (Zs.map (·.1)))).bs arr' := by
      rw [m1]
      refine ⟨l, hl1, ?_, fun i p e hp he => ?_, ?_, fun h => by simp [unkC] at h⟩
      · have := congrArg List.length hl2; simpa using this
      · rw [List.getElem?_map, Option.map_eq_some_iff] at hp
        obtain ⟨z, hz, rfl⟩ := hp
        obtain ⟨s, z1, z2, z3, z4, z5⟩ := hZ z (List.mem_of_getElem? hz)
        have h1 := congrArg (·[i]?) hl2
        simp only [List.getElem?_map, he, hz, Option.map_some, Option.some.injEq] at h1
        obtain ⟨y, hy⟩ := F'.reads e (hl1.subset (List.mem_of_getElem? he))
        rw [rg_of hy, rg_of z5] at h1
        subst h1
        have k1 := rd_key hy
        obtain ⟨x, hx, hx2⟩ := rd_val hy
        have k2 : e.key = z.2.key := (string_keyed hk).inj k1 z3
        have k3 : e.val = z.2.val := by
          have := stR_held hx
          rw [this] at hx2
          exact (DataW.held.inj hx2).symm
        rw [k2, k3]
        refine ⟨?_, z4⟩
        rw [z1, z2]
        exact keyStr.vr E s
      · rw [List.map_append, List.pairwise_append]
        refine ⟨hd4.sublist ((List.filter_sublist (l := Zd)).map _), hs4, fun a ha b hb => ?_⟩
        obtain ⟨z, hz, rfl⟩ := List.mem_map.1 ha
        have hap := (List.mem_filter.1 hz).2
        have : ∀ (es : List (AV × AV)) (p : AV × AV), apartA es p = true → ∀ q ∈ es, keyEq p.1 q.1 = some false := by
          intro es p
          induction es with
          | nil => intro _ q hq; cases hq
          | cons q r ih =>
            intro h x hx
            have h' : bc (Option.casesOn (motive := fun _ => Bool) (keyEq p.1 q.1) false fun b => !b) (apartA r p) false = true := h
            rw [bc_and] at h'
            rcases List.mem_cons.1 hx with rfl | hx
            · cases hq : keyEq p.1 x.1 with
              | none => rw [hq] at h'; cases h'.1
              | some b => rw [hq] at h'; cases b; rfl; cases h'.1
            · exact ih h'.2 x hx
        exact this _ _ hap b hb
    exact ⟨E, _, rfl, by simp [VR, VRL], Stp.grown (κ := κd) hM hgd rfl rfl hEd rfl ⟨arr', clk', rfl, ⟨F'.stamped.1, F'.stamped.2.1⟩, fun h => by simp [unkC] at h, hmr⟩ hb' hgrow⟩
end Go.Ev
