/- Whether a row of wants is held by others, over a map of maps: what is known of it. No program in sight. -/
import Derived.Test.YtgjaicainmmdbaaGreatDoorEvCp
set_option linter.unusedVariables false
set_option linter.unusedSimpArgs false
noncomputable section
namespace Go.Ev
open Go Go.RowKit Go.Maps Go.Sort Go.Shelf Go.Proofs Go.WideElems

/-- does somebody else hold it so that it is busy? -/
def hitE (tx : ByteArray) (wr : Bool) (p : Lit × DataW Value) : Bool := !(p.1.sameKey (.string tx.data.toList)) && (wr || match p.2 with | .lit (.int _ n) => n == 2 | _ => false)
def hitD (tx : ByteArray) (wr : Bool) (D : DataW Value) : Bool := match D with | .map es => es.any (hitE tx wr) | _ => false

/-- what the function comes to -/
def BusyOk (P : Program) (f : FuncId) : Prop := Enters P f ∧ (∀ bt tx (w : World), Calls P f #[.pointer (some ⟨bt, 0, none⟩), .string tx, .slice none 0 0] w fun e w' => e = .returned (.bool false) ∧ w.grownBy w' none) ∧
  ∃ t k1 e1 k n, P.underlying t = some (.map k1 e1) ∧ P.underlying k1 = some .string ∧ zeroA P e1 = some (.map none) ∧ P.underlying k = some .string ∧ P.underlying n = some (.int .i64) ∧
  ∀ (bt bl o : Nat) (bm : Nat) (tx : ByteArray) (W : List (ByteArray × Bool)) (cap : Nat) (w : World)
    (ht : w.cell? ⟨bt, 0, none⟩ = some (.map (some bm))) (hW : ∀ i p, W[i]? = some p → w.cell? ⟨bl, o + i * 2, none⟩ = some (.string p.1) ∧ w.cell? ⟨bl, o + (i * 2 + 1), none⟩ = some (.bool p.2)) (hlen : W.length ≤ 1048576)
    (M : ByteArray → Option Nat) (hL : ∀ (i : Nat) (p : ByteArray × Bool), W[i]? = some p → ∀ w', w.grownBy w' none → (Instr.lookup t (.map (some bm)) (.string p.1) false).run P w' = .ok (.map (M p.1)) w')
    (D : ByteArray → DataW Value) (N : ByteArray → Nat) (hD : ∀ (i : Nat) (p : ByteArray × Bool), W[i]? = some p → (M p.1 = none ∧ D p.1 = .map []) ∨ ∃ bi, M p.1 = some bi ∧ w.ownsMap P k (plainElem P n) bi (N p.1) (D p.1)),
    Calls P f #[.pointer (some ⟨bt, 0, none⟩), .string tx, .slice (some ⟨bl, o, none⟩) W.length cap] w fun e w' => e = .returned (.bool (W.any fun p => hitD tx p.2 (D p.1))) ∧ w.grownBy w' none

/-! ### the same, over names -/
def allIv (es : List (AV × AV)) : Bool := List.rec (motive := fun _ => Bool) true (fun p _ ih => bc (fitInt p.2) ih false) es
theorem allIv_spec : ∀ {es : List (AV × AV)}, allIv es = true → ∀ p ∈ es, fitInt p.2 = true
  | [], _, p, hp => by cases hp
  | q :: r, h, p, hp => by
    have h' : bc (fitInt q.2) (allIv r) false = true := h
    rw [bc_and] at h'
    rcases List.mem_cons.1 hp with rfl | hp
    · exact h'.1
    · exact allIv_spec h'.2 p hp
/-- what a map holds, texts to whole numbers -/
def innerOf (h : AH) (m : Option Nat) : Option (List (AV × AV)) :=
  Option.casesOn (motive := fun _ => Option (List (AV × AV))) m (some []) fun n => ob (h.get n) fun o => onMapO o fun es2 _ => og (bc (allFit fitStr es2) (bc (allIv es2) (Nat.ble (lenN es2) 16777216) false) false) (some es2)
def innerA (h : AH) (k : AV) (es : List (AV × AV)) : Option (List (AV × AV)) :=
  ob (findA k es) fun r => Option.casesOn (motive := fun _ => Option (List (AV × AV))) r (some []) fun v => onMap v (innerOf h)
def isTwo (v : AV) : Bool := match v with | .int _ n => eqI n 2 | _ => false
def strIs (v : AV) (tx : List Nat) : Bool := match v with | .str l => eqS l tx | _ => false
def hitP (tx : List Nat) (wr : Bool) (p : AV × AV) : Bool := bc (strIs p.1 tx) false (bc wr true (isTwo p.2))
def hitA (tx : List Nat) (wr : Bool) (es : List (AV × AV)) : Bool := List.rec (motive := fun _ => Bool) false (fun p _ ih => bc (hitP tx wr p) true ih) es
theorem hitA_any (tx : List Nat) (wr : Bool) : ∀ es, hitA tx wr es = es.any (hitP tx wr)
  | [] => rfl
  | p :: r => by
    have : hitA tx wr (p :: r) = bc (hitP tx wr p) true (hitA tx wr r) := rfl
    rw [this, hitA_any tx wr r, List.any_cons]
    cases hitP tx wr p <;> rfl
/-- do the wants from o on meet others? -/
def wantsA (h : AH) (tx : List Nat) (es : List (AV × AV)) (cs : Cs) (n : Nat) : Nat → Option Bool :=
  Nat.rec (motive := fun _ => Nat → Option Bool) (fun _ => some false) (fun _ ih o => ob (cs.get o) fun a => ob (cs.get (o + 1)) fun b => og (fitStr a) (ob (innerA h a es) fun es2 => onBool b fun t => ob (ih (o + 2)) fun r => some (bc (hitA tx t es2) true r))) n
def busyAt (h : AH) (b : Nat) (tx : List Nat) (m o n : Nat) : Option (AV × AH) :=
  ob (h.get b) fun ob1 => onCells ob1 fun cs _ _ => ob (cs.get 0) fun mv => onMap mv fun r => ob r fun nm => ob (h.get nm) fun om1 => onMapO om1 fun es _ => ob (h.get m) fun ow => onCells ow fun ws _ _ =>
    og (Nat.ble n 1048576) (om (wantsA h tx es ws n o) fun r => (.bool r, h))
def busyP (l : List AV) (h : AH) : Option (AV × AH) :=
  match l with
  | [.ptr (some (b, 0)), .str tx, .slice (some (m, o)) n _] => busyAt h b tx m o n
  | [.ptr (some (b, 0)), .str tx, .gslice m o n _ _] => busyAt h b tx m o n
  | [.ptr (some (_, 0)), .str _, .slice none 0 0] => some (.bool false, h)
  | _ => none

variable {P : Program} {E : Ren} {A A' : AH} {w : World}

theorem MapR.zip {es : List (AV × AV)} {bs : List Nat} {arr : Array MapEntry} (h : MapR E es bs arr) : ∃ Z : List ((AV × AV) × MapEntry), Z.map (·.1) = es ∧ (Z.map (·.2)).Perm arr.toList ∧ ∀ z ∈ Z, VR E z.1.1 z.2.key ∧ VR E z.1.2 z.2.val := by
  obtain ⟨l, h1, h2, h3, _, _⟩ := h
  have : ∀ (es : List (AV × AV)) (l : List MapEntry), l.length = es.length → (∀ (i : Nat) (p : AV × AV) (e : MapEntry), es[i]? = some p → l[i]? = some e → VR E p.1 e.key ∧ VR E p.2 e.val) →
      ∃ Z : List ((AV × AV) × MapEntry), Z.map (·.1) = es ∧ Z.map (·.2) = l ∧ ∀ z ∈ Z, VR E z.1.1 z.2.key ∧ VR E z.1.2 z.2.val := by
    intro es
    induction es with
    | nil => intro l h _; have : l = [] := by simpa using h
             subst this; exact ⟨[], rfl, rfl, by simp⟩
    | cons p r ih =>
      intro l h h3
      cases l with
      | nil => simp at h
      | cons e l =>
        obtain ⟨Z, z1, z2, z3⟩ := ih l (by simpa using h) (fun i q x hq hx => h3 (i + 1) q x (by simpa using hq) (by simpa using hx))
        have v1 := h3 0 p e (by simp) (by simp)
        exact ⟨(p, e) :: Z, by rw [List.map_cons, z1], by rw [List.map_cons, z2], fun z hz => by
          rcases List.mem_cons.1 hz with rfl | hz
          · exact v1
          · exact z3 z hz⟩
  obtain ⟨Z, z1, z2, z3⟩ := this es l h2 h3
  exact ⟨Z, z1, by rw [z2]; exact h1, z3⟩

/-- an entry over names beside one of the world's -/
def EntB (P : Program) (k n : TypeId) (z : (AV × AV) × MapEntry) : Prop := ∃ (s : List UInt8) (m : Int), z.1 = (.str (s.map (·.toNat)), .int .i64 m) ∧ z.2.key = encStr s ∧ rd P k (plainElem P n) z.2 = some (.string s, (DataW.lit (.int .i64 m) : DataW Value))

theorem entB_of {k n : TypeId} (hk : P.underlying k = some .string) (hn : P.underlying n = some (.int .i64)) {z : (AV × AV) × MapEntry} (hf : fitStr z.1.1 = true) (hs : fitInt z.1.2 = true) (h : VR E z.1.1 z.2.key ∧ VR E z.1.2 z.2.val) : EntB P k n z := by
  obtain ⟨s, e1, e2, e3⟩ := keyStr.of E _ _ hf h.1
  obtain ⟨m, i1, i2, i3⟩ := keyInt.of E _ _ hs h.2
  have e3' : s.length ≤ 140737488351232 := e3
  have i3' : -9223372036854775808 ≤ m ∧ m ≤ 9223372036854775807 := i3
  have e2' : z.2.key = encStr s := e2
  have i2' : z.2.val = .int .i64 m := i2
  have hk' : keyOf P k z.2.key = some (.string s) := by
    rw [e2']
    exact keyStr_of hk (by unfold maxLen; omega)
  have hw : (Lit.int IntKind.i64 m).wf = true := by
    show (decide (IntKind.i64.min ≤ m) && decide (m ≤ IntKind.i64.max)) = true
    rw [Bool.and_eq_true, decide_eq_true_iff, decide_eq_true_iff]
    exact i3'
  refine ⟨s, m, Prod.ext e1 i1, e2', ?_⟩
  simp only [rd, hk', i2', plainElem_int hn hw]
  rfl

theorem hit_eq {k n : TypeId} {z : (AV × AV) × MapEntry} (h : EntB P k n z) (tx : ByteArray) (wr : Bool) : hitE tx wr (rg P k (plainElem P n) z.2) = hitP (bytesN tx) wr z.1 := by
  obtain ⟨s, m, h1, h2, h3⟩ := h
  rw [rg_of h3, h1]
  show (!(s == tx.data.toList) && (wr || m == 2)) = bc (eqS (s.map (·.toNat)) (tx.data.toList.map (·.toNat))) false (bc wr true (eqI m 2))
  rw [eqS_eq, eqI_eq]
  by_cases hs : s = tx.data.toList
  · subst hs; simp [bc_true]
  · have h1 : (s == tx.data.toList) = false := by simpa using hs
    have h2 : ¬ (s.map (·.toNat) = tx.data.toList.map (·.toNat)) := fun e => hs (toNat_inj e)
    rw [h1, decide_eq_false h2, bc_false]
    cases wr <;> rfl

theorem any_perm {α : Type} {l r : List α} (h : l.Perm r) (p : α → Bool) : l.any p = r.any p := by
  rw [Bool.eq_iff_iff, List.any_eq_true, List.any_eq_true]
  exact ⟨fun ⟨x, hx, hp⟩ => ⟨x, h.subset hx, hp⟩, fun ⟨x, hx, hp⟩ => ⟨x, h.symm.subset hx, hp⟩⟩

theorem busy_one {t k1 e1 k n : TypeId} (ht : P.underlying t = some (.map k1 e1)) (hk1 : P.underlying k1 = some .string) (hz : zeroA P e1 = some (.map none)) (hk : P.underlying k = some .string) (hn : P.underlying n = some (.int .i64))
    (hM : MR E A w) {nm bm κ : Nat} {es : List (AV × AV)} {c : MC} (hg : A.get nm = some (.map es c)) (hE : E nm = some (bm, κ)) (s : ByteArray) {es2 : List (AV × AV)} (h : innerA A (.str (bytesN s)) es = some es2) :
    ∃ (m : Option Nat) (D : DataW Value) (N : Nat), (∀ w', w.grownBy w' none → (Instr.lookup t (.map (some bm)) (.string s) false).run P w' = .ok (.map m) w') ∧
      ((m = none ∧ D = .map []) ∨ ∃ bi, m = some bi ∧ w.ownsMap P k (plainElem P n) bi N D) ∧ ∀ tx wr, hitD tx wr D = hitA (bytesN tx) wr es2 := by
  obtain ⟨arr, clk, hb, hbn, _, hmr⟩ := hM.map hg hE
  have hok : keyOk (keyKind P k1) (.str (bytesN s)) = true := by simp [keyKind, hk1, keyOk]
  have hv : VR E (.str (bytesN s)) (.string s) := by simp only [VR]; exact ⟨s, rfl, rfl⟩
  have hblk : ∀ w', w.grownBy w' none → w'.heap[bm]? = some (.map arr clk) := fun w' hw => by rw [hw.block bm (Array.getElem?_eq_some_iff.1 hb).1 (by simp)]; exact hb
  simp only [innerA, ob_some] at h
  obtain ⟨r, hf, h⟩ := h
  rcases find_ok hok hv hmr hf with ⟨rfl, hfind⟩ | ⟨i, p, l, j, e, h1, rfl, h3, h4, h5, h6, h7, h8, h9, _, hfind⟩
  · cases h
    obtain ⟨z', hz1, hz2⟩ := zeroA_ok (E := E) hz
    simp only [VR] at hz1
    subst hz1
    refine ⟨none, .map [], 0, fun w' hw => ?_, .inl ⟨rfl, rfl⟩, fun tx wr => rfl⟩
    rw [lookup_some ht (hblk w' hw)]
    simp [tailLook, checkKey_run hok hv, hfind, hz2]
  · have h' : onMap p.2 (innerOf A) = some es2 := h
    rw [onMap_some] at h'
    obtain ⟨m, hpm, h'⟩ := h'
    have hpe := (h6 i p e h1 h7).2
    rw [hpm] at hpe
    have hlk : ∀ w', w.grownBy w' none → (Instr.lookup t (.map (some bm)) (.string s) false).run P w' = .ok e.val w' := fun w' hw => by
      rw [lookup_some ht (hblk w' hw)]
      simp [tailLook, checkKey_run hok hv, hfind]
    cases m with
    | none =>
      simp only [VR] at hpe
      have h2 : some [] = some es2 := h'
      cases h2
      rw [hpe] at hlk
      exact ⟨none, .map [], 0, hlk, .inl ⟨rfl, rfl⟩, fun tx wr => rfl⟩
    | some n2 =>
      simp only [VR] at hpe
      obtain ⟨b2, κ2, hE2, hpe⟩ := hpe
      rw [hpe] at hlk
      have h2 : (ob (A.get n2) fun o => onMapO o fun es2 _ => og (bc (allFit fitStr es2) (bc (allIv es2) (Nat.ble (lenN es2) 16777216) false) false) (some es2)) = some es2 := h'
      simp only [ob_some, onMapO_some, og_some] at h2
      obtain ⟨_, hg2, es2', c2, rfl, hall, h2⟩ := h2
      cases h2
      rw [bc_and, bc_and, Nat.ble_eq, lenN_eq] at hall
      obtain ⟨hfs, hiv, hlen⟩ := hall
      obtain ⟨arr2, clk2, hb2, hbn2, _, hmr2⟩ := hM.map hg2 hE2
      obtain ⟨Z, z1, z2, z3⟩ := hmr2.zip
      have hpw := hmr2
      obtain ⟨_, _, _, _, hpw, _⟩ := hpw
      subst z1
      have z4 : ∀ z ∈ Z, EntB P k n z := fun z hz => entB_of hk hn (allFit_spec hfs _ (List.mem_map.2 ⟨z, hz, rfl⟩)) (allIv_spec hiv _ (List.mem_map.2 ⟨z, hz, rfl⟩)) (z3 z hz)
      have hkeys : (arr2.toList.map (·.key)).Nodup := by
        refine (z2.map (·.key)).nodup ?_
        rw [List.map_map, List.nodup_iff_pairwise_ne, List.pairwise_map]
        rw [List.pairwise_map] at hpw
        refine hpw.imp_of_mem fun {a b} ha hb hab e => ?_
        obtain ⟨s, _, a1, a2, _⟩ := z4 a ha
        obtain ⟨t, _, b1, b2, _⟩ := z4 b hb
        have e' : encStr s = encStr t := by rw [← a2, ← b2]; exact e
        have := encStr_inj e'
        subst this
        rw [a1, b1] at hab
        have hs : keyEq (.str (s.map (·.toNat))) (.str (s.map (·.toNat))) = some true := keyStr.self s
        rw [hs] at hab
        cases hab
      have hsz : arr2.size = Z.length := by have := z2.length_eq; simpa using this.symm
      simp only [List.length_map] at hlen
      refine ⟨some b2, .map ((arr2.toList.map (rg P k (plainElem P n))).foldr DataW.insert []), arr2.size, hlk, .inr ⟨b2, rfl, arr2, clk2, hb2, ⟨by unfold maxLen; omega, ⟨hbn2.1, hbn2.2, hkeys⟩, fun x hx => ?_⟩, Nat.le_refl _, rfl⟩, fun tx wr => ?_⟩
      · obtain ⟨z, hz1, rfl⟩ := List.mem_map.1 (z2.symm.subset hx)
        obtain ⟨s, m, _, _, h5⟩ := z4 z hz1
        exact ⟨_, h5⟩
      · show List.any _ (hitE tx wr) = _
        rw [any_perm ((sorted_perm _).trans (z2.symm.map _)), hitA_any, List.any_map, List.any_map, List.any_map]
        rw [Bool.eq_iff_iff, List.any_eq_true, List.any_eq_true]
        exact ⟨fun ⟨z, hz, hp⟩ => ⟨z, hz, by rw [← hp]; exact (hit_eq (z4 z hz) tx wr).symm⟩, fun ⟨z, hz, hp⟩ => ⟨z, hz, by rw [← hp]; exact hit_eq (z4 z hz) tx wr⟩⟩

theorem wants_ok {tx : List Nat} {es : List (AV × AV)} {cs : Cs} {bl : Nat} (hrd : ∀ i v, cs.get i = some v → ∃ v', w.cell? ⟨bl, i, none⟩ = some v' ∧ VR E v v') : ∀ (n o : Nat) (r : Bool), wantsA A tx es cs n o = some r →
    ∃ W : List (ByteArray × Bool), W.length = n ∧ (∀ i p, W[i]? = some p → w.cell? ⟨bl, o + i * 2, none⟩ = some (.string p.1) ∧ w.cell? ⟨bl, o + (i * 2 + 1), none⟩ = some (.bool p.2)) ∧
      (∀ p ∈ W, ∃ e2, innerA A (.str (bytesN p.1)) es = some e2) ∧ r = W.any fun p => hitA tx p.2 ((innerA A (.str (bytesN p.1)) es).getD [])
  | 0, o, r, h => by cases h; exact ⟨[], rfl, by simp, by simp, rfl⟩
  | n + 1, o, r, h => by
    have h' : (ob (cs.get o) fun a => ob (cs.get (o + 1)) fun b => og (fitStr a) (ob (innerA A a es) fun es2 => onBool b fun t => ob (wantsA A tx es cs n (o + 2)) fun r => some (bc (hitA tx t es2) true r))) = some r := h
    simp only [ob_some, og_some, onBool_some] at h'
    obtain ⟨a, ha, b, hb, hfit, es2, hin, t, rfl, r2, hr2, h'⟩ := h'
    cases h'
    obtain ⟨W, w1, w2, w3, w4⟩ := wants_ok hrd n (o + 2) r2 hr2
    obtain ⟨va, hca, hva⟩ := hrd o a ha
    obtain ⟨vb, hcb, hvb⟩ := hrd (o + 1) _ hb
    simp only [VR] at hvb
    subst hvb
    have : ∃ s, a = .str (bytesN s) ∧ va = .string s := by
      unfold fitStr at hfit
      split at hfit
      · simp only [VR] at hva
        obtain ⟨s, h1, h2⟩ := hva
        exact ⟨s, by first | rw [h2] | rw [← h2], h1⟩
      · cases hfit
    obtain ⟨s, rfl, rfl⟩ := this
    refine ⟨(s, t) :: W, by simp [w1], fun i p hp => ?_, fun p hp => ?_, ?_⟩
    · cases i with
      | zero => simp at hp; subst hp; exact ⟨by simpa using hca, by simpa using hcb⟩
      | succ i =>
        have := w2 i p (by simpa using hp)
        rw [show o + (i + 1) * 2 = o + 2 + i * 2 by omega, show o + ((i + 1) * 2 + 1) = o + 2 + (i * 2 + 1) by omega]
        exact this
    · rcases List.mem_cons.1 hp with rfl | hp
      · exact ⟨_, hin⟩
      · exact w3 p hp
    · rw [List.any_cons, ← w4]
      show bc (hitA tx t es2) true r2 = _
      rw [hin]
      simp only [Option.getD_some]
      cases hitA tx t es2 <;> rfl

theorem busy_prim {f : FuncId} (hB : BusyOk P f) : CallOk P fun g xs A => bc (Nat.beq g f) (busyP xs A) none := by
  intro g xs A v A' h0
  have h : bc (Nat.beq g f) (busyP xs A) none = some (v, A') := h0
  clear h0
  cases hg : Nat.beq g f with
  | false => rw [hg] at h; cases h
  | true =>
    rw [hg, bc_true] at h
    rw [Nat.beq_eq] at hg
    subst hg
    obtain ⟨eE, hBn, t, k1, e1, k, n, ht, hk1, hz, hk, hn, hB⟩ := hB
    refine ⟨eE, fun E w args hGl hM hargs hF => ?_⟩
    have key : ∀ (b : Nat) (tx : List Nat) (m o len cap : Nat) (bt κt bl κl : Nat) (txs : ByteArray), E b = some (bt, κt) → E m = some (bl, κl) → bytesN txs = tx → busyAt A b tx m o len = some (v, A') →
        Calls P g #[.pointer (some ⟨bt, 0, none⟩), .string txs, .slice (some ⟨bl, o, none⟩) len cap] w fun e w' => ∃ E' v', e = .returned v' ∧ VR E' v v' ∧ Stp E A w E' A' w' := by
      intro b tx m o len cap bt κt bl κl txs hEb hEm htx h
      subst htx
      simp only [busyAt, ob_some, onCells_some, onMap_some, onMapO_some, og_some, om_some] at h
      obtain ⟨_, hgb, cs, g1, r1, rfl, mv, hmv, _, rfl, nm, rfl, _, hgm, es, c, rfl, _, hgw, ws, g2, r2, rfl, hlen, r, hr, h⟩ := h
      cases h
      obtain ⟨arrb, eb, frb, hbb, hcb, _, _⟩ := hM.cells hgb hEb
      obtain ⟨arrw, ew, frw, hbw, hcw, _, _⟩ := hM.cells hgw hEm
      obtain ⟨mv', hm1, hm2⟩ := hcb 0 _ hmv
      simp only [VR] at hm2
      obtain ⟨bm, κm, hEnm, rfl⟩ := hm2
      obtain ⟨W, w1, w2, w3, w4⟩ := wants_ok (A := A) (E := E) (w := w) (bl := bl) (fun i v hv => by
        obtain ⟨v', h1, h2⟩ := hcw i v hv
        exact ⟨v', by rw [cell_of hbw]; exact h1, h2⟩) len o r hr
      have hF : ∀ s : ByteArray, ∃ q : Option Nat × DataW Value × Nat, ∀ es2, innerA A (.str (bytesN s)) es = some es2 → (∀ w', w.grownBy w' none → (Instr.lookup t (.map (some bm)) (.string s) false).run P w' = .ok (.map q.1) w') ∧
          ((q.1 = none ∧ q.2.1 = .map []) ∨ ∃ bi, q.1 = some bi ∧ w.ownsMap P k (plainElem P n) bi q.2.2 q.2.1) ∧ ∀ tx wr, hitD tx wr q.2.1 = hitA (bytesN tx) wr es2 := by
        intro s
        cases hin : innerA A (.str (bytesN s)) es with
        | none => exact ⟨(none, .map [], 0), fun _ h => by cases h⟩
        | some es2 =>
          obtain ⟨m, D, N, h1, h2, h3⟩ := busy_one ht hk1 hz hk hn hM hgm hEnm s hin
          exact ⟨(m, D, N), fun es3 h => by cases h; exact ⟨h1, h2, h3⟩⟩
      obtain ⟨F, hF⟩ := Classical.axiomOfChoice hF
      have hFW := fun (p : ByteArray × Bool) (hp : p ∈ W) => (w3 p hp).imp fun e2 he2 => (And.intro he2 (hF p.1 e2 he2))
      have hlen' : W.length ≤ 1048576 := by rw [w1]; exact Nat.le_of_ble_eq_true hlen
      have := hB bt bl o bm txs W cap w (by rw [cell_of hbb]; exact hm1) w2 hlen' (fun s => (F s).1) (fun i p hp w' hw => by
        obtain ⟨e2, _, h1, _⟩ := hFW p (List.mem_of_getElem? hp)
        exact h1 w' hw) (fun s => (F s).2.1) (fun s => (F s).2.2) (fun i p hp => by
        obtain ⟨e2, _, _, h2, _⟩ := hFW p (List.mem_of_getElem? hp)
        exact h2)
      rw [w1] at this
      refine this.mono ?_
      rintro e w' ⟨rfl, hgr⟩
      have hany : (W.any fun p => hitD txs p.2 ((F p.1).2.1)) = r := by
        rw [w4, Bool.eq_iff_iff, List.any_eq_true, List.any_eq_true]
        have hp : ∀ p ∈ W, hitD txs p.2 ((F p.1).2.1) = hitA (bytesN txs) p.2 ((innerA A (.str (bytesN p.1)) es).getD []) := fun p hp => by
          obtain ⟨e2, he2, _, _, h3⟩ := hFW p hp
          rw [h3, he2]; rfl
        exact ⟨fun ⟨p, hp1, hp2⟩ => ⟨p, hp1, by rw [← hp p hp1]; exact hp2⟩, fun ⟨p, hp1, hp2⟩ => ⟨p, hp1, by rw [hp p hp1]; exact hp2⟩⟩
      exact ⟨E, _, rfl, by rw [hany]; simp only [VR], Stp.below hM ⟨hgr.os, hgr.tape, hgr.output, hgr.size, fun j hj => hgr.block j hj (by simp)⟩⟩
    unfold busyP at h
    split at h
    · simp only [VRL, VR] at hargs
      obtain ⟨y, s, hy, ⟨bt, κt, hEb, rfl⟩, y2, s2, rfl, ⟨txs, rfl, htx⟩, y3, s3, rfl, ⟨bl, κl, hEm, rfl⟩, rfl⟩ := hargs
      have ha := Array.toArray_toList (xs := args)
      rw [hy] at ha
      subst ha
      exact key _ _ _ _ _ _ _ _ _ _ _ hEb hEm (by first | exact htx | exact htx.symm) h
    · simp only [VRL, VR] at hargs
      obtain ⟨y, s, hy, ⟨bt, κt, hEb, rfl⟩, y2, s2, rfl, ⟨txs, rfl, htx⟩, y3, s3, rfl, ⟨bl, κl, hEm, _, _, rfl⟩, rfl⟩ := hargs
      have ha := Array.toArray_toList (xs := args)
      rw [hy] at ha
      subst ha
      exact key _ _ _ _ _ _ _ _ _ _ _ hEb hEm (by first | exact htx | exact htx.symm) h
    · cases h
      simp only [VRL, VR] at hargs
      obtain ⟨y, s, hy, ⟨bt, κt, hEb, rfl⟩, y2, s2, rfl, ⟨txs, rfl, htx⟩, y3, s3, rfl, rfl, rfl⟩ := hargs
      have ha := Array.toArray_toList (xs := args)
      rw [hy] at ha
      subst ha
      refine (hBn _ _ w).mono ?_
      rintro e w' ⟨rfl, hgr⟩
      exact ⟨E, _, rfl, by simp only [VR], Stp.below hM ⟨hgr.os, hgr.tape, hgr.output, hgr.size, fun j hj => hgr.block j hj (by simp)⟩⟩
    · cases h
end Go.Ev
