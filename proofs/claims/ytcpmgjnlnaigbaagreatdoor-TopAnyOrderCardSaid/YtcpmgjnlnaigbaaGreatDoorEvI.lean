/- The abstract machine's operations that read. -/
import Derived.Test.YtcpmgjnlnaigbaaGreatDoorEvH
import Derived.Laws.BytesString
set_option linter.unusedVariables false
set_option linter.unusedSimpArgs false
namespace Go.Ev
open Go

variable {P : Program} {E : Ren} {ρ : Env} {f : Operand → Value} {v : AV} {A : AH} {w : World}

/-- what an operation that reads comes to, in a world that the heap stands to -/
def Rok (P : Program) (E : Ren) (f : Operand → Value) (o : Oper) (v : AV) (w : World) : Prop := ∃ v', VR E v v' ∧ (execOp f o).run P w = .ok (.value v') w

theorem asCells_some {o : AObj} {c : CellsV} : asCells o = some c ↔ o = .cells c.cs c.g c.ro := by cases o <;> cases c <;> simp [asCells]
theorem asMapO_some {o : AObj} {c : List (AV × AV) × MC} : asMapO o = some c ↔ o = .map c.1 c.2 := by cases o <;> cases c <;> simp [asMapO]
theorem onCells_some {β : Type} {o : AObj} {g : Cs → Option (Nat × Nat) → Bool → Option β} {y : β} : onCells o g = some y ↔ ∃ c d r, o = .cells c d r ∧ g c d r = some y := by
  simp only [onCells, ob_some, asCells_some]
  constructor
  · rintro ⟨c, h1, h2⟩; exact ⟨_, _, _, h1, h2⟩
  · rintro ⟨c, d, r, h1, h2⟩; exact ⟨⟨c, d, r⟩, h1, h2⟩
theorem onMapO_some {β : Type} {o : AObj} {g : List (AV × AV) → MC → Option β} {y : β} : onMapO o g = some y ↔ ∃ c d, o = .map c d ∧ g c d = some y := by
  simp only [onMapO, ob_some, asMapO_some]
  constructor
  · rintro ⟨c, h1, h2⟩; exact ⟨_, _, h1, h2⟩
  · rintro ⟨c, d, h1, h2⟩; exact ⟨⟨c, d⟩, h1, h2⟩

/-- the block of a row of cells -/
theorem MR.cells (h : MR E A w) {n b κ : Nat} {cs : Cs} {g : Option (Nat × Nat)} {r : Bool} (hg : A.get n = some (.cells cs g r)) (he : E n = some (b, κ)) :
    ∃ arr e fr, w.heap[b]? = some (.cells arr e fr) ∧ (∀ i v, cs.get i = some v → ∃ v', arr[i]? = some v' ∧ VR E v v') ∧ (r = false → ∀ i, i < arr.size → ¬ (fr.1 ≤ i ∧ i < fr.2)) ∧
      (∀ sz top, g = some (sz, top) → (κ * sz ≤ arr.size ∧ (sz = 0 → (top / 1048576 = 0 ∨ e = top / 1048576) ∧ arr.size = top % 1048576)) ∧ ∀ i v, cs.get i = some v → i < top) := by
  obtain ⟨_, b', κ', he', ob', hb, ho⟩ := h.blk n _ hg
  rw [he] at he'
  cases he'
  obtain ⟨arr, e, fr, rfl, h1, h2, h3⟩ := ho
  exact ⟨arr, e, fr, hb, h1, h2, h3⟩

theorem cell_of {b i : Nat} {arr : Array Value} {e : TypeId} {fr : Nat × Nat} (h : w.heap[b]? = some (.cells arr e fr)) : w.cell? ⟨b, i, none⟩ = arr[i]? := by
  simp [World.cell?, h]

/-- a stretch of cells, read -/
theorem rd_ok (h : MR E A w) {n b κ o k : Nat} {cs : Cs} {g : Option (Nat × Nat)} {r : Bool} {l : List AV} (hg : A.get n = some (.cells cs g r)) (he : E n = some (b, κ)) (hl : rdCells cs o k = some l) :
    ∃ l' : List Value, VRL E l l' ∧ l'.length = k ∧ (loadCells ⟨b, o, none⟩ k).run P w = .ok l'.toArray w := by
  obtain ⟨arr, e, fr, hb, h1, _, _⟩ := h.cells hg he
  obtain ⟨h3, h4⟩ := (rdCells_spec k cs o l).1 hl
  have h5 : ∀ i, i < k → ∃ v', arr[o + i]? = some v' := fun i hi => by
    have := h4 i hi
    rw [List.getElem?_eq_getElem (by omega)] at this
    obtain ⟨v', hv, _⟩ := h1 _ _ this
    exact ⟨v', hv⟩
  refine ⟨(arr.toList.drop o).take k, ?_, ?_, ?_⟩
  · refine VRL.of_get ?_ (fun i v v' hv hv' => ?_)
    · rw [List.length_take, List.length_drop, Array.length_toList]
      rcases Nat.eq_zero_or_pos k with h0 | h0
      · omega
      · obtain ⟨v', hv⟩ := h5 (k - 1) (by omega)
        have := (Array.getElem?_eq_some_iff.1 hv).1
        omega
    · have hi : i < k := by have := (List.getElem?_eq_some_iff.1 hv).1; omega
      rw [List.getElem?_take, if_pos hi, List.getElem?_drop] at hv'
      obtain ⟨u, hu, hr⟩ := h1 (o + i) v ((h4 i hi).trans hv)
      have : arr[o + i]? = some v' := by simpa using hv'
      rw [hu] at this
      cases this
      exact hr
  · rw [List.length_take, List.length_drop, Array.length_toList]
    rcases Nat.eq_zero_or_pos k with h0 | h0
    · omega
    · obtain ⟨v', hv⟩ := h5 (k - 1) (by omega)
      have := (Array.getElem?_eq_some_iff.1 hv).1
      omega
  · have hk : ((arr.toList.drop o).take k).length = k := by
      rw [List.length_take, List.length_drop, Array.length_toList]
      rcases Nat.eq_zero_or_pos k with h0 | h0
      · omega
      · obtain ⟨v', hv⟩ := h5 (k - 1) (by omega)
        have := (Array.getElem?_eq_some_iff.1 hv).1
        omega
    have := run_loadCells_list (P := P) w ⟨b, o, none⟩ ((arr.toList.drop o).take k) (fun j u hu => by
      rw [add_addr, cell_of hb]
      rw [List.getElem?_take] at hu
      split at hu
      · rw [List.getElem?_drop] at hu; simpa using hu
      · cases hu)
    rw [hk] at this
    exact this

theorem rdAt_ok (h : MR E A w) {t : TypeId} {sz : Option Nat} {n o b κ : Nat} (hr : rdAt sz A n o = some v) (he : E n = some (b, κ)) (hz : aggSize P t = some sz) :
    ∃ v', VR E v v' ∧ (loadVar t ⟨b, o, none⟩).run P w = .ok v' w := by
  simp only [rdAt, ob_some, onCells_some] at hr
  obtain ⟨_, hg, cs, g, r, rfl, hr⟩ := hr
  obtain ⟨h1, h2⟩ := aggSize_some hz
  cases sz with
  | none =>
    obtain ⟨arr, e, fr, hb, h3, _, _⟩ := h.cells hg he
    have hr' : cs.get o = some v := hr
    obtain ⟨v', hv, hvr⟩ := h3 o v hr'
    exact ⟨v', hvr, by simp [loadVar, h1, cell_of hb, hv]⟩
  | some k =>
    have hr' : om (rdCells cs o k) AV.agg = some v := hr
    rw [om_some] at hr'
    obtain ⟨l, hl, rfl⟩ := hr'
    obtain ⟨l', hl1, hl2, hl3⟩ := rd_ok (P := P) h hg he hl
    exact ⟨.agg l'.toArray, by simp only [VR]; exact ⟨_, rfl, by simpa using hl1⟩, by simp [loadVar, h1, sizeA_some (h2 k rfl), hl3]⟩

theorem kLoad_ok {o : Oper} {t : TypeId} {a : Operand} (ho : o.op = .load t a) (h : kLoad t a P ρ A = some v) (hG : Good E ρ f) (hM : MR E A w) : Rok P E f o v w := by
  simp only [kLoad, ob_some, onPtr_some] at h
  obtain ⟨p, hp, n, c, rfl, sz, hsz, h⟩ := h
  have hx := hG a _ hp
  simp only [VR] at hx
  obtain ⟨b, κ, he, hx⟩ := hx
  obtain ⟨v', hv, hr⟩ := rdAt_ok hM h he hsz
  exact ⟨v', hv, by simp [execOp, ho, hx, Instr.loadAt, Instr.sureAddr, hr]⟩

theorem scalarEq_eq {a b : AV} {t : Bool} (h : scalarEq a b = some t) : (t = true ↔ a = b) := by
  cases a <;> simp only [scalarEq, reduceCtorEq] at h
  case bool x =>
    obtain ⟨y, rfl, h2⟩ := onBool_some.1 h
    cases h2
    simp
  case int k x =>
    obtain ⟨j, y, rfl, h2⟩ := onInt_some.1 h
    rw [bc_ite] at h2
    split at h2
    case isFalse => cases h2
    rename_i hk
    have hk := (eqK_eq _ _).1 hk
    cases h2
    rw [eqI_eq]
    simp [hk]
  case str x =>
    obtain ⟨y, rfl, h2⟩ := onStr_some.1 h
    cases h2
    rw [eqS_eq]
    simp

/-- keys: the model's test of two keys comes to the same -/
def kindDesc : KeyK → TypeDesc
  | .int k => .int k
  | .str => .string
  | .bool => .bool
  | _ => .invalid
def Sc (kk : KeyK) : Prop := (∃ j, kk = .int j) ∨ kk = .str ∨ kk = .bool
def Kd (kk : KeyK) : Prop := Sc kk ∨ ∃ ks, kk = .agg ks
theorem keyKind_desc {t : TypeId} {v : AV} (h : keyOk (keyKind P t) v = true) : ((P.underlying t = some (kindDesc (keyKind P t)) ∧ Sc (keyKind P t)) ∨ ∃ ks, keyKind P t = .agg ks ∧ structKs P t = some ks) ∧ Kd (keyKind P t) := by
  have key : (P.underlying t = some (kindDesc (keyKind P t)) ∧ Sc (keyKind P t)) ∨ ∃ ks, keyKind P t = .agg ks ∧ structKs P t = some ks := by
    unfold keyKind at *
    split at h
    · rename_i k hk; exact .inl ⟨hk, .inl ⟨k, rfl⟩⟩
    · rename_i hk; exact .inl ⟨hk, .inr (.inl rfl)⟩
    · rename_i hk; exact .inl ⟨hk, .inr (.inr rfl)⟩
    · cases hs : structKs P t with
      | none => rw [hs] at h; simp [keyOk] at h
      | some ks => exact .inr ⟨ks, rfl, rfl⟩
    · simp [keyOk] at h
  exact ⟨key, key.imp (fun h => h.2) (fun ⟨ks, h, _⟩ => ⟨ks, h⟩)⟩
theorem keyOk_agg {ks : List ScK} {v : AV} (h : keyOk (.agg ks) v = true) : ∃ a, v = .agg a ∧ fitKs ks a = true := by
  cases v <;> simp [keyOk] at h
  exact ⟨_, rfl, h⟩
theorem keyOk_scalar {k : KeyK} {v : AV} (h : keyOk k v = true) (hk : Sc k) : (∃ j n, k = .int j ∧ v = .int j n) ∨ (∃ s, k = .str ∧ v = .str s) ∨ (∃ b, k = .bool ∧ v = .bool b) := by
  rcases hk with ⟨j, rfl⟩ | rfl | rfl <;> cases v <;> simp [keyOk] at h
  · rename_i i n; exact .inl ⟨j, n, rfl, by rw [(eqK_eq _ _).1 h]⟩
  · exact .inr (.inl ⟨_, rfl, rfl⟩)
  · exact .inr (.inr ⟨_, rfl, rfl⟩)

theorem sameNow_ok {kk : KeyK} {k q : AV} {k' q' : Value} {t : Bool} (hk : keyOk kk k = true) (hs : Sc kk) (h : keyEq k q = some t) (h1 : VR E k k') (h2 : VR E q q') :
    Instr.sameNow (kindDesc kk) k' q' = some t := by
  rcases keyOk_scalar hk hs with ⟨j, n, rfl, rfl⟩ | ⟨s, rfl, rfl⟩ | ⟨b, rfl, rfl⟩
  · simp only [keyEq, scalarEq] at h
    obtain ⟨i, y, rfl, h3⟩ := onInt_some.1 h
    rw [bc_ite] at h3
    split at h3
    case isFalse => cases h3
    rename_i hij
    have hij := (eqK_eq _ _).1 hij
    cases h3
    simp only [VR] at h1 h2
    subst h1 h2 hij
    simp [kindDesc, Instr.sameNow, eqI_eq]
  · simp only [keyEq, scalarEq] at h
    obtain ⟨y, rfl, h3⟩ := onStr_some.1 h
    cases h3
    simp only [VR] at h1 h2
    obtain ⟨a, rfl, rfl⟩ := h1
    obtain ⟨b, rfl, rfl⟩ := h2
    simp only [kindDesc, Instr.sameNow]
    rw [eqS_eq, Option.some.injEq, show (a == b) = (a.data == b.data) from rfl, Bool.eq_iff_iff, decide_eq_true_iff, beq_iff_eq, bytesN_eq]
    constructor
    · intro h; rw [ByteArray.toList_eq, ByteArray.toList_eq, h]
    · intro h
      rw [ByteArray.toList_eq, ByteArray.toList_eq] at h
      exact Array.toList_inj.1 h
  · simp only [keyEq, scalarEq] at h
    obtain ⟨y, rfl, h3⟩ := onBool_some.1 h
    cases h3
    simp only [VR] at h1 h2
    subst h1 h2
    simp [kindDesc, Instr.sameNow]

theorem scalarsEq_true : ∀ (a b : List AV), scalarsEq a b = some true → a = b
  | [], b, h => by cases b; rfl; cases h
  | x :: r, b, h => by
    cases b with
    | nil => cases h
    | cons y s =>
      have h' : (ob (scalarEq x y) fun e => bc e (scalarsEq r s) (some false)) = some true := h
      rw [ob_some] at h'
      obtain ⟨e, he, h2⟩ := h'
      cases e with
      | false => rw [bc_false] at h2; cases h2
      | true => rw [bc_true] at h2; rw [(scalarEq_eq he).1 rfl, scalarsEq_true r s h2]
theorem keyEq_true {kk : KeyK} {k q : AV} (hk : keyOk kk k = true) (hs : Kd kk) (h : keyEq k q = some true) : k = q := by
  rcases hs with hs | ⟨ks, rfl⟩
  · rcases keyOk_scalar hk hs with ⟨j, n, rfl, rfl⟩ | ⟨s, rfl, rfl⟩ | ⟨b, rfl, rfl⟩ <;> (simp only [keyEq] at h; exact (scalarEq_eq h).1 rfl)
  · obtain ⟨a, rfl, _⟩ := keyOk_agg hk
    obtain ⟨b, rfl, h2⟩ := onAgg_some.1 (show onAgg q (scalarsEq a) = some true from h)
    rw [scalarsEq_true a b h2]
theorem scalarEq_comm (a b : AV) (t : Bool) (h : scalarEq a b = some t) : scalarEq b a = some t := by
  cases a <;> simp only [scalarEq, reduceCtorEq] at h
  case bool x => obtain ⟨y, rfl, h2⟩ := onBool_some.1 h; cases h2; simp [scalarEq, onBool_some, Bool.beq_comm]
  case int k x =>
    obtain ⟨j, y, rfl, h2⟩ := onInt_some.1 h
    rw [bc_ite] at h2
    split at h2
    case isFalse => cases h2
    rename_i hk
    have hk := (eqK_eq _ _).1 hk
    cases h2
    subst hk
    simp only [scalarEq, onInt_some]
    refine ⟨_, _, rfl, ?_⟩
    rw [bc_ite, if_pos ((eqK_eq _ _).2 rfl), eqI_eq, eqI_eq]
    congr 1
    rw [Bool.eq_iff_iff, beq_iff_eq, beq_iff_eq]
    exact eq_comm
  case str x =>
    obtain ⟨y, rfl, h2⟩ := onStr_some.1 h
    cases h2
    simp only [scalarEq, onStr_some]
    refine ⟨_, rfl, ?_⟩
    rw [eqS_eq, eqS_eq]
    congr 1
    rw [Bool.eq_iff_iff, decide_eq_true_iff, decide_eq_true_iff]
    exact eq_comm
theorem scalarsEq_comm : ∀ (a b : List AV) (t : Bool), scalarsEq a b = some t → scalarsEq b a = some t
  | [], b, t, h => by cases b; exact h; cases h
  | x :: r, b, t, h => by
    cases b with
    | nil => cases h
    | cons y s =>
      have h' : (ob (scalarEq x y) fun e => bc e (scalarsEq r s) (some false)) = some t := h
      rw [ob_some] at h'
      obtain ⟨e, he, h2⟩ := h'
      show (ob (scalarEq y x) fun e => bc e (scalarsEq s r) (some false)) = some t
      rw [ob_some]
      refine ⟨e, scalarEq_comm _ _ _ he, ?_⟩
      cases e with
      | false => exact h2
      | true => rw [bc_true] at h2 ⊢; exact scalarsEq_comm r s t h2
theorem keyEq_comm {kk : KeyK} {k q : AV} {t : Bool} (hk : keyOk kk k = true) (hs : Kd kk) (h : keyEq q k = some t) : keyEq k q = some t := by
  rcases hs with hs | ⟨ks, rfl⟩
  · rcases keyOk_scalar hk hs with ⟨j, n, rfl, rfl⟩ | ⟨s, rfl, rfl⟩ | ⟨b, rfl, rfl⟩
    all_goals
      cases q <;> simp only [keyEq] at h ⊢ <;> first | exact scalarEq_comm _ _ _ h | (obtain ⟨y, hy, _⟩ := onAgg_some.1 h; cases hy)
  · obtain ⟨a, rfl, _⟩ := keyOk_agg hk
    cases q with
    | agg b =>
      obtain ⟨a', ha, h2⟩ := onAgg_some.1 (show onAgg (.agg a) (scalarsEq b) = some t from h)
      cases ha
      show onAgg (.agg b) (scalarsEq a) = some t
      rw [onAgg_some]
      exact ⟨b, rfl, scalarsEq_comm b a t h2⟩
    | _ =>
      exfalso
      simp only [keyEq] at h
      have := scalarEq_comm _ _ _ h
      simp [scalarEq] at this
/-- what is found among entries of which no key is there twice -/
theorem findA_split {kk : KeyK} {k : AV} (hk : keyOk kk k = true) (hs : Kd kk) : ∀ (es : List (AV × AV)) (r : Option AV), es.Pairwise (fun p q => keyEq p.1 q.1 = some false) → findA k es = some r →
    (r = none ∧ ∀ q ∈ es, keyEq k q.1 = some false) ∨ ∃ (i : Nat) (p : AV × AV), es[i]? = some p ∧ r = some p.2 ∧ keyEq k p.1 = some true ∧ ∀ (j : Nat) (q : AV × AV), es[j]? = some q → j ≠ i → keyEq k q.1 = some false := by
  intro es
  induction es with
  | nil => intro r _ h; have : some none = some r := h; cases this; exact .inl ⟨rfl, by simp⟩
  | cons p s ih =>
    intro r hp h
    rw [List.pairwise_cons] at hp
    have h' : (ob (keyEq k p.1) fun e => bc e (some (some p.2)) (findA k s)) = some r := h
    rw [ob_some] at h'
    obtain ⟨e, he, h2⟩ := h'
    cases e with
    | true =>
      rw [bc_true] at h2
      cases h2
      have hkp := keyEq_true hk hs he
      refine .inr ⟨0, p, rfl, rfl, he, fun j q hq hj => ?_⟩
      cases j with
      | zero => exact absurd rfl hj
      | succ j =>
        have := hp.1 q (List.mem_of_getElem? (by simpa using hq))
        rw [← hkp] at this
        exact this
    | false =>
      rw [bc_false] at h2
      rcases ih r hp.2 h2 with ⟨h3, h4⟩ | ⟨i, p', h3, h4, h5, h6⟩
      · refine .inl ⟨h3, fun q hq => ?_⟩
        rcases List.mem_cons.1 hq with rfl | hq
        · exact he
        · exact h4 q hq
      · refine .inr ⟨i + 1, p', by simpa using h3, h4, h5, fun j q hq hj => ?_⟩
        cases j with
        | zero => simp at hq; subst hq; exact he
        | succ j => exact h6 j q (by simpa using hq) (by omega)

theorem findNow_none {kind : TypeDesc} {k : Value} : ∀ (L : List MapEntry) (i : Nat), (∀ e ∈ L, Instr.sameNow kind k e.key = some false) → Instr.findNow kind k L i = some none := by
  intro L
  induction L with
  | nil => intro i _; rfl
  | cons e s ih => intro i h; rw [Instr.findNow, h e (by simp)]; exact ih _ (fun x hx => h x (by simp [hx]))
theorem findNow_some {kind : TypeDesc} {k : Value} : ∀ (L : List MapEntry) (i j : Nat) (e : MapEntry), L[j]? = some e → Instr.sameNow kind k e.key = some true → (∀ m x, L[m]? = some x → m ≠ j → Instr.sameNow kind k x.key = some false) →
    Instr.findNow kind k L i = some (some (i + j, e.val)) := by
  intro L
  induction L with
  | nil => intro i j e h; simp at h
  | cons x s ih =>
    intro i j e h h1 h2
    cases j with
    | zero => simp at h; subst h; rw [Instr.findNow, h1]; rfl
    | succ j =>
      rw [Instr.findNow, h2 0 x (by simp) (by omega)]
      simp only
      rw [ih (i + 1) j e (by simpa using h) h1 (fun m y hy hm => h2 (m + 1) y (by simpa using hy) (by omega))]
      rw [show i + 1 + j = i + (j + 1) by omega]

/-- an entry's place in another order -/
theorem cons_erase {α : Type} : ∀ (l : List α) (i : Nat) (h : i < l.length), (l[i] :: l.eraseIdx i).Perm l
  | x :: r, 0, _ => by simp
  | x :: r, i + 1, h => by
    have := cons_erase r i (by simpa using h)
    simp only [List.getElem_cons_succ, List.eraseIdx_cons_succ]
    exact (List.Perm.swap _ _ _).trans (this.cons x)

theorem perm_at {α : Type} {l m : List α} (h : l.Perm m) {i : Nat} {x : α} (hx : l[i]? = some x) : ∃ j, m[j]? = some x ∧ (l.eraseIdx i).Perm (m.eraseIdx j) := by
  have hm : x ∈ m := h.subset (List.mem_of_getElem? hx)
  obtain ⟨j, hj, hxj⟩ := List.getElem_of_mem hm
  refine ⟨j, by rw [List.getElem?_eq_getElem hj, hxj], ?_⟩
  obtain ⟨hi, hxi⟩ := List.getElem?_eq_some_iff.1 hx
  have h1 : (x :: l.eraseIdx i).Perm l := by rw [← hxi]; exact cons_erase l i hi
  have h2 : (x :: m.eraseIdx j).Perm m := by rw [← hxj]; exact cons_erase m j hj
  exact (h1.trans (h.trans h2.symm)).cons_inv

theorem flat_of_scalars : ∀ (ks : List ScK) (a b : List AV) (t : Bool), fitKs ks a = true → scalarsEq a b = some t → flatEq ks a b = some t
  | [], a, b, t, h1, h2 => by
    cases a with
    | nil => cases b; exact h2; cases h2
    | cons _ _ => cases h1
  | k :: ks, a, b, t, h1, h2 => by
    cases a with
    | nil => cases h1
    | cons x r =>
      have h1' : bc (fitK k x) (fitKs ks r) false = true := h1
      rw [bc_and] at h1'
      cases b with
      | nil => cases h2
      | cons y s =>
        have h2' : (ob (scalarEq x y) fun e => bc e (scalarsEq r s) (some false)) = some t := h2
        rw [ob_some] at h2'
        obtain ⟨e, he, h3⟩ := h2'
        show og (fitK k x) (ob (scalarEq x y) fun e => bc e (flatEq ks r s) (some false)) = some t
        rw [og_some, ob_some]
        refine ⟨h1'.1, e, he, ?_⟩
        cases e with
        | false => exact h3
        | true => rw [bc_true] at h3 ⊢; exact flat_of_scalars ks r s t h1'.2 h3
theorem eqKind_of_struct {t : TypeId} {ks : List ScK} (h : structKs P t = some ks) : eqKind P t = .flat ks := by
  obtain ⟨fs, hfs, _⟩ := structKs_some h
  unfold eqKind
  rw [hfs]
  simp only
  rw [h]
/-- a key beside one of the world's: the model's '==' -/
theorem agg_equal {t : TypeId} {ks : List ScK} {k q : AV} {k' q' : Value} {b : Bool} (hks : structKs P t = some ks) (hk : keyOk (.agg ks) k = true) (h : keyEq k q = some b) (h1 : VR E k k') (h2 : VR E q q') (w : World) : (Op.equal t k' q').run P w = .ok b w := by
  obtain ⟨a, rfl, hf⟩ := keyOk_agg hk
  obtain ⟨d, rfl, h3⟩ := onAgg_some.1 (show onAgg q (scalarsEq a) = some b from h)
  refine (equal_ok (c := true) (x := .agg a) (y := .agg d) (b := b) ?_ h1 h2).2.2 w
  rw [eqKind_of_struct hks]
  show onAgg (.agg a) (fun x => onAgg (.agg d) fun y => flatEq ks x y) = some b
  rw [onAgg_some]
  refine ⟨a, rfl, ?_⟩
  rw [onAgg_some]
  exact ⟨d, rfl, flat_of_scalars ks a d b hf h3⟩
theorem asking_none {t : TypeId} {k' : Value} {w : World} : ∀ (L : List MapEntry) (i : Nat), (∀ e ∈ L, (Op.equal t k' e.key).run P w = .ok false w) → (Instr.findAsking t k' L i).run P w = .ok none w
  | [], i, _ => rfl
  | e :: L, i, h => by
    simp only [Instr.findAsking, Sem.run_bind, h e (by simp), Result.andThen_ok, Bool.false_eq_true, if_false]
    exact asking_none L (i + 1) (fun x hx => h x (by simp [hx]))
theorem asking_some {t : TypeId} {k' : Value} {w : World} : ∀ (L : List MapEntry) (i j : Nat) (e : MapEntry), L[j]? = some e → (Op.equal t k' e.key).run P w = .ok true w → (∀ m x, L[m]? = some x → m ≠ j → (Op.equal t k' x.key).run P w = .ok false w) →
    (Instr.findAsking t k' L i).run P w = .ok (some (i + j, e.val)) w
  | [], i, j, e, h, _, _ => by simp at h
  | x :: L, i, 0, e, h, h1, _ => by
    simp at h
    subst h
    simp [Instr.findAsking, Sem.run_bind, h1, Result.andThen_ok]
  | x :: L, i, j + 1, e, h, h1, h2 => by
    simp only [Instr.findAsking, Sem.run_bind, h2 0 x (by simp) (by omega), Result.andThen_ok, Bool.false_eq_true, if_false]
    rw [asking_some L (i + 1) j e (by simpa using h) h1 (fun m y hy hm => h2 (m + 1) y (by simpa using hy) (by omega)), show i + 1 + j = i + (j + 1) by omega]
theorem findKey_asking {t : TypeId} {k' : Value} {w : World} {fs : Array Field} (hfs : P.underlying t = some (.struct fs)) (L : List MapEntry) : (Instr.findKey t k' L).run P w = (Instr.findAsking t k' L 0).run P w := by
  cases L with
  | nil => simp [Instr.findKey, run_und hfs, Instr.findNow, Instr.findAsking]
  | cons e L =>
    have : Instr.findNow (.struct fs) k' (e :: L) 0 = none := by simp [Instr.findNow, Instr.sameNow]
    simp [Instr.findKey, run_und hfs, this]

theorem find_none {kt : TypeId} {k : AV} {k' : Value} (hk : keyOk (keyKind P kt) k = true) (hv : VR E k k') (L : List MapEntry) (h : ∀ e ∈ L, ∃ q, keyEq k q = some false ∧ VR E q e.key) (w : World) : (Instr.findKey kt k' L).run P w = .ok none w := by
  rcases (keyKind_desc hk).1 with ⟨hd, hs⟩ | ⟨ks, hkk, hks⟩
  · have : Instr.findNow (kindDesc (keyKind P kt)) k' L 0 = some none := findNow_none _ _ (fun e he => by
      obtain ⟨q, h1, h2⟩ := h e he
      exact sameNow_ok hk hs h1 hv h2)
    simp [Instr.findKey, run_und hd, this]
  · obtain ⟨fs, hfs, _⟩ := structKs_some hks
    rw [hkk] at hk
    rw [findKey_asking hfs]
    refine asking_none L 0 fun e he => ?_
    obtain ⟨q, h1, h2⟩ := h e he
    exact agg_equal hks hk h1 hv h2 w
theorem find_some {kt : TypeId} {k : AV} {k' : Value} (hk : keyOk (keyKind P kt) k = true) (hv : VR E k k') (L : List MapEntry) (j : Nat) (e : MapEntry) (hj : L[j]? = some e) (h1 : ∃ q, keyEq k q = some true ∧ VR E q e.key) (h : ∀ m x, L[m]? = some x → m ≠ j → ∃ q, keyEq k q = some false ∧ VR E q x.key) (w : World) :
    (Instr.findKey kt k' L).run P w = .ok (some (j, e.val)) w := by
  rcases (keyKind_desc hk).1 with ⟨hd, hs⟩ | ⟨ks, hkk, hks⟩
  · obtain ⟨q, h2, h3⟩ := h1
    have : Instr.findNow (kindDesc (keyKind P kt)) k' L 0 = some (some (0 + j, e.val)) := findNow_some _ _ _ _ hj (sameNow_ok hk hs h2 hv h3) (fun m x hx hm => by
      obtain ⟨q, h4, h5⟩ := h m x hx hm
      exact sameNow_ok hk hs h4 hv h5)
    rw [Nat.zero_add] at this
    simp [Instr.findKey, run_und hd, this]
  · obtain ⟨fs, hfs, _⟩ := structKs_some hks
    rw [hkk] at hk
    rw [findKey_asking hfs]
    obtain ⟨q, h2, h3⟩ := h1
    have := asking_some (P := P) (t := kt) (k' := k') (w := w) L 0 j e hj (agg_equal hks hk h2 hv h3 w) (fun m x hx hm => by
      obtain ⟨q, h4, h5⟩ := h m x hx hm
      exact agg_equal hks hk h4 hv h5 w)
    rwa [Nat.zero_add] at this

/-- the model finds what the abstract machine finds -/
theorem find_ok {kt : TypeId} {k : AV} {k' : Value} {es : List (AV × AV)} {bs : List Nat} {arr : Array MapEntry} {r : Option AV} (hk : keyOk (keyKind P kt) k = true) (hv : VR E k k') (hm : MapR E es bs arr) (h : findA k es = some r) :
    (r = none ∧ ∀ w, (Instr.findKey kt k' arr.toList).run P w = .ok none w) ∨
    ∃ (i : Nat) (p : AV × AV) (l : List MapEntry) (j : Nat) (e : MapEntry), es[i]? = some p ∧ r = some p.2 ∧ keyEq k p.1 = some true ∧ l.Perm arr.toList ∧ l.length = es.length ∧ (∀ (i : Nat) (p : AV × AV) (e : MapEntry), es[i]? = some p → l[i]? = some e → VR E p.1 e.key ∧ VR E p.2 e.val) ∧
      l[i]? = some e ∧ arr[j]? = some e ∧ (l.eraseIdx i).Perm (arr.toList.eraseIdx j) ∧ (bs.length = es.length → bs = l.map (·.born)) ∧ ∀ w, (Instr.findKey kt k' arr.toList).run P w = .ok (some (j, e.val)) w := by
  obtain ⟨_, hs⟩ := keyKind_desc hk
  obtain ⟨l, hl1, hl2, hl3, hl4, hl5⟩ := hm
  rcases findA_split hk hs es r hl4 h with ⟨h1, h2⟩ | ⟨i, p, h1, h2, h3, h4⟩
  · refine .inl ⟨h1, fun w => ?_⟩
    exact find_none hk hv _ (fun e he => by
      have he' := hl1.symm.subset he
      obtain ⟨j, hj, hje⟩ := List.getElem_of_mem he'
      have hje' : l[j]? = some e := by rw [List.getElem?_eq_getElem hj, hje]
      have hes : es[j]? = some (es[j]'(by omega)) := List.getElem?_eq_getElem _
      exact ⟨_, h2 _ (List.mem_of_getElem? hes), (hl3 j _ e hes hje').1⟩) w
  · have hi : i < l.length := by have := (List.getElem?_eq_some_iff.1 h1).1; omega
    have hli : l[i]? = some l[i] := List.getElem?_eq_getElem hi
    obtain ⟨j, hj, hp⟩ := perm_at hl1 hli
    have hj' : arr[j]? = some l[i] := by simpa using hj
    refine .inr ⟨i, p, l, j, l[i], h1, h2, h3, hl1, hl2, hl3, hli, hj', hp, hl5, fun w => ?_⟩
    have hothers : ∀ e ∈ arr.toList.eraseIdx j, ∃ q, keyEq k q = some false ∧ VR E q e.key := fun e he => by
      have he' := hp.symm.subset he
      obtain ⟨m, hm, hme⟩ := List.getElem_of_mem he'
      have hme' : (l.eraseIdx i)[m]? = some e := by rw [List.getElem?_eq_getElem hm, hme]
      rw [List.getElem?_eraseIdx] at hme'
      split at hme'
      · rename_i hlt
        have hes : es[m]? = some (es[m]'(by omega)) := List.getElem?_eq_getElem _
        exact ⟨_, h4 m _ hes (by omega), (hl3 m _ e hes hme').1⟩
      · rename_i hge
        have hlen := (List.getElem?_eq_some_iff.1 hme').1
        have hes : es[m + 1]? = some (es[m + 1]'(by omega)) := List.getElem?_eq_getElem _
        exact ⟨_, h4 (m + 1) _ hes (by omega), (hl3 (m + 1) _ e hes hme').1⟩
    exact find_some hk hv _ j _ hj ⟨_, h3, (hl3 i p _ h1 hli).1⟩ (fun m x hx hm => by
      refine hothers x ?_
      rcases Nat.lt_or_ge m j with h | h
      · exact List.mem_of_getElem? (i := m) (by rw [List.getElem?_eraseIdx, if_pos h]; exact hx)
      · refine List.mem_of_getElem? (i := m - 1) ?_
        rw [List.getElem?_eraseIdx, if_neg (by omega), show m - 1 + 1 = m by omega]
        exact hx) w

theorem checkFields {xs : Array Value} {em : Bool} {d : Nat} (w : World) : ∀ (l : List Field) (k : Nat) (ks : List ScK) (a : List AV), flatKs P l k = some ks → fitKs ks a = true → VRL E a (xs.toList.drop k) →
    (forIn l PUnit.unit (fun (f : Field) (_ : PUnit) => if f.name ≠ "_" then (do Instr.checkKey em (d + 1) f.type (← part f.type xs f.offset); pure (ForInStep.yield PUnit.unit)) else pure (ForInStep.yield PUnit.unit)) : Sem PUnit).run P w = .ok PUnit.unit w
  | [], k, ks, a, _, _, _ => by simp
  | f :: l, k, ks, a, h1, h2, ha => by
    simp only [flatKs, og_some, ob_some, om_some, Bool.and_eq_true, Nat.beq_eq] at h1
    obtain ⟨⟨hn, ho⟩, s, hs, l', hl, rfl⟩ := h1
    cases a with
    | nil => cases h2
    | cons x a =>
      have h2' : bc (fitK s x) (fitKs l' a) false = true := h2
      rw [bc_and] at h2'
      simp only [VRL] at ha
      obtain ⟨x', ra, hxa, hx1, hx2⟩ := ha
      have hxk : xs[k]? = some x' := by
        have : (xs.toList.drop k)[0]? = some x' := by rw [hxa]; rfl
        rw [List.getElem?_drop] at this
        simpa using this
      have hdx : xs.toList.drop (k + 1) = ra := by rw [← List.tail_drop, hxa]; rfl
      have hagg : ∀ w, (isAgg f.type).run P w = .ok false w := fun w => by
        unfold scK at hs
        split at hs <;> cases hs <;> (rename_i ht; simp [isAgg, run_und ht])
      have hpx : (part f.type xs f.offset).run P w = .ok x' w := by simp [part, hagg, ho, hxk]
      have hname : f.name ≠ "_" := by simpa using hn
      have hck : (Instr.checkKey em (d + 1) f.type x').run P w = .ok () w := by
        unfold scK at hs
        split at hs <;> cases hs <;> rename_i ht <;> simp [Instr.checkKey, run_und ht]
      have ih := checkFields (em := em) (d := d) w l (k + 1) l' a hl h2'.2 (by rw [hdx]; exact hx2)
      simp only [List.forIn_cons, if_pos hname, Sem.run_bind, hpx, Result.andThen_ok, hck, Sem.run_pure]
      exact ih
theorem checkKey_run {kt : TypeId} {k : AV} {k' : Value} {em : Bool} (hk : keyOk (keyKind P kt) k = true) (hv : VR E k k') (w : World) : (Instr.checkKey em 10000 kt k').run P w = .ok () w := by
  rcases (keyKind_desc hk).1 with ⟨hd, hs⟩ | ⟨ks, hkk, hks⟩
  case inr =>
    obtain ⟨fs, hfs, _, _, hfl⟩ := structKs_some hks
    rw [hkk] at hk
    obtain ⟨a, rfl, hf⟩ := keyOk_agg hk
    simp only [VR] at hv
    obtain ⟨xs, rfl, hx⟩ := hv
    have := checkFields (P := P) (em := em) (d := 9998) w fs.toList 0 ks a hfl hf (by simpa using hx)
    show (Instr.checkKey em (9998 + 1 + 1) kt (.agg xs)).run P w = _
    unfold Instr.checkKey
    simp only [Sem.run_bind, run_und hfs, Result.andThen_ok]
    rw [← Array.forIn_toList]
    refine (congrArg (fun r => Result.andThen r fun (_ : PUnit) w' => Sem.run P (pure ()) w') this).trans ?_
    simp
  have : ∀ n, (Instr.checkKey em (n + 1) kt k').run P w = .ok () w := by
    intro n
    rcases keyOk_scalar hk hs with ⟨j, m, hk1, rfl⟩ | ⟨s, hk1, rfl⟩ | ⟨b, hk1, rfl⟩
    · rw [hk1] at hd; simp only [VR] at hv; subst hv; simp [Instr.checkKey, run_und hd, kindDesc]
    · rw [hk1] at hd; simp only [VR] at hv; obtain ⟨s', rfl, _⟩ := hv; simp [Instr.checkKey, run_und hd, kindDesc]
    · rw [hk1] at hd; simp only [VR] at hv; subst hv; simp [Instr.checkKey, run_und hd, kindDesc]
  exact this 9999

theorem mapInfo_some {t : TypeId} {mi : KeyK × Option AV} (h : mapInfo P t = some mi) : ∃ k e, P.underlying t = some (.map k e) ∧ mi = (keyKind P k, zeroA P e) := by
  unfold mapInfo at h
  split at h
  · rename_i k e hk; cases h; exact ⟨k, e, hk, rfl⟩
  · cases h

theorem MR.map (h : MR E A w) {n b κ : Nat} {es : List (AV × AV)} {c : MC} (hg : A.get n = some (.map es c)) (he : E n = some (b, κ)) : ∃ arr clk, w.heap[b]? = some (.map arr clk) ∧ Born arr clk ∧ (c.bs.length = es.length → clk = c.clock) ∧ MapR E es c.bs arr := by
  obtain ⟨_, b', κ', he', ob', hb, ho⟩ := h.blk n _ hg
  rw [he] at he'
  cases he'
  obtain ⟨arr, clk, rfl, hbn, hc, hm⟩ := ho
  exact ⟨arr, clk, hb, hbn, hc, hm⟩

theorem run_getObj {r : Nat} {o : Obj} (h : w.heap[r]? = some o) (hc : ∀ c e fr, o ≠ .cells c e fr) : (getObj r).run P w = .ok o w := by
  cases o with
  | cells c e fr => exact absurd rfl (hc _ _ _)
  | _ => simp [getObj, Sem.run, h]

theorem Born.nil : Born #[] 0 := ⟨fun x h => by simp at h, by simp⟩
theorem Born.push {arr : Array MapEntry} {clk : Nat} (h : Born arr clk) (e : MapEntry) (he : e.born = clk) : Born (arr.push e) (clk + 1) := by
  refine ⟨fun x hx => ?_, ?_⟩
  · rw [Array.toList_push, List.mem_append] at hx
    rcases hx with hx | hx
    · have := h.1 x hx; omega
    · have : x = e := by simpa using hx
      subst this; omega
  · rw [Array.toList_push, List.map_append, List.nodup_append]
    refine ⟨h.2, by simp, fun a ha b hb e' => ?_⟩
    obtain ⟨y, hy, rfl⟩ := List.mem_map.1 ha
    have : b = e.born := by simpa using hb
    have := h.1 y hy
    omega
theorem Born.sub {arr arr' : Array MapEntry} {clk : Nat} (h : Born arr clk) (hs : (arr'.toList.map (·.born)).Sublist (arr.toList.map (·.born))) : Born arr' clk := by
  refine ⟨fun x hx => ?_, h.2.sublist hs⟩
  have := hs.subset (List.mem_map.2 ⟨x, hx, rfl⟩)
  obtain ⟨y, hy, e⟩ := List.mem_map.1 this
  have := h.1 y hy
  omega

theorem MapR.nil (E : Ren) : MapR E [] [] #[] := ⟨[], by simp, rfl, by simp, .nil, fun _ => rfl⟩

def tailLook (kt et : TypeId) (ok : Bool) (i : Value) (es : Array MapEntry) : Sem Value := do
  Instr.checkKey es.isEmpty 10000 kt i
  let (v, ok') ← match ← Instr.findKey kt i es.toList with
    | some (_, v) => pure (v, true)
    | none => pure (← zeroValue et, false)
  pure (if ok then .tuple #[v, .bool ok'] else v)

theorem lookup_none {t kt et : TypeId} {ok : Bool} {i : Value} (ht : P.underlying t = some (.map kt et)) : (Instr.lookup t (.map none) i ok).run P w = (tailLook kt et ok i #[]).run P w := by
  unfold Instr.lookup tailLook
  simp only [Sem.run_bind, run_und ht, Result.andThen_ok, Sem.run_pure]
  cases h1 : (Instr.checkKey (#[] : Array MapEntry).isEmpty 10000 kt i).run P w with
  | halt => rfl
  | ok a w1 =>
    simp only [Result.andThen_ok]
    cases h2 : (Instr.findKey kt i (#[] : Array MapEntry).toList).run P w1 with
    | halt => rfl
    | ok r w2 =>
      simp only [Result.andThen_ok]
      rcases r with _ | ⟨_, _⟩ <;> simp only [Sem.run_bind, Sem.run_pure, Result.andThen_ok]
theorem lookup_some {t kt et : TypeId} {ok : Bool} {i : Value} {b c : Nat} {arr : Array MapEntry} (ht : P.underlying t = some (.map kt et)) (hb : w.heap[b]? = some (.map arr c)) :
    (Instr.lookup t (.map (some b)) i ok).run P w = (tailLook kt et ok i arr).run P w := by
  unfold Instr.lookup tailLook
  simp only [Sem.run_bind, run_und ht, Result.andThen_ok, run_getObj hb (by simp), Sem.run_pure]
  cases h1 : (Instr.checkKey arr.isEmpty 10000 kt i).run P w with
  | halt => rfl
  | ok a w1 =>
    simp only [Result.andThen_ok]
    cases h2 : (Instr.findKey kt i arr.toList).run P w1 with
    | halt => rfl
    | ok r w2 =>
      simp only [Result.andThen_ok]
      rcases r with _ | ⟨_, _⟩ <;> simp only [Sem.run_bind, Sem.run_pure, Result.andThen_ok]

theorem kLookup_ok {o : Oper} {t : TypeId} {x i : Operand} {ok : Bool} (ho : o.op = .lookup t x i ok) (h : kLookup t x i ok P ρ A = some v) (hG : Good E ρ f) (hM : MR E A w) : Rok P E f o v w := by
  simp only [kLookup, ob_some, og_some, onMap_some] at h
  obtain ⟨m, hm, k, hk, mi, hmi, hok, r, rfl, es, hes, fr, hfr, h⟩ := h
  obtain ⟨kt, et, ht, rfl⟩ := mapInfo_some hmi
  have hx := hG x _ hm
  have hi := hG i _ hk
  simp only at hok h
  obtain ⟨arr, bs, harr, hget⟩ : ∃ arr bs, MapR E es bs arr ∧ (Instr.lookup t (f x) (f i) ok).run P w = (tailLook kt et ok (f i) arr).run P w := by
    cases r with
    | none =>
      have : some [] = some es := hes
      cases this
      simp only [VR] at hx
      exact ⟨#[], [], MapR.nil E, by rw [hx]; exact lookup_none ht⟩
    | some n =>
      have hes' : (ob (A.get n) fun ob1 => onMapO ob1 fun es _ => some es) = some es := hes
      simp only [ob_some, onMapO_some] at hes'
      obtain ⟨_, hg, es', c, rfl, hee⟩ := hes'
      cases hee
      simp only [VR] at hx
      obtain ⟨b, κ, he, hx⟩ := hx
      obtain ⟨arr, clk, hb, _, _, hmr⟩ := hM.map hg he
      exact ⟨arr, _, hmr, by rw [hx]; exact lookup_some ht hb⟩
  have fin : ∀ v', VR E v v' → (tailLook kt et ok (f i) arr).run P w = .ok v' w → Rok P E f o v w := fun v' hv hr => ⟨v', hv, by simp [execOp, ho, hget, hr]⟩
  rcases find_ok hok hi harr hfr with ⟨rfl, hf⟩ | ⟨j, p, l, m, e, h1, rfl, h3, h4, h5, h6, h7, h8, h9, _, hf⟩
  · have h' : (om (zeroA P et) fun z => bc ok (AV.tuple [z, .bool false]) z) = some v := h
    rw [om_some] at h'
    obtain ⟨z, hz, hv⟩ := h'
    obtain ⟨z', hz1, hz2⟩ := zeroA_ok (E := E) hz
    cases ok with
    | true =>
      rw [bc_true] at hv
      subst hv
      exact fin (.tuple #[z', .bool false]) (by simp only [VR, VRL]; exact ⟨_, rfl, z', _, rfl, hz1, _, _, rfl, rfl, rfl⟩) (by simp [tailLook, checkKey_run hok hi, hf, hz2])
    | false =>
      rw [bc_false] at hv
      subst hv
      exact fin z' hz1 (by simp [tailLook, checkKey_run hok hi, hf, hz2])
  · have h' : some (bc ok (AV.tuple [p.2, .bool true]) p.2) = some v := h
    cases h'
    have hpe := (h6 j p e h1 h7).2
    cases ok with
    | true =>
      rw [bc_true] at *
      exact fin (.tuple #[e.val, .bool true]) (by simp only [VR, VRL]; exact ⟨_, rfl, _, _, rfl, hpe, _, _, rfl, rfl, rfl⟩) (by simp [tailLook, checkKey_run hok hi, hf])
    | false =>
      rw [bc_false] at *
      exact fin e.val hpe (by simp [tailLook, checkKey_run hok hi, hf])

theorem isBytes_true {t : TypeId} (h : isBytes P t = true) : ∃ e, P.underlying t = some (.slice e) ∧ P.underlying e = some (.int .u8) := by
  unfold isBytes at h
  split at h
  · rename_i e he
    split at h
    · rename_i h2; exact ⟨e, he, h2⟩
    · cases h
  · cases h

theorem byteOfA_some {a : AV} {c : Nat} (h : byteOfA a = some c) : a = .int .u8 (Int.ofNat c) ∧ c < 256 := by
  simp only [byteOfA, onInt_some, og_some] at h
  obtain ⟨k, n, rfl, hk, h⟩ := h
  rw [(eqK_eq _ _).1 hk]
  cases n with
  | negSucc m => cases h
  | ofNat m =>
    have h' : og (Nat.ble m 255) (some m) = some c := h
    rw [og_some] at h'
    obtain ⟨hb, hc⟩ := h'
    cases hc
    exact ⟨rfl, by have := Nat.le_of_ble_eq_true hb; omega⟩

theorem bytes_fold (l : List AV) : ∀ (cs : List Nat) (l' : List Value) (s : ByteArray), mapO byteOfA l = some cs → VRL E l l' →
    l' = (cs.map fun (c : Nat) => Value.int .u8 (c : Int)) ∧ bytesN ((cs.map fun (c : Nat) => (c : Int)).foldl (fun r n => r.push (UInt8.ofNat n.toNat)) s) = bytesN s ++ cs := by
  induction l with
  | nil => intro cs l' s h hl; rw [mapO_nil] at h; cases h; simp only [VRL] at hl; subst hl; simp
  | cons x r ih =>
    intro cs l' s h hl
    simp only [mapO_cons, ob_some, om_some] at h
    obtain ⟨c, hc, q, hq, rfl⟩ := h
    simp only [VRL] at hl
    obtain ⟨y, t, rfl, hy, ht⟩ := hl
    obtain ⟨rfl, hlt⟩ := byteOfA_some hc
    simp only [VR] at hy
    subst hy
    obtain ⟨h1, h2⟩ := ih q t (s.push (UInt8.ofNat c)) hq ht
    refine ⟨by rw [h1]; rfl, ?_⟩
    rw [List.map_cons, List.foldl_cons]
    have : UInt8.ofNat ((c : Int).toNat) = UInt8.ofNat c := by simp
    rw [this, h2]
    unfold bytesN
    have h3 : (s.push (UInt8.ofNat c)).data.toList = s.data.toList ++ [UInt8.ofNat c] := by simp [ByteArray.push]
    rw [h3, List.map_append, List.append_assoc]
    simp
    omega

theorem strOf_ok (h : MR E A w) {n o len b κ cap : Nat} (hs : strOf A n o len = some v) (he : E n = some (b, κ)) : ∃ v', VR E v v' ∧ (Conv.bytesToString (.slice (some ⟨b, o, none⟩) len cap)).run P w = .ok v' w := by
  simp only [strOf, ob_some, onCells_some, om_some] at hs
  obtain ⟨_, hg, cs, g, r, rfl, l, hl, q, hq, rfl⟩ := hs
  obtain ⟨l', hl1, hl2, hl3⟩ := rd_ok (P := P) h hg he hl
  obtain ⟨h4, h5⟩ := bytes_fold l q l' ByteArray.empty hq hl1
  refine ⟨_, ?_, run_bytesToString w ⟨b, o, none⟩ len cap (q.map fun (c : Nat) => (c : Int)) ?_⟩
  · simp only [VR]
    exact ⟨_, rfl, by rw [h5]; simp [bytesN]⟩
  · rw [hl3, h4]
    simp [Function.comp_def]

theorem kToStr_ok {o : Oper} {s d : TypeId} {x : Operand} (ho : o.op = .convert s d x) (h : kToStr s d x P ρ A = some v) (hG : Good E ρ f) (hM : MR E A w) : Rok P E f o v w := by
  simp only [kToStr, og_some, ob_some, bc_and] at h
  obtain ⟨⟨hs, hd⟩, u, hu, h⟩ := h
  obtain ⟨e, he, he2⟩ := isBytes_true hs
  have hd := isStr_true hd
  have hx := hG x _ hu
  have hconv : ∀ a l c, f x = .slice a l c → (execOp f o).run P w = ((Conv.bytesToString (.slice a l c)).run P w).andThen fun a w' => .ok (.value a) w' := by
    intro a l c hfx
    simp only [execOp, ho, hfx, Sem.run_bind]
    rw [run_convert_bytes_string w s d e a l c he he2 hd]
    rfl
  have hnil : ∀ l c, (Conv.bytesToString (.slice none l c)).run P w = .ok (.string .empty) w := fun l c => rfl
  have hemp : ∀ a c, (Conv.bytesToString (.slice (some a) 0 c)).run P w = .ok (.string .empty) w := fun a c => by
    have := run_bytesToString (P := P) w a 0 c [] (by simp [loadCells, loadCellsFrom])
    simpa using this
  have hve : VR E (.str []) (.string .empty) := by simp only [VR]; exact ⟨_, rfl, rfl⟩
  rcases onSl_some.1 h with ⟨p, n, c, rfl, h2⟩ | ⟨m, q, n, eo, mc, rfl, h2⟩ | ⟨rfl, h2⟩
  · cases p with
    | none =>
      have h3 : og (Nat.beq n 0) (some (AV.str [])) = some v := h2
      rw [og_some] at h3
      obtain ⟨_, hv⟩ := h3
      cases hv
      simp only [VR] at hx
      exact ⟨_, hve, by rw [hconv _ _ _ hx, hnil]; rfl⟩
    | some p =>
      have h3 : strOf A p.1 p.2 n = some v := h2
      simp only [VR] at hx
      obtain ⟨b, κ, hE, hx⟩ := hx
      obtain ⟨v', hv, hr⟩ := strOf_ok (P := P) (cap := c) hM h3 hE
      exact ⟨v', hv, by rw [hconv _ _ _ hx, hr]; rfl⟩
  · simp only [VR] at hx
    obtain ⟨b, κ, hE, _, _, hx⟩ := hx
    obtain ⟨v', hv, hr⟩ := strOf_ok (P := P) (cap := κ - eo) hM h2 hE
    exact ⟨v', hv, by rw [hconv _ _ _ hx, hr]; rfl⟩
  · cases h2
    simp only [VR] at hx
    obtain ⟨a, c, hx⟩ := hx
    exact ⟨_, hve, by rw [hconv _ _ _ hx, hemp]; rfl⟩

theorem isMapT_true {t : TypeId} (h : isMapT P t = true) : ∃ k e, P.underlying t = some (.map k e) := by
  unfold isMapT at h
  split at h
  · rename_i k e he; exact ⟨k, e, he⟩
  · cases h

theorem kLenMap_ok {o : Oper} {c : Call} (ho : o.op = .call c) (hc : c.callee = .builtin .len) (h : kLenMap c.argTypes[0]? c.args.toList P ρ A = some v) (hG : Good E ρ f) (hM : MR E A w) : Rok P E f o v w := by
  simp only [kLenMap, ob_some, og_some, onMap_some, om_some] at h
  obtain ⟨t, ht, hmt, x, hx, u, hu, r, rfl, es, hes, rfl⟩ := h
  obtain ⟨kt, et, hd⟩ := isMapT_true hmt
  have hx0 := map_get0 (f := f) (getArg0 hx)
  have hxv := hG x _ hu
  have key : ∀ n : Nat, lenN es = n → (Builtin.len_ c.argTypes o.type (c.args.map f)).run P w = .ok (goInt n) w → Rok P E f o (intN (lenN es)) w := by
    intro n hv hr
    rw [hv]
    exact ⟨_, vr_intN E n, by simp [execOp, ho, resolve, hc, invoke, Go.builtin, hr, goInt_eq]⟩
  cases r with
  | none =>
    have : some [] = some es := hes
    cases this
    simp only [VR] at hxv
    rw [hxv] at hx0
    exact key 0 rfl (by simp [Builtin.len_, ht, hx0, run_und hd])
  | some n =>
    have hes' : (ob (A.get n) fun ob1 => onMapO ob1 fun es _ => some es) = some es := hes
    simp only [ob_some, onMapO_some] at hes'
    obtain ⟨_, hg, es', c', rfl, hee⟩ := hes'
    cases hee
    simp only [VR] at hxv
    obtain ⟨b, κ, he, hxv⟩ := hxv
    rw [hxv] at hx0
    obtain ⟨arr, clk, hb, _, _, l, hl1, hl2, _⟩ := hM.map hg he
    have hsz : arr.size = lenN es := by rw [lenN_eq, ← hl2, hl1.length_eq]; simp
    exact key arr.size hsz.symm (by simp [Builtin.len_, ht, hx0, run_und hd, run_getObj hb (by simp)])

theorem read_ok {o : Oper} (h : readA o.op P ρ A = some v) (hG : Good E ρ f) (hM : MR E A w) : Rok P E f o v w := by
  cases ho : o.op <;> rw [ho] at h <;> first | (cases h; done) | skip
  case load => exact kLoad_ok ho h hG hM
  case convert => exact kToStr_ok ho h hG hM
  case lookup => exact kLookup_ok ho h hG hM
  case call c =>
    have h' : kReadCall c P ρ A = some v := h
    cases hc : c.callee with
    | value _ => simp only [kReadCall, hc] at h'; cases h'
    | invoke _ _ => simp only [kReadCall, hc] at h'; cases h'
    | builtin b =>
      simp only [kReadCall, hc] at h'
      cases b <;> simp only at h' <;> first | (cases h'; done) | skip
      case len => exact kLenMap_ok ho hc h' hG hM
end Go.Ev
