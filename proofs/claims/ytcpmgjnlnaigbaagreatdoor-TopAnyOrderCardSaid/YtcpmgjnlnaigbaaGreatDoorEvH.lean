/- The abstract machine's operations that reckon, on: tests, parts put together; all of them. -/
import Derived.Test.YtcpmgjnlnaigbaaGreatDoorEvG
import Derived.Laws.StructEq
set_option linter.unusedVariables false
set_option linter.unusedSimpArgs false
namespace Go.Ev
open Go

variable {P : Program} {E : Ren} {ρ : Env} {f : Operand → Value} {v : AV}

theorem isNilSl_ok {x : AV} {b : Bool} {x' : Value} (h : isNilSl x = some b) (hx : VR E x x') : ∃ a l c, x' = .slice a l c ∧ a.isNone = b := by
  rcases onSl_some.1 h with ⟨p, l, c, rfl, h2⟩ | ⟨m, q, n, eo, mc, rfl, h2⟩ | ⟨rfl, h2⟩
  · cases h2
    cases p with
    | none => simp only [VR] at hx; exact ⟨_, _, _, hx, rfl⟩
    | some p => simp only [VR] at hx; obtain ⟨b, κ, _, hx⟩ := hx; exact ⟨_, _, _, hx, rfl⟩
  · cases h2
    simp only [VR] at hx; obtain ⟨b, κ, _, _, _, hx⟩ := hx; exact ⟨_, _, _, hx, rfl⟩
  · cases h2
    simp only [VR] at hx; obtain ⟨b, κ, hx⟩ := hx; exact ⟨_, _, _, hx, rfl⟩

/-- what two values that are held against each other are -/
inductive EqV : Value → Value → Prop
  | bool (a b : Bool) : EqV (.bool a) (.bool b)
  | ptr (a b : Option Addr) : EqV (.pointer a) (.pointer b)
  | slice (a : Option Addr) (l c : Nat) (b : Option Addr) (m d : Nat) : EqV (.slice a l c) (.slice b m d)
  | map (a b : Option Nat) : EqV (.map a) (.map b)
  | nn : EqV .nilIface .nilIface
  | ni (t : TypeId) (x : Value) : EqV .nilIface (.iface t x)
  | inn (t : TypeId) (x : Value) : EqV (.iface t x) .nilIface
  | agg (xs ys : Array Value) : EqV (.agg xs) (.agg ys)

theorem eqKind_bool {t : TypeId} (h : eqKind P t = .bool) : P.underlying t = some .bool := by
  unfold eqKind at h; split at h <;> first | assumption | (cases h; done) | (split at h <;> cases h)
theorem eqKind_ptr {t : TypeId} (h : eqKind P t = .ptr) : ∃ e n, P.underlying t = some (.pointer e) ∧ sizeA P e = some (n + 1) := by
  unfold eqKind at h
  split at h <;> first | (cases h; done) | skip
  rotate_left
  · split at h <;> cases h
  rename_i e he
  split at h
  · rename_i n hn; exact ⟨e, n, he, hn⟩
  · cases h
theorem eqKind_slice {t : TypeId} (h : eqKind P t = .slice) : ∃ e, P.underlying t = some (.slice e) := by
  unfold eqKind at h; split at h <;> first | (cases h; done) | (split at h <;> cases h; done) | skip
  rename_i e he; exact ⟨e, he⟩
theorem eqKind_map {t : TypeId} (h : eqKind P t = .map) : ∃ k e, P.underlying t = some (.map k e) := by
  unfold eqKind at h; split at h <;> first | (cases h; done) | (split at h <;> cases h; done) | skip
  rename_i k e he; exact ⟨k, e, he⟩
theorem eqKind_iface {t : TypeId} (h : eqKind P t = .iface) : ∃ ms, P.underlying t = some (.interface ms) := by
  unfold eqKind at h; split at h <;> first | (cases h; done) | (split at h <;> cases h; done) | skip
  rename_i e he; exact ⟨e, he⟩

theorem eqKind_flat {t : TypeId} {ks : List ScK} (h : eqKind P t = .flat ks) : structKs P t = some ks := by
  unfold eqKind at h; split at h <;> first | (cases h; done) | (split at h <;> cases h; done) | skip
  split at h
  · rename_i k hk; cases h; exact hk
  · cases h
theorem structKs_some {t : TypeId} {ks : List ScK} (h : structKs P t = some ks) : ∃ fs, P.underlying t = some (.struct fs) ∧ P.stoodInHeld t = false ∧ P.eqGuardType P.depth t = false ∧ flatKs P fs.toList 0 = some ks := by
  unfold structKs at h
  split at h
  · rename_i fs hfs
    rw [og_some, Bool.and_eq_true, Bool.not_eq_true', Bool.not_eq_true'] at h
    exact ⟨fs, hfs, h.1.1, h.1.2, h.2⟩
  · cases h

theorem scalar_run {k : ScK} {t : TypeId} {u v : AV} {u' v' : Value} {b : Bool} (hk : scK P t = some k) (hf : fitK k u = true) (h : scalarEq u v = some b) (hu : VR E u u') (hv : VR E v v') (d : Nat) (w : World) : (Op.equalIn (d + 1) t u' v').run P w = .ok b w := by
  unfold scK at hk
  split at hk <;> cases hk
  · rename_i ht
    cases u <;> first | (cases hf; done) | skip
    obtain ⟨y, rfl, h2⟩ := onBool_some.1 (show onBool v _ = some b from h)
    cases h2
    simp only [VR] at hu hv
    subst hu hv
    exact run_equalIn_bool' w d t _ _ ht
  · rename_i j ht
    cases u <;> first | (cases hf; done) | skip
    rename_i k1 n1
    obtain ⟨k2, n2, rfl, h2⟩ := onInt_some.1 (show onInt v (fun j y => bc (eqK k1 j) (some (eqI n1 y)) none) = some b from h)
    cases hkk : eqK k1 k2 with
    | false => rw [hkk, bc_false] at h2; cases h2
    | true =>
      rw [hkk, bc_true] at h2
      cases h2
      have := (eqK_eq _ _).1 hkk
      subst this
      simp only [VR] at hu hv
      subst hu hv
      rw [run_equalIn_int w d t k1 j n1 n2 ht]
      rw [eqI_eq]
  · rename_i ht
    cases u <;> first | (cases hf; done) | skip
    obtain ⟨y, rfl, h2⟩ := onStr_some.1 (show onStr v _ = some b from h)
    cases h2
    simp only [VR] at hu hv
    obtain ⟨s1, rfl, rfl⟩ := hu
    obtain ⟨s2, rfl, rfl⟩ := hv
    rw [run_equalIn_string w d t s1 s2 ht]
    congr 1
    rw [Bool.eq_iff_iff, beq_iff_eq, eqS_eq, decide_eq_true_eq, ByteArray.toList_eq, ByteArray.toList_eq]
    exact ⟨fun h => by unfold bytesN; rw [h], fun h => toNat_inj h⟩

theorem fields_run {xs ys : Array Value} (d : Nat) (w : World) : ∀ (fs : List Field) (k : Nat) (ks : List ScK) (a b : List AV) (r : Bool), flatKs P fs k = some ks → flatEq ks a b = some r → VRL E a (xs.toList.drop k) → VRL E b (ys.toList.drop k) → (Op.eqFields (d + 1) xs ys fs).run P w = .ok r w
  | [], k, ks, a, b, r, h1, h2, ha, hb => by
    cases h1
    cases h2
    rfl
  | f :: fs, k, ks, a, b, r, h1, h2, ha, hb => by
    simp only [flatKs, og_some, ob_some, om_some, Bool.and_eq_true, Nat.beq_eq] at h1
    obtain ⟨⟨hn, ho⟩, s, hs, l, hl, rfl⟩ := h1
    cases a with
    | nil => cases h2
    | cons x a =>
      cases b with
      | nil => cases h2
      | cons y b =>
        have h3 : og (fitK s x) (ob (scalarEq x y) fun e => bc e (flatEq l a b) (some false)) = some r := h2
        rw [og_some, ob_some] at h3
        obtain ⟨hfit, e, he, h4⟩ := h3
        simp only [VRL] at ha hb
        obtain ⟨x', ra, hxa, hx1, hx2⟩ := ha
        obtain ⟨y', rb, hyb, hy1, hy2⟩ := hb
        have hxk : xs[k]? = some x' := by
          have : (xs.toList.drop k)[0]? = some x' := by rw [hxa]; rfl
          rw [List.getElem?_drop] at this
          simpa using this
        have hyk : ys[k]? = some y' := by
          have : (ys.toList.drop k)[0]? = some y' := by rw [hyb]; rfl
          rw [List.getElem?_drop] at this
          simpa using this
        have hdx : xs.toList.drop (k + 1) = ra := by rw [← List.tail_drop, hxa]; rfl
        have hdy : ys.toList.drop (k + 1) = rb := by rw [← List.tail_drop, hyb]; rfl
        have hagg : ∀ w, (isAgg f.type).run P w = .ok false w := fun w => by
          unfold scK at hs
          split at hs <;> cases hs <;> (rename_i ht; simp [isAgg, run_und ht])
        have hpx : (part f.type xs f.offset).run P w = .ok x' w := by simp [part, hagg, ho, hxk]
        have hpy : (part f.type ys f.offset).run P w = .ok y' w := by simp [part, hagg, ho, hyk]
        have hname : f.name ≠ "_" := by simpa using hn
        simp only [Op.eqFields, if_pos hname, Sem.run_bind, hpx, hpy, Result.andThen_ok, scalar_run hs hfit he hx1 hy1 d w]
        cases e with
        | false => rw [bc_false] at h4; cases h4; rfl
        | true =>
          rw [bc_true] at h4
          simp only [Bool.not_true, Bool.false_eq_true, if_false]
          exact fields_run d w fs (k + 1) l a b r hl h4 (by rw [hdx]; exact hx2) (by rw [hdy]; exact hy2)

theorem equal_of {t : TypeId} {x y : Value} {b : Bool} (h : ∀ (d : Nat) w, (Op.equalIn (d + 1) t x y).run P w = .ok b w) : ∀ w, (Op.equal t x y).run P w = .ok b w := fun w => h 9999 w

theorem equal_ok {t : TypeId} {c : Bool} {x y : AV} {b : Bool} {x' y' : Value} (h : eqA (eqKind P t) c x y = some b) (hx : VR E x x') (hy : VR E y y') :
    EqV x' y' ∧ (x' = .nilIface → y' = .nilIface → c = true) ∧ ∀ w, (Op.equal t x' y').run P w = .ok b w := by
  cases hk : eqKind P t with
  | none => rw [hk] at h; cases h
  | flat ks =>
    rw [hk] at h
    obtain ⟨a, rfl, h2⟩ := onAgg_some.1 (show onAgg x _ = some b from h)
    obtain ⟨d, rfl, h3⟩ := onAgg_some.1 h2
    obtain ⟨fs, hfs, h4, h5, h6⟩ := structKs_some (eqKind_flat hk)
    simp only [VR] at hx hy
    obtain ⟨xs, rfl, hx⟩ := hx
    obtain ⟨ys, rfl, hy⟩ := hy
    have hfo : P.fieldsOf t = fs := by simp [Program.fieldsOf, hfs]
    refine ⟨.agg _ _, by simp, fun w => ?_⟩
    show (Op.equalIn (9998 + 1 + 1) t _ _).run P w = _
    rw [run_equalIn_struct w 9999 t xs ys (by rw [hfo]; exact hfs) h4, hfo]
    exact fields_run 9998 w _ 0 ks a d b h6 h3 (by simpa using hx) (by simpa using hy)
  | bool =>
    rw [hk] at h
    obtain ⟨a, rfl, h2⟩ := onBool_some.1 h
    obtain ⟨d, rfl, h3⟩ := onBool_some.1 h2
    cases h3
    simp only [VR] at hx hy
    subst hx hy
    exact ⟨.bool _ _, by simp, equal_of fun d w => by simp [Op.equalIn, run_und (eqKind_bool hk)]⟩
  | ptr =>
    rw [hk] at h
    obtain ⟨e, n, he, hn⟩ := eqKind_ptr hk
    cases x <;> first | (cases h; done) | skip
    rename_i a
    cases y <;> first | (cases h; done) | skip
    rename_i d
    have h2 : eqPtr a d = some b := h
    cases a with
    | none =>
      simp only [eqPtr, Option.some.injEq] at h2
      subst h2
      simp only [VR] at hx
      subst hx
      cases d with
      | none => simp only [VR] at hy; subst hy; exact ⟨.ptr _ _, by simp, equal_of fun d w => by simp [Op.equalIn, run_und he]⟩
      | some q => simp only [VR] at hy; obtain ⟨b, κ, _, rfl⟩ := hy; exact ⟨.ptr _ _, by simp, equal_of fun d w => by simp [Op.equalIn, run_und he]⟩
    | some p =>
      simp only [VR] at hx
      obtain ⟨b1, κ1, hE1, rfl⟩ := hx
      cases d with
      | none =>
        simp only [eqPtr, Option.some.injEq] at h2
        subst h2
        simp only [VR] at hy
        subst hy
        exact ⟨.ptr _ _, by simp, equal_of fun d w => by simp [Op.equalIn, run_und he]⟩
      | some q =>
        simp only [VR] at hy
        obtain ⟨b2, κ2, hE2, rfl⟩ := hy
        simp only [eqPtr] at h2
        rw [bc_ite] at h2
        split at h2
        case isFalse => cases h2
        rename_i hpq
        have hpq := Nat.eq_of_beq_eq_true hpq
        cases h2
        rw [hpq, hE2] at hE1
        cases hE1
        refine ⟨.ptr _ _, by simp, equal_of fun d w => ?_⟩
        have : ((⟨b1, p.2, none⟩ : Addr) == ⟨b1, q.2, none⟩) = Nat.beq p.2 q.2 := by
          rw [Bool.eq_iff_iff, beq_iff_eq, Nat.beq_eq]
          constructor
          · intro h; injection h
          · intro h; rw [h]
        simp [Op.equalIn, run_und he, sizeA_some hn, sameAddr, this]
  | slice =>
    rw [hk] at h
    obtain ⟨e, he⟩ := eqKind_slice hk
    have h2 : (ob (isNilSl x) fun a => ob (isNilSl y) fun d => bc a (some d) (bc d (some false) none)) = some b := h
    simp only [ob_some] at h2
    obtain ⟨a, ha, d, hd, h3⟩ := h2
    obtain ⟨p, l, c1, rfl, rfl⟩ := isNilSl_ok ha hx
    obtain ⟨q, m, c2, rfl, rfl⟩ := isNilSl_ok hd hy
    refine ⟨.slice _ _ _ _ _ _, by simp, equal_of fun d w => ?_⟩
    cases p with
    | none =>
      rw [show (none : Option Addr).isNone = true from rfl, bc_true] at h3
      cases h3
      simp [Op.equalIn, run_und he]
    | some p =>
      rw [show (some p).isNone = false from rfl, bc_false] at h3
      cases q with
      | none =>
        rw [show (none : Option Addr).isNone = true from rfl, bc_true] at h3
        cases h3
        simp [Op.equalIn, run_und he]
      | some q => rw [show (some q).isNone = false from rfl, bc_false] at h3; cases h3
  | map =>
    rw [hk] at h
    obtain ⟨k, e, he⟩ := eqKind_map hk
    obtain ⟨p, rfl, h2⟩ := onMap_some.1 h
    obtain ⟨q, rfl, h3⟩ := onMap_some.1 h2
    have hp : ∃ p', x' = .map p' ∧ p'.isNone = p.isNone := by
      cases p with
      | none => simp only [VR] at hx; exact ⟨_, hx, rfl⟩
      | some n => simp only [VR] at hx; obtain ⟨b, κ, _, hx⟩ := hx; exact ⟨_, hx, rfl⟩
    have hq : ∃ p', y' = .map p' ∧ p'.isNone = q.isNone := by
      cases q with
      | none => simp only [VR] at hy; exact ⟨_, hy, rfl⟩
      | some n => simp only [VR] at hy; obtain ⟨b, κ, _, hy⟩ := hy; exact ⟨_, hy, rfl⟩
    obtain ⟨p', rfl, hp⟩ := hp
    obtain ⟨q', rfl, hq⟩ := hq
    rw [← hp, ← hq] at h3
    refine ⟨.map _ _, by simp, equal_of fun d w => ?_⟩
    cases p' with
    | none =>
      rw [show (none : Option Nat).isNone = true from rfl, bc_true] at h3
      cases h3
      simp [Op.equalIn, run_und he]
    | some p =>
      rw [show (some p).isNone = false from rfl, bc_false] at h3
      cases q' with
      | none =>
        rw [show (none : Option Nat).isNone = true from rfl, bc_true] at h3
        cases h3
        simp [Op.equalIn, run_und he]
      | some q => rw [show (some q).isNone = false from rfl, bc_false] at h3; cases h3
  | iface =>
    rw [hk] at h
    obtain ⟨ms, he⟩ := eqKind_iface hk
    cases x <;> first | (cases h; done) | skip
    · rename_i t1 x1
      cases y <;> first | (cases h; done) | skip
      cases h
      simp only [VR] at hx hy
      obtain ⟨x2, rfl, _⟩ := hx
      subst hy
      exact ⟨.inn _ _, by simp, equal_of fun d w => by simp [Op.equalIn, run_und he]⟩
    · cases y <;> first | (cases h; done) | skip
      · cases h
        simp only [VR] at hx hy
        obtain ⟨x2, rfl, _⟩ := hy
        subst hx
        exact ⟨.ni _ _, by simp, equal_of fun d w => by simp [Op.equalIn, run_und he]⟩
      · have h2 : bc c (some true) none = some b := h
        cases c with
        | false => cases h2
        | true =>
          cases h2
          simp only [VR] at hx hy
          subst hx hy
          exact ⟨.nn, fun _ _ => rfl, equal_of fun d w => by simp [Op.equalIn, run_und he]⟩

theorem agg_guard {t : TypeId} {c : Bool} {x y : AV} {b : Bool} {x' : Value} (h : eqA (eqKind P t) c x y = some b) (hx : VR E x x') (ha : ∃ xs, x' = .agg xs) : P.eqGuardType P.depth t = false := by
  obtain ⟨xs, rfl⟩ := ha
  cases hk : eqKind P t with
  | flat ks => obtain ⟨fs, _, _, h5, _⟩ := structKs_some (eqKind_flat hk); exact h5
  | _ =>
    exfalso
    rw [hk] at h
    cases x <;> first | (cases h; done) | skip
    all_goals
      first
      | (rename_i p; cases p <;> simp [VR] at hx; done)
      | (rename_i p _ _; cases p <;> simp [VR] at hx; done)
      | (simp [VR] at hx; done)

theorem isConstO_true {x : Operand} (h : isConstO x = true) : ∃ c, x = .const c := by cases x <;> first | exact ⟨_, rfl⟩ | cases h

theorem eqGuard_ok {op : BinOp} {t : TypeId} {x y : Operand} {x' y' : Value} (h : EqV x' y') (hc : x' = .nilIface → y' = .nilIface → bc (isConstO x) true (isConstO y) = true) (hg : (∃ xs, x' = .agg xs) → P.eqGuardType P.depth t = false) (w : World) :
    (eqGuard op t x y x' y').run P w = .ok () w := by
  cases h with
  | nn =>
    have := hc rfl rfl
    cases hx : isConstO x with
    | true => obtain ⟨c, rfl⟩ := isConstO_true hx; rw [eqGuard_nil_constL]; rfl
    | false =>
      rw [hx, bc_false] at this
      obtain ⟨c, rfl⟩ := isConstO_true this
      rw [eqGuard_nil_constR]; rfl
  | bool a b => rw [eqGuard_at_bool]; rfl
  | ptr a b => rw [eqGuard_at_pointer]; rfl
  | slice => rw [eqGuard_at_slice]; rfl
  | map => rw [eqGuard_at_map]; rfl
  | ni => rw [eqGuard_nil_iface]; rfl
  | inn => rw [eqGuard_at_iface]; rfl
  | agg xs ys => exact run_eqGuard_agg w op t x y xs ys (hg ⟨xs, rfl⟩)

theorem binOp_eql_run {t : TypeId} {x y : Value} {b : Bool} (hv : EqV x y) (h : ∀ w, (Op.equal t x y).run P w = .ok b w) (w : World) : (binOp .eql t x y).run P w = .ok (.bool b) w := by
  cases hv <;> simp [binOp, h]
theorem binOp_neq_run {t : TypeId} {x y : Value} {b : Bool} (hv : EqV x y) (h : ∀ w, (Op.equal t x y).run P w = .ok b w) (w : World) : (binOp .neq t x y).run P w = .ok (.bool (!b)) w := by
  cases hv <;> simp [binOp, h]

theorem twoK_int {x : AV} (h : twoK x = .int) : ∃ k n, x = .int k n := by cases x <;> first | exact ⟨_, _, rfl⟩ | cases h
theorem twoK_str {x : AV} (h : twoK x = .str) : ∃ l, x = .str l := by cases x <;> first | exact ⟨_, rfl⟩ | cases h

theorem intB_f (op : BinOp) : (intB op).f = intBinA op := by cases op <;> rfl
theorem binIntB_f {op : BinOp} {x y : AV} {v : AV} (h : (binIntB op).f x y = some v) : binInt op x y = some v := by
  unfold binIntB at h
  unfold binInt
  cases hs : isShift op with
  | true => rw [hs, bc_true] at h; simp only [bc_true]; exact h
  | false =>
    rw [hs, bc_false] at h
    simp only [bc_false]
    rw [← intB_f]
    generalize intB op = z at *
    cases z; exact h
theorem binInt_int {op : BinOp} {x y : AV} {v : AV} (h : binInt op x y = some v) (k : EqK) (c : Bool) : binA op k c x y = some v := by
  have h2 := h
  simp only [binInt, ob_some] at h2
  obtain ⟨p, hp, _⟩ := h2
  rw [asInt_some] at hp
  subst hp
  exact h
theorem binB_some {op : BinOp} {t : TypeId} {c : Bool} {x y : AV} {v : AV} (h : Bx.rec (motive := fun _ => Option AV) (fun f => f x y) (binB P op t c) = some v) : binA op (eqKind P t) c x y = some v := by
  have h' : (binB P op t c).f x y = some v := by generalize binB P op t c = z at *; cases z; exact h
  unfold binB at h'
  split at h'
  · exact binInt_int (binIntB_f h') _ _
  · exact h'

theorem kBin_ok {o : Oper} {op : BinOp} {t t2 : TypeId} {x y : Operand} (ho : o.op = .binOp op t x y t2) (h : kBin op t x y t2 P ρ = some v) (hG : Good E ρ f) : Pok P E f o v := by
  simp only [kBin, ob_some] at h
  obtain ⟨a, ha, b, hb, h⟩ := h
  have hx := hG x _ ha
  have hy := hG y _ hb
  have h := binB_some h
  unfold binA at h
  cases hk : twoK a with
  | int =>
    obtain ⟨k, n, rfl⟩ := twoK_int hk
    have h2 : binInt op (.int k n) b = some v := h
    simp only [binInt, ob_some] at h2
    obtain ⟨p, hp, q, hq, h2⟩ := h2
    rw [asInt_some] at hp hq
    cases hp
    subst hq
    simp only [VR] at hx hy
    cases hs : isShift op with
    | true =>
      rw [hs, bc_true] at h2
      obtain ⟨v', hv, hr⟩ := shift_ok (P := P) (E := E) (j := q.1) t h2
      refine ⟨v', hv, fun w => ?_⟩
      have hg : eqGuard op t x y (.int p.1 p.2) (.int q.1 q.2) = pure () := eqGuard_at_int ..
      simp [execOp, ho, hx, hy, hg, hr]
    | false =>
      rw [hs, bc_false, bc_ite] at h2
      split at h2
      case isFalse => cases h2
      rename_i hkk
      have hkk := (eqK_eq _ _).1 hkk
      obtain ⟨v', hv, hr⟩ := intBin_ok (P := P) (E := E) t hs h2
      refine ⟨v', hv, fun w => ?_⟩
      have hg : eqGuard op t x y (.int p.1 p.2) (.int q.1 q.2) = pure () := eqGuard_at_int ..
      simp only [execOp, ho, hx, hy, hg]
      rw [← hkk]
      simp [hr]
  | str =>
    obtain ⟨l, rfl⟩ := twoK_str hk
    have h2 : binStr op (.str l) b = some v := h
    simp only [binStr, ob_some] at h2
    obtain ⟨p, hp, q, hq, h2⟩ := h2
    rw [asStr_some] at hp hq
    cases hp
    subst hq
    simp only [VR] at hx hy
    obtain ⟨s, hx, rfl⟩ := hx
    obtain ⟨s2, hy, rfl⟩ := hy
    obtain ⟨v', hv, hr⟩ := strBin_ok (P := P) (E := E) t h2
    refine ⟨v', hv, fun w => ?_⟩
    have hg : eqGuard op t x y (.string s) (.string s2) = pure () := eqGuard_at_string ..
    simp [execOp, ho, hx, hy, hg, hr]
  | other =>
    rw [hk] at h
    have h2 : eqOp op (eqA (eqKind P t) (bc (isConstO x) true (isConstO y)) a b) = some v := h
    unfold eqOp at h2
    split at h2
    · obtain ⟨r, hr, rfl⟩ := om_some.1 h2
      obtain ⟨h3, h4, h5⟩ := equal_ok hr hx hy
      exact ⟨_, vr_bool _ _, fun w => by simp [execOp, ho, eqGuard_ok h3 h4 (agg_guard hr hx), binOp_eql_run h3 h5]⟩
    · obtain ⟨r, hr, rfl⟩ := om_some.1 h2
      obtain ⟨h3, h4, h5⟩ := equal_ok hr hx hy
      exact ⟨_, vr_bool _ _, fun w => by simp [execOp, ho, eqGuard_ok h3 h4 (agg_guard hr hx), binOp_neq_run h3 h5]⟩
    · cases h2

/-- cells laid into others -/
theorem foldl_cells (vs : List Value) : ∀ (off j : Nat) (cs : Array Value), (vs.zipIdx j).foldl (fun cs (p : Value × Nat) => cs.setIfInBounds (off + p.2) p.1) cs = (vs.zipIdx j).foldl (fun cs (p : Value × Nat) => cs.setIfInBounds (off + p.2) p.1) cs := fun _ _ _ => rfl
theorem splice_get (vs : List Value) : ∀ (off j : Nat) (cs : Array Value) (i : Nat),
    ((vs.zipIdx j).foldl (fun cs (p : Value × Nat) => cs.setIfInBounds (off + p.2) p.1) cs)[i]? = if off + j ≤ i ∧ i < off + j + vs.length ∧ i < cs.size then vs[i - (off + j)]? else cs[i]? := by
  induction vs with
  | nil => intro off j cs i; rw [if_neg (by simp; omega)]; rfl
  | cons v r ih =>
    intro off j cs i
    rw [List.zipIdx_cons, List.foldl_cons, ih]
    simp only [Array.size_setIfInBounds, List.length_cons]
    by_cases h1 : off + (j + 1) ≤ i ∧ i < off + (j + 1) + r.length ∧ i < cs.size
    · rw [if_pos h1, if_pos (by omega)]
      obtain ⟨m, hm⟩ : ∃ m, i = off + (j + 1) + m := ⟨i - (off + (j + 1)), by omega⟩
      rw [hm, show off + (j + 1) + m - (off + (j + 1)) = m by omega, show off + (j + 1) + m - (off + j) = m + 1 by omega]
      simp
    · rw [if_neg h1]
      by_cases h2 : i = off + j
      · subst h2
        by_cases h3 : off + j < cs.size
        · rw [if_pos (by omega)]
          simp [h3]
        · rw [if_neg (by omega)]
          simp [h3]
      · rw [if_neg (by omega), Array.getElem?_setIfInBounds_ne (fun e => h2 e.symm)]

theorem splice_size (off : Nat) (L : List (Value × Nat)) : ∀ cs : Array Value, (L.foldl (fun cs (p : Value × Nat) => cs.setIfInBounds (off + p.2) p.1) cs).size = cs.size := by
  induction L with
  | nil => intro cs; rfl
  | cons x r ih => intro cs; rw [List.foldl_cons, ih]; simp

theorem fill_ok (place : Nat → Option (Nat × Nat)) : ∀ (l : List (Nat × AV)) (l' : List (Nat × Value)) (cells : List AV) (cells' : Array Value) (r : List AV),
    fillAll place l cells = some r → l'.length = l.length → (∀ (i : Nat) (p : Nat × AV) (p' : Nat × Value), l[i]? = some p → l'[i]? = some p' → p'.1 = p.1 ∧ VR E p.2 p'.2) → VRL E cells cells'.toList →
    ∃ r', Instr.fill place cells' l' = some r' ∧ VRL E r r'.toList := by
  intro l
  induction l with
  | nil =>
    intro l' cells cells' r h hl hp hc
    have : l' = [] := by simpa using hl
    subst this
    have h' : some cells = some r := h
    cases h'
    exact ⟨cells', rfl, hc⟩
  | cons p s ih =>
    intro l' cells cells' r h hl hp hc
    cases l' with
    | nil => simp at hl
    | cons p' s' =>
      obtain ⟨i', v'⟩ := p'
      have h' : (ob (place p.1) fun q => ob (fillA q.2 cells q.1 p.2) (fillAll place s)) = some r := h
      simp only [ob_some] at h'
      obtain ⟨q, hq, c1, hc1, h2⟩ := h'
      obtain ⟨e1, hv⟩ := hp 0 p (i', v') (by simp) (by simp)
      simp only at e1 hv
      unfold fillA at hc1
      rw [og_some] at hc1
      obtain ⟨hb, hc1⟩ := hc1
      rw [Bool.and_eq_true, Nat.beq_eq, Nat.ble_eq, lenN_eq, lenN_eq] at hb
      obtain ⟨hb1, hb2⟩ := hb
      have hcv := VRL.cells hv
      have hlen := hcv.length
      have hclen := hc.length
      rw [Array.length_toList] at hlen hclen
      cases hc1
      have hnew : VRL E (takeN q.1 cells ++ cellsA p.2 ++ dropN (q.1 + q.2) cells) (v'.cells.zipIdx.foldl (fun cs (c, j) => cs.setIfInBounds (q.1 + j) c) cells').toList := by
        refine VRL.of_get ?_ ?_
        · rw [takeN_eq, dropN_eq]
          have : (v'.cells.zipIdx.foldl (fun cs (c, j) => cs.setIfInBounds (q.1 + j) c) cells').size = cells'.size := by
            rw [← Array.foldl_toList]
            exact splice_size _ _ _
          rw [Array.length_toList, this]
          simp
          omega
        · intro i a b ha hb
          rw [takeN_eq, dropN_eq] at ha
          have hb' : (v'.cells.zipIdx.foldl (fun cs (c, j) => cs.setIfInBounds (q.1 + j) c) cells')[i]? = some b := by simpa using hb
          rw [← Array.foldl_toList, Array.toList_zipIdx, splice_get] at hb'
          simp only [Nat.add_zero, Array.length_toList] at hb'
          rw [List.append_assoc, List.getElem?_append] at ha
          simp only [List.length_take] at ha
          split at ha
          · rename_i h5
            rw [if_neg (by omega)] at hb'
            rw [List.getElem?_take, if_pos (by omega)] at ha
            obtain ⟨w, hw, hr⟩ := hc.get ha
            have : cells'[i]? = some w := by simpa using hw
            rw [this] at hb'
            cases hb'
            exact hr
          · rename_i h5
            rw [List.getElem?_append] at ha
            split at ha
            · rename_i h6
              rw [if_pos (by omega)] at hb'
              rw [show i - min q.1 cells.length = i - q.1 by omega] at ha
              obtain ⟨w, hw, hr⟩ := hcv.get ha
              rw [hw] at hb'
              cases hb'
              exact hr
            · rename_i h6
              rw [if_neg (by omega)] at hb'
              rw [List.getElem?_drop, show q.1 + q.2 + (i - min q.1 cells.length - (cellsA p.2).length) = i by omega] at ha
              obtain ⟨w, hw, hr⟩ := hc.get ha
              have : cells'[i]? = some w := by simpa using hw
              rw [this] at hb'
              cases hb'
              exact hr
      obtain ⟨r', h3, h4⟩ := ih s' _ (v'.cells.zipIdx.foldl (fun cs (c, j) => cs.setIfInBounds (q.1 + j) c) cells') r h2 (by simpa using hl) (fun i a b ha hb => hp (i + 1) a b (by simpa using ha) (by simpa using hb)) hnew
      refine ⟨r', ?_, h4⟩
      subst e1
      rw [Instr.fill, hq]
      simp only
      rw [if_neg (by simp; omega)]
      exact h3

theorem partsO_ok {parts : Array (Nat × Operand)} {ps : List (Nat × AV)} (hG : Good E ρ f) (h : partsO ρ parts = some ps) :
    (parts.map fun (i, x) => (i, f x)).toList.length = ps.length ∧ ∀ (i : Nat) (p : Nat × AV) (p' : Nat × Value), ps[i]? = some p → (parts.map fun (i, x) => (i, f x)).toList[i]? = some p' → p'.1 = p.1 ∧ VR E p.2 p'.2 := by
  unfold partsO at h
  rw [Array.toList_map]
  generalize parts.toList = L at h ⊢
  induction L generalizing ps with
  | nil => rw [mapO_nil] at h; cases h; simp
  | cons x r ih =>
    simp only [mapO_cons, ob_some, om_some] at h
    obtain ⟨y, ⟨u, hu, rfl⟩, q, hq, rfl⟩ := h
    obtain ⟨h1, h2⟩ := ih hq
    refine ⟨by simp at h1 ⊢; exact h1, fun i p p' hp hp' => ?_⟩
    cases i with
    | zero => simp at hp hp'; subst hp hp'; exact ⟨rfl, hG _ _ hu⟩
    | succ i => exact h2 i p p' (by simpa using hp) (by simpa using hp')

theorem zeroA_ok {t : TypeId} {z : AV} (h : zeroA P t = some z) : ∃ z', VR E z z' ∧ ∀ w, (zeroValue t).run P w = .ok z' w := by
  unfold zeroA at h
  rw [Option.bind_eq_some_iff] at h
  obtain ⟨z', hz, h⟩ := h
  rw [Option.bind_eq_some_iff] at hz
  obtain ⟨i, hi, hz⟩ := hz
  exact ⟨z', absV_ok E _ _ h, fun w => by simp [zeroValue, typeInfo, hi, hz]⟩

theorem places_run {fs : Array Field} (h : fs.toList.all (fun g => (sizeA P g.type).isSome) = true) (w : World) :
    (fs.mapM fun g => do pure (g.offset, ← sizeOf g.type) : Sem (Array (Nat × Nat))).run P w = .ok (fs.map fun g => (g.offset, (sizeA P g.type).getD 0)) w := by
  rw [Array.mapM_eq_mapM_toList]
  have : ∀ l : List Field, l.all (fun g => (sizeA P g.type).isSome) = true → (l.mapM fun g => do pure (g.offset, ← sizeOf g.type) : Sem (List (Nat × Nat))).run P w = .ok (l.map fun g => (g.offset, (sizeA P g.type).getD 0)) w := by
    intro l
    induction l with
    | nil => intro _; rfl
    | cons g r ih =>
      intro hl
      rw [List.all_cons, Bool.and_eq_true] at hl
      obtain ⟨s, hs⟩ := Option.isSome_iff_exists.1 hl.1
      rw [List.mapM_cons]
      simp only [Sem.run_bind, sizeA_some hs, Result.andThen_ok, Sem.run_pure, ih hl.2]
      simp [hs]
  rw [Sem.run_map, this _ h]
  rw [Result.andThen_ok]
  congr 1
  apply Array.toList_inj.1
  simp

theorem kBuild_ok {o : Oper} {t : TypeId} {parts : Array (Nat × Operand)} (ho : o.op = .build t parts) (h : kBuild t parts P ρ = some v) (hG : Good E ρ f) : Pok P E f o v := by
  simp only [kBuild, og_some, ob_some, om_some] at h
  obtain ⟨hb, ps, hps, z, hz, r, hr, rfl⟩ := h
  obtain ⟨h1, h2⟩ := partsO_ok hG hps
  obtain ⟨z', hz1, hz2⟩ := zeroA_ok (E := E) hz
  have hcz := VRL.cells hz1
  unfold buildOk at hb
  have fin : ∀ place, (∀ w cells, Instr.fill place z'.cells (parts.map fun (i, x) => (i, f x)).toList = some cells → (Instr.build t (parts.map fun (i, x) => (i, f x))).run P w = .ok (.agg cells) w) → fillAll place ps (cellsA z) = some r → Pok P E f o (.agg r) := by
    intro place hp hf
    obtain ⟨r', h3, h4⟩ := fill_ok place ps _ _ z'.cells r hf h1 h2 hcz
    exact ⟨.agg r', by simp only [VR]; exact ⟨r', rfl, h4⟩, fun w => by simp [execOp, ho, hp w r' h3]⟩
  split at hb
  · rename_i fs hfs
    refine fin (fun i => ((fs.map fun g => (g.offset, (sizeA P g.type).getD 0)))[i]?) (fun w cells hc => ?_) ?_
    · simp only [Instr.build, Sem.run_bind, hz2, Result.andThen_ok, run_und hfs, places_run hb]
      rw [hc]
      rfl
    · rw [← hr]
      congr 1
      funext i
      unfold placeS
      rw [hfs]
      simp only [Array.getElem?_map]
      cases hfi : fs[i]? with
      | none => rfl
      | some g =>
        have : (sizeA P g.type).isSome = true := by
          rw [List.all_eq_true] at hb
          exact hb g (by rw [Array.mem_toList_iff]; exact Array.mem_of_getElem? hfi)
        obtain ⟨s, hs⟩ := Option.isSome_iff_exists.1 this
        show some (g.offset, (sizeA P g.type).getD 0) = om (sizeA P g.type) fun s => (g.offset, s)
        rw [hs]
        rfl
  · rename_i n e he
    obtain ⟨s, hs⟩ := Option.isSome_iff_exists.1 hb
    refine fin (fun i => some (i * s, s)) (fun w cells hc => ?_) ?_
    · simp only [Instr.build, Sem.run_bind, hz2, Result.andThen_ok, run_und he, sizeA_some hs]
      rw [hc]
      rfl
    · rw [← hr]
      congr 1
      funext i
      unfold placeS
      rw [he]
      show _ = om (sizeA P e) fun s => (i * s, s)
      rw [hs]
      rfl
  · cases hb

theorem pure_ok {o : Oper} (h : pureA o.op P ρ = some v) (hc : cls P o.op = .pure) (hG : Good E ρ f) : Pok P E f o v := by
  cases ho : o.op <;> rw [ho] at h hc <;> first | (cases h; done) | (cases hc; done) | skip
  case move => exact kMove_ok (.inl ho) h hG
  case assign => exact kMove_ok (.inr ho) h hG
  case pick => exact kPick_ok ho h hG
  case build => exact kBuild_ok ho h hG
  case nilCheck => exact kNil_ok ho h hG
  case binOp => exact kBin_ok ho h hG
  case unOp => exact kUn_ok ho h hG
  case convert s d x => exact kConv_ok ho h hG
  case makeInterface => exact kIface_ok ho h hG
  case makeFunc => exact kFunc_ok ho h hG
  case slice => exact kSlice_ok ho h hG
  case fieldAddr => exact kFieldAddr_ok ho h hG
  case field => exact kField_ok ho h hG
  case indexAddr => exact kIndexAddr_ok ho h hG
  case index => exact kIndex_ok ho h hG
  case extract => exact kExtract_ok ho h hG
  case call c =>
    cases hcc : c.callee with
    | value _ => simp only [cls, hcc] at hc; cases hc
    | invoke _ _ => simp only [cls, hcc] at hc; cases hc
    | builtin b =>
      have h' : kCall c P ρ = some v := h
      simp only [kCall, hcc] at h'
      cases b <;> simp only at h' <;> first | (cases h'; done) | skip
      case len => exact kLen_ok ho hcc h' hG
      case cap => exact kCap_ok ho hcc h' hG
      case max => exact kMm_ok true ho hcc h' hG
      case min => exact kMm_ok false ho hcc h' hG
end Go.Ev
