/- The abstract machine's operations that reckon, on: slices, parts put together, lengths, tests. -/
import Derived.Test.YtcpmgjnlnaigbaaGreatDoorEvF
set_option linter.unusedVariables false
set_option linter.unusedSimpArgs false
namespace Go.Ev
open Go

variable {P : Program} {E : Ren} {ρ : Env} {f : Operand → Value} {v : AV}

/-- an operand that may be missing -/
def OptR (E : Ren) (a : Option AV) (c : Option Value) : Prop := match a, c with
  | none, none => True
  | some x, some y => VR E x y
  | _, _ => False

theorem optO_good {x : Option Operand} {a : Option AV} (hG : Good E ρ f) (h : optO ρ x = some a) : OptR E a (x.map f) := by
  cases x with
  | none => simp only [optO, Option.some.injEq] at h; subst h; trivial
  | some y =>
    simp only [optO, om_some] at h
    obtain ⟨u, hu, rfl⟩ := h
    exact hG y u hu

theorem boundA_some {v : Option AV} {d top n : Nat} (h : boundA v d top = some n) : (v = none ∧ n = d) ∨ ∃ k, v = some (.int k (Int.ofNat n)) ∧ n ≤ top := by
  cases v with
  | none => simp only [boundA, Option.some.injEq] at h; exact .inl ⟨rfl, h.symm⟩
  | some x =>
    simp only [boundA, onInt_some] at h
    obtain ⟨k, m, rfl, h⟩ := h
    cases m with
    | negSucc m => cases h
    | ofNat m =>
      have h' : bc (Nat.ble m top) (some m) none = some n := h
      rw [bc_ite] at h'
      split at h'
      · rename_i hb; cases h'; exact .inr ⟨k, rfl, Nat.le_of_ble_eq_true hb⟩
      · cases h'

theorem bound_run {k : IntKind} {n top : Nat} {c : Value} (code : BoundsCode) (hc : VR E (.int k (Int.ofNat n)) c) (hn : n ≤ top) (w : World) : (Instr.sliceBound c top code).run P w = .ok n w := by
  simp only [VR] at hc
  subst hc
  simp [Instr.sliceBound, Go.asIntOf, hn]

theorem bounds_run {isS : Bool} {len cap : Nat} {lo hi mx : Option AV} {lo' hi' mx' : Option Value} {l h m : Nat} (h1 : OptR E lo lo') (h2 : OptR E hi hi') (h3 : OptR E mx mx')
    (hm : (mx = none ∧ m = cap) ∨ ∃ k, mx = some (.int k (Int.ofNat m)) ∧ m ≤ cap) (hh : (hi = none ∧ h = len) ∨ ∃ k, hi = some (.int k (Int.ofNat h)) ∧ h ≤ m)
    (hl : (lo = none ∧ l = 0) ∨ ∃ k, lo = some (.int k (Int.ofNat l)) ∧ l ≤ h) (hx : mx.isSome = true → hi.isSome = true) (w : World) :
    (Instr.sliceBounds isS len cap lo' hi' mx').run P w = .ok (l, h, m) w := by
  rcases hm with ⟨rfl, rfl⟩ | ⟨k3, rfl, g3⟩
  · cases mx' with
    | some _ => exact h3.elim
    | none =>
      rcases hh with ⟨rfl, rfl⟩ | ⟨k2, rfl, g2⟩
      · cases hi' with
        | some _ => exact h2.elim
        | none =>
          rcases hl with ⟨rfl, rfl⟩ | ⟨k1, rfl, g1⟩
          · cases lo' with
            | some _ => exact h1.elim
            | none => simp [Instr.sliceBounds]
          · cases lo' with
            | none => exact h1.elim
            | some c1 => have r1 := fun code => bound_run (P := P) (E := E) code h1 g1 w; simp [Instr.sliceBounds, r1]
      · cases hi' with
        | none => exact h2.elim
        | some c2 =>
          have r2 := fun code => bound_run (P := P) (E := E) code h2 g2 w
          rcases hl with ⟨rfl, rfl⟩ | ⟨k1, rfl, g1⟩
          · cases lo' with
            | some _ => exact h1.elim
            | none => simp [Instr.sliceBounds, r2]
          · cases lo' with
            | none => exact h1.elim
            | some c1 => have r1 := fun code => bound_run (P := P) (E := E) code h1 g1 w; simp [Instr.sliceBounds, r1, r2]
  · cases mx' with
    | none => exact h3.elim
    | some c3 =>
      have r3 := fun code => bound_run (P := P) (E := E) code h3 g3 w
      rcases hh with ⟨rfl, rfl⟩ | ⟨k2, rfl, g2⟩
      · exact absurd (hx rfl) (by simp)
      · cases hi' with
        | none => exact h2.elim
        | some c2 =>
          have r2 := fun code => bound_run (P := P) (E := E) code h2 g2 w
          rcases hl with ⟨rfl, rfl⟩ | ⟨k1, rfl, g1⟩
          · cases lo' with
            | some _ => exact h1.elim
            | none => simp [Instr.sliceBounds, r2, r3]
          · cases lo' with
            | none => exact h1.elim
            | some c1 => have r1 := fun code => bound_run (P := P) (E := E) code h1 g1 w; simp [Instr.sliceBounds, r1, r2, r3]

theorem bytesN_extract (s : ByteArray) (l h : Nat) : bytesN (s.extract l h) = ((bytesN s).take h).drop l := by
  unfold bytesN
  rw [ByteArray.data_extract, Array.toList_extract, List.extract_eq_take_drop, List.map_take, List.map_drop, ← List.map_take, ← List.map_drop, ← List.map_drop, ← List.map_take]
  congr 1
  rw [List.drop_take]

theorem kSlice_ok {o : Oper} {t : TypeId} {x : Operand} {lo hi mx : Option Operand} (ho : o.op = .slice t x lo hi mx) (h : kSlice t x lo hi mx P ρ = some v) (hG : Good E ρ f) : Pok P E f o v := by
  simp only [kSlice, ob_some, og_some] at h
  obtain ⟨a, ha, l0, hl0, h0, hh0, m0, hm0, hx, h⟩ := h
  have hxv := hG x _ ha
  have r1 := optO_good hG hl0
  have r2 := optO_good hG hh0
  have r3 := optO_good hG hm0
  have hmx : m0.isSome = true → h0.isSome = true := by
    intro hs
    cases mx with
    | none => simp only [optO, Option.some.injEq] at hm0; subst hm0; simp at hs
    | some y =>
      rw [show (some y).isSome = true from rfl, bc_true] at hx
      cases hi with
      | none => simp at hx
      | some z => simp only [optO, om_some] at hh0; obtain ⟨u, _, rfl⟩ := hh0; rfl
  cases hk : slKind P t with
  | none => rw [hk] at h; cases h
  | str =>
    rw [hk] at h
    obtain ⟨s, rfl, h2⟩ := onStr_some.1 h
    have ht := slKind_str hk
    cases m0 with
    | some _ => cases h2
    | none =>
      have h2' : (ob (boundA h0 (lenN s) (lenN s)) fun h => om (boundA l0 0 h) fun l => AV.str (dropN l (takeN h s))) = some v := h2
      simp only [ob_some, om_some] at h2'
      obtain ⟨h', hh, l', hl, rfl⟩ := h2'
      simp only [VR] at hxv
      obtain ⟨b, hb, rfl⟩ := hxv
      rw [lenN_eq, bytesN_len] at hh
      refine ⟨.string (b.extract l' h'), by simp only [VR]; exact ⟨_, rfl, by rw [bytesN_extract, takeN_eq, dropN_eq]⟩, fun w => ?_⟩
      have hmx' : mx.map f = none := by cases mx with | none => rfl | some y => simp only [optO, om_some] at hm0; obtain ⟨u, _, hu⟩ := hm0; cases hu
      have hrun := bounds_run (P := P) (isS := false) (len := b.size) (cap := b.size) (m := b.size) r1 r2 r3 (.inl ⟨rfl, rfl⟩) (boundA_some hh) (boundA_some hl) hmx w
      rw [hmx'] at hrun
      simp [execOp, ho, Instr.sliceAt, run_und ht, Instr.slice, hb, hmx', hrun]
  | slice s =>
    rw [hk] at h
    obtain ⟨e, he, hs⟩ := slKind_slice hk
    rcases onSl_some.1 h with ⟨p, n, c, rfl, h2⟩ | ⟨m, q, n, eo, mc, rfl, h2⟩ | ⟨rfl, h2⟩
    · simp only [sliceSl, ob_some, om_some] at h2
      obtain ⟨m', hm, h', hh, l', hl, hv⟩ := h2
      have hrun := fun w => bounds_run (P := P) (isS := true) r1 r2 r3 (boundA_some hm) (boundA_some hh) (boundA_some hl) hmx w
      cases p with
      | none =>
        have hv' : v = .slice none (h' - l') (m' - l') := hv.symm
        simp only [VR] at hxv
        exact ⟨.slice none (h' - l') (m' - l'), by rw [hv']; simp only [VR], fun w => by simp [execOp, ho, Instr.sliceAt, run_und he, Instr.slice, hxv, hrun, sizeA_some hs]⟩
      | some p =>
        have hv' : v = sliceRes p.1 p.2 l' h' m' s := hv.symm
        simp only [VR] at hxv
        obtain ⟨b, κ, hE, hxv⟩ := hxv
        refine ⟨.slice (some ⟨b, if m' = l' then p.2 else p.2 + l' * s, none⟩) (h' - l') (m' - l'), ?_, fun w => ?_⟩
        · rw [hv']
          simp only [sliceRes, VR]
          refine ⟨b, κ, hE, ?_⟩
          rw [bc_ite]
          congr 3
          simp
        · simp [execOp, ho, Instr.sliceAt, run_und he, Instr.slice, hxv, hrun, sizeA_some hs, add_addr]
          split <;> rfl
    · simp only [VR] at hxv
      obtain ⟨b, κ, hE, hle, hκ, hxv⟩ := hxv
      cases m0 with
      | none =>
        have h3 : (ob (boundA h0 n mc) fun h => om (boundA l0 0 h) fun l => bc (Nat.beq l 0) (AV.gslice m q h eo mc) (bc (Nat.ble (l + 1) mc) (AV.gslice m (q + l * s) (h - l) (eo + l) (mc - l)) AV.eslice)) = some v := h2
        simp only [ob_some, om_some] at h3
        obtain ⟨h', hh, l', hl, hv⟩ := h3
        have hh1 := boundA_some hh
        have hl1 := boundA_some hl
        have hh' : h' ≤ mc := by rcases hh1 with ⟨_, rfl⟩ | ⟨_, _, h⟩ <;> omega
        have hl' : l' ≤ h' := by rcases hl1 with ⟨_, rfl⟩ | ⟨_, _, h⟩ <;> omega
        have hrun := fun w => bounds_run (P := P) (isS := true) (cap := κ - eo) (m := κ - eo) r1 r2 r3 (.inl ⟨rfl, rfl⟩) (hh1.imp id fun ⟨k, e, h⟩ => ⟨k, e, by omega⟩) hl1 hmx w
        have hex : ∀ w, (execOp f o).run P w = .ok (.value (.slice (some ⟨b, if κ - eo = l' then q else q + l' * s, none⟩) (h' - l') (κ - eo - l'))) w := by
          intro w
          simp [execOp, ho, Instr.sliceAt, run_und he, Instr.slice, hxv, hrun, sizeA_some hs, add_addr]
          split <;> rfl
        refine ⟨_, ?_, hex⟩
        rw [bc_ite] at hv
        split at hv
        · rename_i h0
          have : l' = 0 := by simpa using h0
          subst this
          rw [← hv]
          simp only [VR]
          exact ⟨b, κ, hE, by omega, by omega, by simp⟩
        · rw [bc_ite] at hv
          split at hv
          · rename_i h1
            have h1 := Nat.le_of_ble_eq_true h1
            rw [← hv]
            simp only [VR]
            exact ⟨b, κ, hE, by omega, by omega, by rw [if_neg (by omega), show κ - eo - l' = κ - (eo + l') by omega]⟩
          · rename_i h1
            have : ¬ l' + 1 ≤ mc := fun h => h1 (Nat.ble_eq_true_of_le h)
            rw [← hv, show h' - l' = 0 by omega]
            simp only [VR]
            exact ⟨_, _, rfl⟩
      | some y =>
        have h3 : (ob (boundA (some y) 0 mc) fun m' => ob (boundA h0 n m') fun h => om (boundA l0 0 h) fun l => sliceRes m q l h m' s) = some v := h2
        simp only [ob_some, om_some] at h3
        obtain ⟨m', hm, h', hh, l', hl, hv⟩ := h3
        have hm1 := boundA_some hm
        have hm2 : (some y = (none : Option AV) ∧ m' = κ - eo) ∨ ∃ k, some y = some (.int k (Int.ofNat m')) ∧ m' ≤ κ - eo := by
          rcases hm1 with ⟨e, _⟩ | ⟨k, e, h⟩
          · cases e
          · exact .inr ⟨k, e, by omega⟩
        have hrun := fun w => bounds_run (P := P) (isS := true) (cap := κ - eo) r1 r2 r3 hm2 (boundA_some hh) (boundA_some hl) hmx w
        refine ⟨.slice (some ⟨b, if m' = l' then q else q + l' * s, none⟩) (h' - l') (m' - l'), ?_, fun w => ?_⟩
        · rw [← hv]
          simp only [sliceRes, VR]
          refine ⟨b, κ, hE, ?_⟩
          rw [bc_ite]
          congr 3
          simp
        · simp [execOp, ho, Instr.sliceAt, run_und he, Instr.slice, hxv, hrun, sizeA_some hs, add_addr]
          split <;> rfl
    · simp only [VR] at hxv
      obtain ⟨a0, c, hxv⟩ := hxv
      cases m0 with
      | some _ => cases h2
      | none =>
        have h3 : (ob (boundA h0 0 0) fun h => om (boundA l0 0 h) fun _ => AV.eslice) = some v := h2
        simp only [ob_some, om_some] at h3
        obtain ⟨h', hh, l', hl, rfl⟩ := h3
        have hh1 := boundA_some hh
        have hl1 := boundA_some hl
        have hh' : h' = 0 := by rcases hh1 with ⟨_, rfl⟩ | ⟨_, _, h⟩ <;> omega
        have hl' : l' = 0 := by rcases hl1 with ⟨_, rfl⟩ | ⟨_, _, h⟩ <;> omega
        subst hh' hl'
        have hrun := fun w => bounds_run (P := P) (isS := true) (len := 0) (cap := c) (m := c) r1 r2 r3 (.inl ⟨rfl, rfl⟩) (hh1.imp id fun ⟨k, e, h⟩ => ⟨k, e, by omega⟩) hl1 hmx w
        refine ⟨.slice (some a0) 0 c, by simp only [VR]; exact ⟨_, _, rfl⟩, fun w => ?_⟩
        simp [execOp, ho, Instr.sliceAt, run_und he, Instr.slice, hxv, hrun, sizeA_some hs, Addr.add]
  | arr n s =>
    rw [hk] at h
    obtain ⟨e, he, hs⟩ := slKind_arr hk
    obtain ⟨m, q, rfl, h2⟩ := onPtr_some.1 h
    simp only [sliceArr, ob_some, om_some] at h2
    obtain ⟨m', hm, h', hh, l', hl, hv⟩ := h2
    have hrun := fun w => bounds_run (P := P) (isS := false) r1 r2 r3 (boundA_some hm) (boundA_some hh) (boundA_some hl) hmx w
    simp only [VR] at hxv
    obtain ⟨b, κ, hE, hxv⟩ := hxv
    refine ⟨.slice (some ⟨b, if m' = l' then q else q + l' * s, none⟩) (h' - l') (m' - l'), ?_, fun w => ?_⟩
    · rw [← hv]
      simp only [sliceRes, VR]
      refine ⟨b, κ, hE, ?_⟩
      rw [bc_ite]
      congr 3
      simp
    · simp [execOp, ho, Instr.sliceAt, run_und he, hxv, hrun, sizeA_some hs, add_addr, Instr.sureAddr]
      split <;> rfl

theorem lnKind_str {t : TypeId} (h : lnKind P t = .str) : P.underlying t = some .string := by unfold lnKind at h; split at h <;> first | assumption | cases h
theorem lnKind_arr {t : TypeId} {n : Nat} (h : lnKind P t = .arr n) : ∃ e, P.underlying t = some (.array n e) := by
  unfold lnKind at h
  split at h <;> first | (cases h; done) | skip
  rename_i m e he; cases h; exact ⟨e, he⟩
theorem lnKind_slice {t : TypeId} (h : lnKind P t = .slice) : ∃ e, P.underlying t = some (.slice e) := by
  unfold lnKind at h
  split at h <;> first | (cases h; done) | skip
  rename_i e he; exact ⟨e, he⟩

theorem goInt_eq (n : Nat) : goInt (n : Int) = .int .i64 (Int.ofNat n) := rfl
theorem vr_intN (E : Ren) (n : Nat) : VR E (intN n) (.int .i64 (Int.ofNat n)) := by simp only [intN, VR]

theorem getArg0 {c : Call} {x : Operand} (h : getN c.args.toList 0 = some x) : c.args[0]? = some x := by rw [getN_eq] at h; simpa using h
theorem map_get0 {c : Call} {x : Operand} (h : c.args[0]? = some x) : (c.args.map f)[0]? = some (f x) := by simp [h]

theorem kLen_ok {o : Oper} {c : Call} (ho : o.op = .call c) (hc : c.callee = .builtin .len) (h : kLen c.argTypes[0]? c.args.toList P ρ = some v) (hG : Good E ρ f) : Pok P E f o v := by
  simp only [kLen, ob_some] at h
  obtain ⟨t, ht, x, hx, u, hu, h⟩ := h
  have hx0 := map_get0 (f := f) (getArg0 hx)
  have hxv := hG x _ hu
  have key : ∀ n : Nat, v = intN n → (∀ w, (Builtin.len_ c.argTypes o.type (c.args.map f)).run P w = .ok (goInt n) w) → Pok P E f o v := by
    intro n hv hr
    subst hv
    exact ⟨_, vr_intN E n, fun w => by simp [execOp, ho, resolve, hc, invoke, Go.builtin, hr, goInt_eq]⟩
  cases hk : lnKind P t with
  | str =>
    rw [hk] at h
    obtain ⟨s, rfl, h2⟩ := onStr_some.1 h
    cases h2
    simp only [VR] at hxv
    obtain ⟨b, hb, rfl⟩ := hxv
    rw [hb] at hx0
    exact key _ rfl fun w => by simp [Builtin.len_, ht, hx0, run_und (lnKind_str hk), lenN_eq, bytesN_len]
  | arr n =>
    rw [hk] at h
    obtain ⟨e, he⟩ := lnKind_arr hk
    have h2 : some (intN n) = some v := h
    cases h2
    exact key _ rfl fun w => by simp [Builtin.len_, ht, hx0, run_und he]
  | slice =>
    rw [hk] at h
    obtain ⟨e, he⟩ := lnKind_slice hk
    rcases onSl_some.1 h with ⟨p, n, c', rfl, h2⟩ | ⟨m, q, n, eo, mc, rfl, h2⟩ | ⟨rfl, h2⟩
    · cases h2
      cases p with
      | none => simp only [VR] at hxv; rw [hxv] at hx0; exact key _ rfl fun w => by simp [Builtin.len_, ht, hx0, run_und he]
      | some p => simp only [VR] at hxv; obtain ⟨b, κ, _, hxv⟩ := hxv; rw [hxv] at hx0; exact key _ rfl fun w => by simp [Builtin.len_, ht, hx0, run_und he]
    · cases h2
      simp only [VR] at hxv; obtain ⟨b, κ, _, _, _, hxv⟩ := hxv; rw [hxv] at hx0; exact key _ rfl fun w => by simp [Builtin.len_, ht, hx0, run_und he]
    · cases h2
      simp only [VR] at hxv; obtain ⟨b, κ, hxv⟩ := hxv; rw [hxv] at hx0; exact key 0 rfl fun w => by simp [Builtin.len_, ht, hx0, run_und he]
  | map => rw [hk] at h; cases h
  | none => rw [hk] at h; cases h

theorem kCap_ok {o : Oper} {c : Call} (ho : o.op = .call c) (hc : c.callee = .builtin .cap) (h : kCap c.argTypes[0]? c.args.toList P ρ = some v) (hG : Good E ρ f) : Pok P E f o v := by
  simp only [kCap, ob_some] at h
  obtain ⟨t, ht, x, hx, u, hu, h⟩ := h
  have hx0 := map_get0 (f := f) (getArg0 hx)
  have hxv := hG x _ hu
  have key : ∀ n : Nat, v = intN n → (∀ w, (Builtin.cap_ c.argTypes o.type (c.args.map f)).run P w = .ok (goInt n) w) → Pok P E f o v := by
    intro n hv hr
    subst hv
    exact ⟨_, vr_intN E n, fun w => by simp [execOp, ho, resolve, hc, invoke, Go.builtin, hr, goInt_eq]⟩
  cases hk : lnKind P t with
  | arr n =>
    rw [hk] at h
    obtain ⟨e, he⟩ := lnKind_arr hk
    have h2 : some (intN n) = some v := h
    cases h2
    exact key _ rfl fun w => by simp [Builtin.cap_, ht, hx0, run_und he]
  | slice =>
    rw [hk] at h
    obtain ⟨e, he⟩ := lnKind_slice hk
    rcases onSl_some.1 h with ⟨p, n, c', rfl, h2⟩ | ⟨m, q, n, eo, mc, rfl, h2⟩ | ⟨rfl, h2⟩
    · cases h2
      cases p with
      | none => simp only [VR] at hxv; rw [hxv] at hx0; exact key _ rfl fun w => by simp [Builtin.cap_, ht, hx0, run_und he]
      | some p => simp only [VR] at hxv; obtain ⟨b, κ, _, hxv⟩ := hxv; rw [hxv] at hx0; exact key _ rfl fun w => by simp [Builtin.cap_, ht, hx0, run_und he]
    · cases h2
    · cases h2
  | str => rw [hk] at h; cases h
  | map => rw [hk] at h; cases h
  | none => rw [hk] at h; cases h

theorem mm_run (mx : Bool) : ∀ (l : List AV) (a : AV) (v : AV) (l' : List Value) (a' : Value), minMaxA mx l a = some v → VRL E l l' → VR E a a' →
    ∃ v', VR E v v' ∧ ∀ w, (l'.foldlM (if mx then Builtin.max2 else Builtin.min2) a' : Sem Value).run P w = .ok v' w := by
  intro l
  induction l with
  | nil =>
    intro a v l' a' h hl ha
    simp only [VRL] at hl
    subst hl
    have h' : (onInt a fun k n => some (AV.int k n)) = some v := h
    obtain ⟨k, n, rfl, h2⟩ := onInt_some.1 h'
    cases h2
    exact ⟨a', ha, fun w => rfl⟩
  | cons b r ih =>
    intro a v l' a' h hl ha
    simp only [VRL] at hl
    obtain ⟨b', s, rfl, hb, hs⟩ := hl
    have h' : ob (mm2 mx a b) (minMaxA mx r) = some v := h
    rw [ob_some] at h'
    obtain ⟨c, hc, h2⟩ := h'
    simp only [mm2, onInt_some] at hc
    obtain ⟨k, x, rfl, j, y, rfl, hc⟩ := hc
    rw [bc_ite] at hc
    split at hc
    case isFalse => cases hc
    cases hc
    simp only [VR] at ha hb
    subst ha hb
    obtain ⟨v', h3, h4⟩ := ih _ _ _ (.int k (bc mx (bc (ltI x y) y x) (bc (ltI y x) y x))) h2 hs (vr_int _ _ _)
    refine ⟨v', h3, fun w => ?_⟩
    rw [List.foldlM_cons, Sem.run_bind]
    rw [← h4 w]
    cases mx with
    | true =>
      simp only [if_true, Builtin.max2, Sem.run_pure, Result.andThen_ok, bc_true, ltI_eq, bc_ite, decide_eq_true_eq, gt_iff_lt]
    | false =>
      simp only [Bool.false_eq_true, if_false, Builtin.min2, Sem.run_pure, Result.andThen_ok, bc_false, ltI_eq, bc_ite, decide_eq_true_eq]

theorem kMm_ok {o : Oper} {c : Call} (mx : Bool) (ho : o.op = .call c) (hc : c.callee = .builtin (if mx then .max else .min)) (h : kMm mx c.args.toList P ρ = some v) (hG : Good E ρ f) : Pok P E f o v := by
  simp only [kMm, ob_some] at h
  obtain ⟨l, hl, h⟩ := h
  have hr := mapO_good hG hl
  cases l with
  | nil => cases h
  | cons a r =>
    have h' : minMaxA mx r a = some v := h
    simp only [VRL] at hr
    obtain ⟨a', s, he, ha, hs⟩ := hr
    obtain ⟨v', h3, h4⟩ := mm_run (P := P) mx r a v s a' h' hs ha
    refine ⟨v', h3, fun w => ?_⟩
    have hargs : c.args.map f = (a' :: s).toArray := by apply Array.toList_inj.1; simpa using he
    cases mx with
    | true => simp only [if_true] at h4 hc; simp [execOp, ho, resolve, hc, invoke, Go.builtin, Builtin.max_, hargs]; rw [h4]; rfl
    | false => simp only [Bool.false_eq_true, if_false] at h4 hc; simp [execOp, ho, resolve, hc, invoke, Go.builtin, Builtin.min_, hargs]; rw [h4]; rfl
end Go.Ev
