/- The abstract machine's operations that reckon, on: texts, tests, conversions, addresses, parts. -/
import Derived.Test.YtcpmgjnlnaigbaaGreatDoorEvE
import Derived.Laws.Strings
set_option linter.unusedVariables false
set_option linter.unusedSimpArgs false
namespace Go.Ev
open Go

variable {P : Program} {E : Ren} {ρ : Env} {f : Operand → Value} {v : AV}

theorem toNat_inj {a b : List UInt8} (h : a.map (·.toNat) = b.map (·.toNat)) : a = b := by
  induction a generalizing b with
  | nil => cases b <;> simp at h ⊢
  | cons x r ih =>
    cases b with
    | nil => simp at h
    | cons y s =>
      simp only [List.map_cons, List.cons.injEq] at h
      rw [ih h.2, UInt8.toNat_inj.1 h.1]
theorem eqS_eq (a : List Nat) : ∀ b, eqS a b = decide (a = b) := by
  induction a with
  | nil => intro b; cases b <;> simp [eqS]
  | cons x r ih =>
    intro b
    cases b with
    | nil => simp [eqS]
    | cons y s =>
      show bc (Nat.beq x y) (eqS r s) false = _
      rw [ih s, Bool.eq_iff_iff, bc_and, Nat.beq_eq, decide_eq_true_iff, decide_eq_true_iff]
      simp
theorem ltS_eq (a : List UInt8) : ∀ b : List UInt8, ltS (a.map (·.toNat)) (b.map (·.toNat)) = Op.bytesLess a b := by
  induction a with
  | nil => intro b; cases b <;> rfl
  | cons x r ih =>
    intro b
    cases b with
    | nil => rfl
    | cons y s =>
      show bc (Nat.ble (x.toNat + 1) y.toNat) true (bc (Nat.beq x.toNat y.toNat) (ltS (r.map (·.toNat)) (s.map (·.toNat))) false) = (decide (x < y) || (x == y && Op.bytesLess r s))
      rw [ih s]
      by_cases h1 : x < y
      · rw [show Nat.ble (x.toNat + 1) y.toNat = true from Nat.ble_eq_true_of_le (UInt8.lt_iff_toNat_lt.1 h1), bc_true]
        simp [h1]
      · rw [show Nat.ble (x.toNat + 1) y.toNat = false from by
          cases hb : Nat.ble (x.toNat + 1) y.toNat with
          | false => rfl
          | true => exact absurd (UInt8.lt_iff_toNat_lt.2 (Nat.le_of_ble_eq_true hb)) h1, bc_false]
        by_cases h2 : x = y
        · subst h2
          rw [show Nat.beq x.toNat x.toNat = true from by simp, bc_true]
          simp [h1]
        · rw [show Nat.beq x.toNat y.toNat = false from by
            cases hb : Nat.beq x.toNat y.toNat with
            | false => rfl
            | true => exact absurd (UInt8.toNat_inj.1 (Nat.eq_of_beq_eq_true hb)) h2, bc_false]
          simp [h1, h2]
theorem bytesN_eq {s t : ByteArray} : bytesN s = bytesN t ↔ s.toList = t.toList := by
  rw [ByteArray.toList_eq, ByteArray.toList_eq]
  exact ⟨toNat_inj, fun h => by unfold bytesN; rw [h]⟩
theorem bytesN_len (s : ByteArray) : (bytesN s).length = s.size := by simp [bytesN]
theorem eqS_str (s t : ByteArray) : eqS (bytesN s) (bytesN t) = (s.toList == t.toList) := by
  rw [eqS_eq, Bool.eq_iff_iff, decide_eq_true_iff, beq_iff_eq, bytesN_eq]
theorem ltS_str (s t : ByteArray) : ltS (bytesN s) (bytesN t) = Op.bytesLess s.toList t.toList := by
  rw [ByteArray.toList_eq, ByteArray.toList_eq]; exact ltS_eq _ _

theorem strBin_ok {op : BinOp} {a b : ByteArray} {v : AV} (t : TypeId) (h : strBinA op (bytesN a) (bytesN b) = some v) :
    ∃ v', VR E v v' ∧ ∀ w, (binOp op t (.string a) (.string b)).run P w = .ok v' w := by
  cases op <;> simp only [strBinA, Option.some.injEq, reduceCtorEq] at h
  case add =>
    rw [bc_ite] at h
    split at h
    · rename_i hc
      cases h
      have hl := Nat.le_of_ble_eq_true hc
      rw [lenN_eq, lenN_eq, bytesN_len, bytesN_len] at hl
      refine ⟨.string (a ++ b), by simp only [VR]; exact ⟨a ++ b, rfl, by simp [bytesN]⟩, fun w => ?_⟩
      have : ¬ (IntKind.i64.max < ((a.size + b.size : Nat) : Int)) := by rw [IntKind.max_i64]; omega
      simp only [binOp, Op.stringOp]
      rw [if_neg (by simpa using this)]
      rfl
    · cases h
  case eql => subst h; exact ⟨_, vr_bool _ _, fun w => by simp [binOp, Op.stringOp, eqS_str]⟩
  case neq => subst h; exact ⟨_, vr_bool _ _, fun w => by simp [binOp, Op.stringOp, eqS_str]⟩
  case lss => subst h; exact ⟨_, vr_bool _ _, fun w => by simp [binOp, Op.stringOp, ltS_str]⟩
  case leq => subst h; exact ⟨_, vr_bool _ _, fun w => by simp [binOp, Op.stringOp, ltS_str, eqS_str]⟩
  case gtr => subst h; exact ⟨_, vr_bool _ _, fun w => by simp [binOp, Op.stringOp, ltS_str, eqS_str]⟩
  case geq => subst h; exact ⟨_, vr_bool _ _, fun w => by simp [binOp, Op.stringOp, ltS_str]⟩

theorem kUn_ok {o : Oper} {op : UnOp} {t : TypeId} {x : Operand} (ho : o.op = .unOp op t x) (h : kUn op t x P ρ = some v) (hG : Good E ρ f) : Pok P E f o v := by
  simp only [kUn, ob_some] at h
  obtain ⟨u, hu, h⟩ := h
  have hx := hG x _ hu
  cases op <;> simp only [unA, onBool_some, onInt_some, reduceCtorEq] at h
  case not =>
    obtain ⟨b, rfl, h⟩ := h
    cases h
    simp only [VR] at hx
    exact ⟨_, vr_bool _ _, fun w => by simp [execOp, ho, hx, Op.unary]⟩
  case neg =>
    obtain ⟨k, n, rfl, h⟩ := h
    simp only [intBinA, Option.some.injEq] at h
    subst h
    simp only [VR] at hx
    exact ⟨_, vr_int _ _ _, fun w => by rw [wrapA_eq, show Int.sub 0 n = 0 - n from rfl]; simp [execOp, ho, hx, Op.unary, Op.intArith]⟩
  case xor =>
    obtain ⟨k, n, rfl, h⟩ := h
    simp only [intBinA, Option.some.injEq] at h
    subst h
    simp only [VR] at hx
    exact ⟨_, vr_int _ _ _, fun w => by simp [execOp, ho, hx, Op.unary, Op.intBits]⟩

theorem intKindOf_some {t : TypeId} {k : IntKind} (h : intKindOf P t = some k) : P.underlying t = some (.int k) := by
  unfold intKindOf at h
  split at h
  · rename_i k' hk; cases h; exact hk
  · cases h

theorem run_und {t : TypeId} {d : TypeDesc} (h : P.underlying t = some d) (w : World) : (underlying t).run P w = .ok d w := run_underlying h w

theorem isStr_true {t : TypeId} (h : isStr P t = true) : P.underlying t = some .string := by
  unfold isStr at h
  split at h
  · rename_i h1; exact h1
  · cases h
theorem utf8N_eq (n : Int) : bytesN (Utf8.encode n) = utf8N n := by
  unfold Utf8.encode utf8N bytesN
  simp only
  generalize (if Utf8.valid n = true then n.toNat else Utf8.runeError) = c
  repeat' split
  all_goals simp [UInt8.toNat_ofNat']

theorem kConv_ok {o : Oper} {s d : TypeId} {x : Operand} (ho : o.op = .convert s d x) (h : kConv s d x P ρ = some v) (hG : Good E ρ f) : Pok P E f o v := by
  simp only [kConv, og_some, ob_some] at h
  obtain ⟨hs, u, hu, h⟩ := h
  have hx := hG x _ hu
  obtain ⟨e, he⟩ := Option.isSome_iff_exists.1 hs
  cases hb : isStr P d with
  | true =>
    rw [hb, bc_true, og_some, onInt_some] at h
    obtain ⟨hk, j, n, rfl, h⟩ := h
    cases h
    simp only [VR] at hx
    obtain ⟨k, hk⟩ := Option.isSome_iff_exists.1 hk
    exact ⟨.string (Utf8.encode n), by simp only [VR]; exact ⟨_, rfl, utf8N_eq n⟩, fun w => by
      simp [execOp, ho, hx, convert, run_und (intKindOf_some hk), run_und (isStr_true hb), Conv.intToString]⟩
  | false =>
    rw [hb, bc_false, ob_some] at h
    obtain ⟨k, hk, h⟩ := h
    rw [onInt_some] at h
    obtain ⟨j, n, rfl, h⟩ := h
    cases h
    simp only [VR] at hx
    exact ⟨_, vr_int _ _ _, fun w => by
      rw [wrapA_eq]
      simp [execOp, ho, hx, convert, run_und he, run_und (intKindOf_some hk), Conv.intToInt]⟩

theorem kIface_ok {o : Oper} {t : TypeId} {x : Operand} (ho : o.op = .makeInterface t x) (h : kIface t x P ρ = some v) (hG : Good E ρ f) : Pok P E f o v := by
  simp only [kIface, og_some, om_some] at h
  obtain ⟨hc, u, hu, rfl⟩ := h
  have hx := hG x _ hu
  refine ⟨.iface t (f x), by simp only [VR]; exact ⟨_, rfl, hx⟩, fun w => ?_⟩
  unfold concrete at hc
  cases hd : P.underlying t with
  | none => rw [hd] at hc; simp at hc
  | some d =>
    rw [hd] at hc
    cases d <;> simp at hc <;> simp [execOp, ho, Instr.makeInterface, run_und hd]

theorem mapO_good {l : List Operand} (hG : Good E ρ f) : ∀ {r : List AV}, mapO ρ l = some r → VRL E r (l.map f) := by
  induction l with
  | nil => intro r h; rw [mapO_nil] at h; cases h; simp [VRL]
  | cons x s ih =>
    intro r h
    simp only [mapO_cons, ob_some, om_some] at h
    obtain ⟨y, hy, q, hq, rfl⟩ := h
    simp only [VRL, List.map_cons]
    exact ⟨_, _, rfl, hG x y hy, ih hq⟩

theorem kFunc_ok {o : Oper} {fn : Fn} {a c : Array Operand} (ho : o.op = .makeFunc fn a c) (h : kFunc fn a c P ρ = some v) (hG : Good E ρ f) : Pok P E f o v := by
  simp only [kFunc, ob_some, om_some] at h
  obtain ⟨x, hx, y, hy, rfl⟩ := h
  refine ⟨.func fn (a.map f) (c.map f), ?_, fun w => by simp [execOp, ho, Instr.makeFunc]⟩
  simp only [VR]
  exact ⟨_, _, rfl, by simpa using mapO_good hG hx, by simpa using mapO_good hG hy⟩

theorem sizeA_some {t : TypeId} {n : Nat} (h : sizeA P t = some n) : ∀ w, (sizeOf t).run P w = .ok n w := by
  intro w
  unfold sizeA at h
  rw [Option.map_eq_some_iff] at h
  obtain ⟨i, hi, rfl⟩ := h
  simp [sizeOf, typeInfo, hi]

theorem add_addr (b o n : Nat) : Addr.add ⟨b, o, none⟩ n = ⟨b, o + n, none⟩ := by unfold Addr.add; split <;> simp_all

theorem kFieldAddr_ok {o : Oper} {s : TypeId} {x : Operand} {i : Nat} (ho : o.op = .fieldAddr s x i) (h : kFieldAddr s x i P ρ = some v) (hG : Good E ρ f) : Pok P E f o v := by
  simp only [kFieldAddr, ob_some, onPtr_some] at h
  obtain ⟨u, hu, d, hd, n, c, rfl, h⟩ := h
  cases h
  have hx := hG x _ hu
  simp only [VR] at hx
  obtain ⟨b, κ, he, hx⟩ := hx
  refine ⟨.pointer (some ⟨b, c + d, none⟩), by simp only [VR]; exact ⟨b, κ, he, rfl⟩, fun w => ?_⟩
  unfold fieldOff at hd
  split at hd
  · rename_i fs hfs
    simp only [ob_some] at hd
    obtain ⟨g, hg, z, hz, hd⟩ := hd
    rw [bc_ite] at hd
    split at hd
    · cases hd
    · rename_i hz0
      cases hd
      have hne : z ≠ 0 := by intro e; subst e; simp at hz0
      simp [execOp, ho, hx, Instr.fieldAt, run_und hfs, hg, Instr.sureAddr, fieldPlace, sizeA_some hz, hne, add_addr]
  · cases hd

theorem aggSize_some {t : TypeId} {z : Option Nat} (h : aggSize P t = some z) : (∀ w, (isAgg t).run P w = .ok z.isSome w) ∧ ∀ n, z = some n → sizeA P t = some n := by
  simp only [aggSize, ob_some] at h
  obtain ⟨b, hb, h⟩ := h
  have hrun : ∀ w, (isAgg t).run P w = .ok b w := by
    intro w
    unfold isAggA at hb
    cases hd : P.underlying t with
    | none => rw [hd] at hb; cases hb
    | some d => rw [hd] at hb; cases d <;> cases hb <;> simp [isAgg, run_und hd]
  cases b with
  | true =>
    simp only [bc_true, om_some] at h
    obtain ⟨n, hn, rfl⟩ := h
    exact ⟨hrun, fun m hm => by cases hm; exact hn⟩
  | false =>
    rw [bc_false] at h
    cases h
    exact ⟨hrun, fun m hm => by cases hm⟩

theorem part_ok {t : TypeId} {z : Option Nat} {cs : List AV} {cs' : Array Value} {off : Nat} (hz : aggSize P t = some z) (h : partA z cs off = some v) (hc : VRL E cs cs'.toList) :
    ∃ v', VR E v v' ∧ ∀ w, (part t cs' off).run P w = .ok v' w := by
  obtain ⟨h1, h2⟩ := aggSize_some hz
  cases z with
  | some n =>
    simp only [partA, Option.some.injEq] at h
    subst h
    refine ⟨.agg (cs'.extract off (off + n)), ?_, fun w => by simp [part, h1, sizeA_some (h2 n rfl)]⟩
    simp only [VR]
    refine ⟨_, rfl, ?_⟩
    rw [takeN_eq, dropN_eq]
    have := (hc.drop off).take n
    simpa [Array.toList_extract, List.extract_eq_take_drop] using this
  | none =>
    simp only [partA, getN_eq] at h
    obtain ⟨v', hv, hr⟩ := hc.get h
    refine ⟨v', hr, fun w => ?_⟩
    have : cs'[off]? = some v' := by simpa using hv
    simp [part, h1, this]

theorem kField_ok {o : Oper} {s : TypeId} {x : Operand} {i : Nat} (ho : o.op = .field s x i) (h : kField s x i P ρ = some v) (hG : Good E ρ f) : Pok P E f o v := by
  simp only [kField, ob_some, onAgg_some] at h
  obtain ⟨u, hu, d, hd, cs, rfl, h⟩ := h
  have hx := hG x _ hu
  simp only [VR] at hx
  obtain ⟨cs', hx, hc⟩ := hx
  unfold fieldPart at hd
  split at hd
  · rename_i fs hfs
    simp only [ob_some, om_some] at hd
    obtain ⟨g, hg, z, hz, rfl⟩ := hd
    obtain ⟨v', hv, hr⟩ := part_ok hz h hc
    exact ⟨v', hv, fun w => by simp [execOp, ho, hx, Instr.field, run_und hfs, hg, Go.asAgg, hr]⟩
  · cases hd

theorem natOf_some {i : AV} {g : Nat → Option AV} : natOf i g = some v ↔ ∃ k n, i = .int k (Int.ofNat n) ∧ g n = some v := by
  simp only [natOf, onInt_some]
  constructor
  · rintro ⟨k, n, rfl, h⟩
    cases n with
    | ofNat m => exact ⟨k, m, rfl, h⟩
    | negSucc m => cases h
  · rintro ⟨k, n, rfl, h⟩
    exact ⟨k, _, rfl, h⟩

theorem elemAt_some {size : Nat} {i : AV} {a : Option (Nat × Nat)} {len : Nat} (h : elemAt size i a len = some v) :
    ∃ k n p, i = .int k (Int.ofNat n) ∧ a = some p ∧ n < len ∧ v = .ptr (some (p.1, p.2 + n * size)) := by
  simp only [elemAt, natOf_some] at h
  obtain ⟨k, n, rfl, h⟩ := h
  rw [bc_ite] at h
  split at h
  · rename_i hlt
    cases a with
    | none => cases h
    | some p => cases h; exact ⟨k, n, p, rfl, rfl, Nat.le_of_ble_eq_true hlt, rfl⟩
  · cases h

theorem slKind_slice {t : TypeId} {s : Nat} (h : slKind P t = .slice s) : ∃ e, P.underlying t = some (.slice e) ∧ sizeA P e = some s := by
  unfold slKind at h
  split at h
  · cases h
  · rename_i e he; split at h
    · rename_i s' hs; cases h; exact ⟨e, he, hs⟩
    · cases h
  · split at h <;> cases h
  · cases h
theorem slKind_arr {t : TypeId} {n s : Nat} (h : slKind P t = .arr n s) : ∃ e, P.underlying t = some (.array n e) ∧ sizeA P e = some s := by
  unfold slKind at h
  split at h
  · cases h
  · split at h <;> cases h
  · rename_i m e he; split at h
    · rename_i s' hs; cases h; exact ⟨e, he, hs⟩
    · cases h
  · cases h
theorem slKind_str {t : TypeId} (h : slKind P t = .str) : P.underlying t = some .string := by
  unfold slKind at h
  split at h
  · assumption
  · split at h <;> cases h
  · split at h <;> cases h
  · cases h

theorem kIndexAddr_ok {o : Oper} {t : TypeId} {x i : Operand} (ho : o.op = .indexAddr t x i) (h : kIndexAddr t x i P ρ = some v) (hG : Good E ρ f) : Pok P E f o v := by
  simp only [kIndexAddr, ob_some] at h
  obtain ⟨a, ha, b, hb, h⟩ := h
  have hx := hG x _ ha
  have hi := hG i _ hb
  cases hk : slKind P t with
  | str => rw [hk] at h; cases h
  | none => rw [hk] at h; cases h
  | slice s =>
    rw [hk] at h
    obtain ⟨e, he, hs⟩ := slKind_slice hk
    rcases onSl_some.1 h with ⟨p, n, c, rfl, h2⟩ | ⟨m, q, n, eo, mc, rfl, h2⟩ | ⟨rfl, h2⟩
    · obtain ⟨k, j, p', rfl, rfl, hlt, rfl⟩ := elemAt_some h2
      simp only [VR] at hx hi
      obtain ⟨b', κ, hE, hx⟩ := hx
      refine ⟨.pointer (some ⟨b', p'.2 + j * s, none⟩), by simp only [VR]; exact ⟨b', κ, hE, rfl⟩, fun w => ?_⟩
      simp [execOp, ho, hx, hi, Instr.indexAt, Go.asIntOf, run_und he, sizeA_some hs, add_addr, hlt]
    · obtain ⟨k, j, p', rfl, hp, hlt, rfl⟩ := elemAt_some h2
      cases hp
      simp only [VR] at hx hi
      obtain ⟨b', κ, hE, _, _, hx⟩ := hx
      refine ⟨.pointer (some ⟨b', q + j * s, none⟩), by simp only [VR]; exact ⟨b', κ, hE, rfl⟩, fun w => ?_⟩
      simp [execOp, ho, hx, hi, Instr.indexAt, Go.asIntOf, run_und he, sizeA_some hs, add_addr, hlt]
    · cases h2
  | arr n s =>
    rw [hk] at h
    obtain ⟨e, he, hs⟩ := slKind_arr hk
    simp only [onPtr_some] at h
    obtain ⟨m, q, rfl, h⟩ := h
    obtain ⟨k, j, p', rfl, hp, hlt, rfl⟩ := elemAt_some h
    cases hp
    simp only [VR] at hx hi
    obtain ⟨b', κ, hE, hx⟩ := hx
    refine ⟨.pointer (some ⟨b', q + j * s, none⟩), by simp only [VR]; exact ⟨b', κ, hE, rfl⟩, fun w => ?_⟩
    simp [execOp, ho, hx, hi, Instr.indexAt, Go.asIntOf, run_und he, sizeA_some hs, add_addr, hlt, Instr.sureAddr]

theorem kExtract_ok {o : Oper} {x : Operand} {i : Nat} (ho : o.op = .extract x i) (h : kExtract x i P ρ = some v) (hG : Good E ρ f) : Pok P E f o v := by
  simp only [kExtract, ob_some, onTuple_some] at h
  obtain ⟨u, hu, l, rfl, h⟩ := h
  have hx := hG x _ hu
  simp only [VR] at hx
  obtain ⟨l', hx, hl⟩ := hx
  rw [getN_eq] at h
  obtain ⟨v', hv, hr⟩ := hl.get h
  have hv' : l'[i]? = some v' := by simpa using hv
  exact ⟨v', hr, fun w => by simp [execOp, ho, hx, Instr.extract, hv']⟩

theorem kIndex_ok {o : Oper} {t : TypeId} {x i : Operand} (ho : o.op = .index t x i) (h : kIndex t x i P ρ = some v) (hG : Good E ρ f) : Pok P E f o v := by
  simp only [kIndex, ob_some] at h
  obtain ⟨a, ha, b, hb, h⟩ := h
  have hx := hG x _ ha
  have hi := hG i _ hb
  cases hs : isStr P t with
  | true =>
    rw [hs, bc_true] at h
    simp only [onStr_some, natOf_some, om_some, getN_eq] at h
    obtain ⟨l, rfl, k, n, rfl, c, hc, rfl⟩ := h
    simp only [VR] at hx hi
    obtain ⟨s, hx, rfl⟩ := hx
    unfold bytesN at hc
    rw [List.getElem?_map, Option.map_eq_some_iff] at hc
    obtain ⟨u, hu, rfl⟩ := hc
    have hu' : s[n]? = some u := by
      rw [List.getElem?_eq_some_iff] at hu
      obtain ⟨hn, hu⟩ := hu
      have hn' : n < s.size := by simpa using hn
      rw [getElem?_pos s n hn']
      congr 1
    exact ⟨.int .u8 u.toNat, by simp only [VR]; rfl, fun w => by simp [execOp, ho, hx, hi, Instr.index, Go.asIntOf, run_und (isStr_true hs), hu']⟩
  | false =>
    rw [hs, bc_false] at h
    simp only [ob_some, onAgg_some, natOf_some] at h
    obtain ⟨d, hd, cs, rfl, k, n, rfl, h⟩ := h
    rw [bc_ite] at h
    split at h
    case isFalse => cases h
    rename_i hlt
    have hlt := Nat.le_of_ble_eq_true hlt
    simp only [VR] at hx hi
    obtain ⟨cs', hx, hc⟩ := hx
    unfold arrPart at hd
    split at hd
    · rename_i m e he
      simp only [ob_some, om_some] at hd
      obtain ⟨s, hs', z, hz, rfl⟩ := hd
      obtain ⟨v', hv, hr⟩ := part_ok hz h hc
      exact ⟨v', hv, fun w => by simp [execOp, ho, hx, hi, Instr.index, Go.asIntOf, run_und he, sizeA_some hs', hr, show n < m from hlt]⟩
    · cases hd
end Go.Ev
