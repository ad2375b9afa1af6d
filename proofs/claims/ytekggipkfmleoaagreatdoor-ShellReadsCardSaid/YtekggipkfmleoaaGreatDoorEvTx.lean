/- The shell's telling of events: what it comes to, what is known of it over names; closed runs where a table of the library's is laid. No program in sight. -/
import Derived.Test.YtekggipkfmleoaaGreatDoorEvSp
import Derived.Test.YtekggipkfmleoaaGreatDoorEvZ
import Derived.Below
import Derived.Lib.ItoaMem
import Derived.Lib.LaidTab
set_option linter.unusedVariables false
set_option linter.unusedSimpArgs false
noncomputable section
namespace Go.Ev
open Go Go.RowKit

variable {P : Program} {E : Ren} {A A' : AH} {w : World}

/-! ### closed runs, from memory that may be read alone -/
theorem closed_from {prims : Prims} (hN : P.funcs.all (fun fn => !(fn.name == "runtime.NumGoroutine")) = true) (hm : P.follows .mixedOrders = true) (hp : PrimsOk P prims) {d k : Nat} {f : FuncId} {v : AV} {A' h0 : AH}
    (hnx : h0.next = 1000) (hro : ∀ n o, h0.get n = some o → o.ro = true) (hM : MR ren0 h0 w) (h : (evS P prims d k).call f [] h0 = some (v, A')) :
    Calls P f #[] w fun e w' => ∃ E' v', e = .returned v' ∧ VR E' v v' ∧ Below w.heap.size w w' := by
  have hF : Fresh ren0 h0 A' := fun n h1 h2 => by
    unfold ren0
    rw [if_neg (by omega)]
  refine (((ev_ok hN hm hp (fun _ hC => draw_ok hC) d k).2 f [] h0 v A' h).2 ren0 w #[] (fun g hg => ⟨0, by unfold ren0; rw [if_pos hg]⟩) hM (by simp [VRL]) hF).mono ?_
  rintro e w' ⟨E', v', rfl, h1, h2⟩
  refine ⟨E', v', rfl, h1, h2.frm.os, h2.frm.tape, h2.frm.output, h2.frm.size, fun b hb => h2.frm.block b hb ?_⟩
  rintro ⟨n, o, κ, h3, _, h4, _⟩
  rw [hro n o h3] at h4
  cases h4

/-! ### the table -/
def tabZ : List Int := [1, 10, 100, 1000, 10000, 100000, 1000000, 10000000, 100000000, 1000000000, 10000000000, 100000000000, 1000000000000, 10000000000000, 100000000000000, 1000000000000000, 10000000000000000, 100000000000000000, 1000000000000000000, 10000000000000000000]
theorem tabZ_eq : tabZ = Lib.pow10Tab := by decide +kernel
def heapT (g : Nat) : AH := heap0.set g (.cells (mkCells (tabZ.map (AV.int .u64))) (some (0, 20)) true)
def tabC (cs : Cs) (l : List Int) : Nat → Bool := List.rec (motive := fun _ => Nat → Bool) (fun _ => true) (fun z _ ih i => bc (beqV (.int .u64 z) (cs.get i)) (ih (i + 1)) false) l
def tabOk (h : AH) (g : Nat) : Bool := match h.get g with
  | some (.cells cs (some (0, 20)) _) => tabC cs tabZ 0
  | _ => false
abbrev tabName : String := "internal/strconv.uint64pow10"

theorem tabC_spec {cs : Cs} : ∀ (l : List Int) (i : Nat), tabC cs l i = true → ∀ j z, l[j]? = some z → cs.get (i + j) = some (.int .u64 z)
  | [], _, _, j, z, hz => by simp at hz
  | a :: r, i, h, j, z, hz => by
    have h' : bc (beqV (.int .u64 a) (cs.get i)) (tabC cs r (i + 1)) false = true := h
    rw [bc_and] at h'
    cases j with
    | zero => simp at hz; subst hz; exact beqV_eq h'.1
    | succ j =>
      have := tabC_spec r (i + 1) h'.2 j z (by simpa using hz)
      rwa [show i + 1 + j = i + (j + 1) by omega] at this

theorem tab_is {g : Nat} (hg : P.globalNamed tabName = some g) (hlt : g < 1000) (hGl : Glb E) (hM : MR E A w) (h : tabOk A g = true) : Lib.TabIs P w tabName .u64 Lib.pow10Tab := by
  obtain ⟨κ, hE⟩ := hGl g hlt
  unfold tabOk at h
  split at h
  case h_2 => cases h
  rename_i cs ro hget
  obtain ⟨arr, e, fr, hb, hc, _, h3⟩ := hM.cells hget hE
  have hsz : arr.size = 20 := by
    have := (h3 0 20 rfl).1.2 rfl
    omega
  have harr : arr = (Lib.pow10Tab.map fun z => Value.int .u64 z).toArray := by
    apply Array.ext_getElem?
    intro i
    rw [← tabZ_eq]
    by_cases hi : i < 20
    · have hz : ∃ z, tabZ[i]? = some z := ⟨tabZ[i]'(by simpa [tabZ] using hi), List.getElem?_eq_getElem _⟩
      obtain ⟨z, hz⟩ := hz
      have h1 := tabC_spec tabZ 0 h i z hz
      rw [Nat.zero_add] at h1
      obtain ⟨v', h2, h4⟩ := hc i _ h1
      simp only [VR] at h4
      subst h4
      rw [h2]
      simp [hz]
    · rw [Array.getElem?_eq_none (by omega), Array.getElem?_eq_none (by simp [tabZ]; omega)]
  unfold Lib.TabIs World.var?
  rw [hg]
  simp only [Option.bind_some, hb, harr]

theorem heap0_has (g : Nat) (h : g < 1000) : heap0.objs.has g = true := by
  show Nat.ble (g + 1) 32768 = true
  rw [Nat.ble_eq]; omega
theorem heapT_get {g : Nat} (h : g < 1000) (n : Nat) : (heapT g).get n = if n = g then some (.cells (mkCells (tabZ.map (AV.int .u64))) (some (0, 20)) true) else none := by
  unfold heapT
  rw [AH.get_set _ _ _ _ (heap0_has g h), heap0_get]
theorem heapT_ro {g : Nat} (h : g < 1000) (n : Nat) (o : AObj) (ho : (heapT g).get n = some o) : o.ro = true := by
  rw [heapT_get h] at ho
  split at ho
  · cases ho; rfl
  · cases ho
theorem heapT_mr {g : Nat} (hg : P.globalNamed tabName = some g) (hlt : g < 1000) (h : Lib.TabIs P w tabName .u64 Lib.pow10Tab) : MR ren0 (heapT g) w := by
  unfold Lib.TabIs World.var? at h
  rw [hg] at h
  simp only [Option.bind_some] at h
  split at h
  case h_2 => cases h
  rename_i arr e fr hb
  cases h
  refine ⟨fun n o ho => ?_, fun n m o p b κ κ' hn hm _ _ h1 h2 => ?_⟩
  · rw [heapT_get hlt] at ho
    split at ho
    case isFalse => cases ho
    rename_i hn
    subst hn
    cases ho
    refine ⟨by show n < 1000; exact hlt, n, 0, by unfold ren0; rw [if_pos hlt], _, hb, _, e, fr, rfl, fun i v hv => ?_, fun h => (by cases h), fun sz top hs => ?_⟩
    · rw [mkCells_get] at hv
      rw [← tabZ_eq]
      rw [List.getElem?_map, Option.map_eq_some_iff] at hv
      obtain ⟨z, hz, rfl⟩ := hv
      exact ⟨.int .u64 z, by simp [hz], by simp only [VR]⟩
    · cases hs
      refine ⟨⟨by simp, fun _ => ⟨.inl rfl, by rw [← tabZ_eq]; rfl⟩⟩, fun i v hv => ?_⟩
      rw [mkCells_get] at hv
      have := (List.getElem?_eq_some_iff.1 hv).1
      simpa [tabZ] using this
  · rw [heapT_get hlt] at hn hm
    split at hn
    case isFalse => cases hn
    split at hm
    case isFalse => cases hm
    rename_i a b
    rw [a, b]

/-! ### what is told of events -/
structure EvT where
  kind : Int
  who : Int
  out : Int
  texts : List ByteArray
  place : Int
  why : Int

def cCall : List UInt8 := [99, 97, 108, 108, 32]
def cDone : List UInt8 := [100, 111, 110, 101, 32]
def cBusy : List UInt8 := [98, 117, 115, 121, 32]
def cComm : List UInt8 := [32, 99, 111, 109, 109, 105, 116, 116, 101, 100]
def cAbort : List UInt8 := [32, 97, 98, 111, 114, 116, 101, 100]
def cRej : List UInt8 := [32, 114, 101, 106, 101, 99, 116, 101, 100, 32]
def textsT (l : List ByteArray) : List UInt8 := l.flatMap fun s => 32 :: 34 :: (s.data.toList ++ [34])
def replyT (x : EvT) : List UInt8 := if x.out = 1 then cComm ++ textsT x.texts else if x.out = 2 then cAbort else if x.out = 3 then cRej ++ (Lib.itoa x.place ++ (32 :: Lib.itoa x.why)) else []
def lineT (x : EvT) : List UInt8 := if x.kind = 1 then cCall ++ (Lib.itoa x.who ++ [10]) else if x.kind = 2 then cDone ++ (Lib.itoa x.who ++ (replyT x ++ [10])) else if x.kind = 3 then cBusy ++ (Lib.itoa x.who ++ [10]) else []
def textT (l : List EvT) : List UInt8 := l.flatMap lineT

def in64 (n : Int) : Prop := -9223372036854775808 ≤ n ∧ n ≤ 9223372036854775807
def StrsAt (w : World) (v : Value) (l : List ByteArray) : Prop := ∃ a c, v = .slice a l.length c ∧ (l.length = 0 ∨ ∃ b o, a = some ⟨b, o, none⟩ ∧ b < w.heap.size ∧ ∀ j s, l[j]? = some s → w.cell? ⟨b, o + j, none⟩ = some (.string s))
def EvtAt (w : World) (b o : Nat) (x : EvT) : Prop :=
  w.cell? ⟨b, o, none⟩ = some (.int .i64 x.kind) ∧ w.cell? ⟨b, o + 1, none⟩ = some (.int .i64 x.who) ∧ (∃ a n c, w.cell? ⟨b, o + 2, none⟩ = some (.slice a n c)) ∧ w.cell? ⟨b, o + 3, none⟩ = some (.int .i64 x.out) ∧
  (∃ v, w.cell? ⟨b, o + 4, none⟩ = some v ∧ StrsAt w v x.texts) ∧ w.cell? ⟨b, o + 5, none⟩ = some (.int .i64 x.place) ∧ w.cell? ⟨b, o + 6, none⟩ = some (.int .i64 x.why) ∧ in64 x.who ∧ in64 x.place ∧ in64 x.why
def EvtsAt (w : World) (v : Value) (l : List EvT) : Prop := ∃ a c, v = .slice a l.length c ∧ (l.length = 0 ∨ ∃ b o, a = some ⟨b, o, none⟩ ∧ b < w.heap.size ∧ ∀ j x, l[j]? = some x → EvtAt w b (o + j * 7) x)

/-- what Text comes to -/
def TextOk (P : Program) (f : FuncId) : Prop := Enters P f ∧ ∀ (v : Value) (l : List EvT) (w : World), EvtsAt w v l → Lib.TabIs P w tabName .u64 Lib.pow10Tab → (textT l).length ≤ 1099511627776 → l.length ≤ 1099511627776 →
  Calls P f #[v] w fun e w' => e = .returned (.string ⟨(textT l).toArray⟩) ∧ Below w.heap.size w w'

/-! ### the same, over names -/
def decA (f : Nat) : Nat → List Nat := Nat.rec (motive := fun _ => Nat → List Nat) (fun u => [48 + u]) (fun _ ih u => bc (Nat.ble u 9) [48 + u] (ih (u / 10) ++ [48 + u % 10])) f
def itoaA (n : Int) : List Nat := match n with | .ofNat m => decA 19 m | .negSucc m => 45 :: decA 19 (m + 1)
theorem decA_eq : ∀ (f u : Nat), u < 10 ^ (f + 1) → decA f u = (Lib.decDigits u).map (·.toNat)
  | 0, u, h => by
    have h : u < 10 := by simpa using h
    rw [Lib.decDigits_one h]
    show [48 + u] = [(UInt8.ofNat (48 + u)).toNat]
    rw [UInt8.toNat_ofNat', Nat.mod_eq_of_lt (by omega)]
  | f + 1, u, h => by
    show bc (Nat.ble u 9) [48 + u] (decA f (u / 10) ++ [48 + u % 10]) = _
    by_cases h9 : u < 10
    · have : Nat.ble u 9 = true := by rw [Nat.ble_eq]; omega
      rw [this, bc_true, Lib.decDigits_one h9]
      show [48 + u] = [(UInt8.ofNat (48 + u)).toNat]
      rw [UInt8.toNat_ofNat', Nat.mod_eq_of_lt (by omega)]
    · have : Nat.ble u 9 = false := by
        cases hb : Nat.ble u 9 with
        | false => rfl
        | true => rw [Nat.ble_eq] at hb; omega
      have hd : Lib.decDigits u = Lib.decDigits (u / 10) ++ [UInt8.ofNat (48 + u % 10)] := by rw [Lib.decDigits, dif_neg h9]
      have hl : (UInt8.ofNat (48 + u % 10)).toNat = 48 + u % 10 := by rw [UInt8.toNat_ofNat', Nat.mod_eq_of_lt (by omega)]
      rw [this, bc_false, decA_eq f (u / 10) (by rw [Nat.pow_succ] at h; omega), hd, List.map_append, List.map_cons, hl]
      rfl
theorem itoaA_eq {n : Int} (h : in64 n) : itoaA n = (Lib.itoa n).map (·.toNat) := by
  obtain ⟨h1, h2⟩ := h
  cases n with
  | ofNat m =>
    show decA 19 m = _
    have : Lib.itoa (Int.ofNat m) = Lib.decDigits m := Lib.itoa_nonneg m
    rw [this]
    exact decA_eq 19 m (by simp at h2; omega)
  | negSucc m =>
    show 45 :: decA 19 (m + 1) = _
    have : Lib.itoa (Int.negSucc m) = 45 :: Lib.decDigits (m + 1) := Lib.itoa_neg (m + 1) (by omega)
    rw [this, decA_eq 19 (m + 1) (by omega)]
    rfl

def nB (l : List UInt8) : List Nat := l.map (·.toNat)
def strO (a : AV) : Option (List Nat) := onStr a some
def strsAt (h : AH) (m o n : Nat) : Option (List (List Nat)) := ob (h.get m) fun ob1 => onCells ob1 fun cs _ _ => ob (rdCells cs o n) fun l => mapO strO l
def strsA (h : AH) (v : AV) : Option (List (List Nat)) :=
  match v with
  | .slice none 0 _ => some []
  | .slice (some (m, o)) n _ => strsAt h m o n
  | .gslice m o n _ _ => strsAt h m o n
  | .eslice => some []
  | _ => none
def textsA (l : List (List Nat)) : List Nat := l.flatMap fun s => 32 :: 34 :: (s ++ [34])
def replyA (out a y : Int) (ts : List (List Nat)) : List Nat := bc (eqI out 1) (nB cComm ++ textsA ts) (bc (eqI out 2) (nB cAbort) (bc (eqI out 3) (nB cRej ++ (itoaA a ++ (32 :: itoaA y))) []))
def lineA (k u out a y : Int) (ts : List (List Nat)) : List Nat := bc (eqI k 1) (nB cCall ++ (itoaA u ++ [10])) (bc (eqI k 2) (nB cDone ++ (itoaA u ++ (replyA out a y ts ++ [10]))) (bc (eqI k 3) (nB cBusy ++ (itoaA u ++ [10])) []))
def slB (a : AV) : Bool := match a with | .slice _ _ _ => true | .gslice _ _ _ _ _ => true | .eslice => true | _ => false
theorem slB_ok {a : AV} {v : Value} (h : slB a = true) (hv : VR E a v) : ∃ p n c, v = .slice p n c := by
  unfold slB at h
  split at h
  · rename_i a _ _
    cases a <;> simp only [VR] at hv
    · exact ⟨_, _, _, hv⟩
    · obtain ⟨b, κ, _, rfl⟩ := hv; exact ⟨_, _, _, rfl⟩
  · simp only [VR] at hv; obtain ⟨b, κ, _, _, _, rfl⟩ := hv; exact ⟨_, _, _, rfl⟩
  · simp only [VR] at hv; obtain ⟨a, c, rfl⟩ := hv; exact ⟨_, _, _, rfl⟩
  · cases h
def evtA (h : AH) (l : List AV) : Option (List Nat) :=
  match l with
  | [.int .i64 k, .int .i64 u, ops, .int .i64 out, t, .int .i64 a, .int .i64 y] => og (bc (slB ops) (bc (fitInt (.int .i64 u)) (bc (fitInt (.int .i64 a)) (fitInt (.int .i64 y)) false) false) false) (om (strsA h t) fun ts => lineA k u out a y ts)
  | _ => none
def evtsA (h : AH) (cs : Cs) (n : Nat) : Nat → Option (List Nat) :=
  Nat.rec (motive := fun _ => Nat → Option (List Nat)) (fun _ => some []) (fun _ ih o => ob (rdCells cs o 7) fun l => ob (evtA h l) fun x => om (ih (o + 7)) fun r => x ++ r) n
def evtsAt (h : AH) (m o n : Nat) : Option (List Nat) := og (Nat.ble n 1000000) (ob (h.get m) fun ob1 => onCells ob1 fun cs _ _ => evtsA h cs n o)
def textA (h : AH) (v : AV) : Option (List Nat) :=
  match v with
  | .slice none 0 _ => some []
  | .slice (some (m, o)) n _ => evtsAt h m o n
  | .gslice m o n _ _ => evtsAt h m o n
  | .eslice => some []
  | _ => none
def textP (g : Nat) (l : List AV) (h : AH) : Option (AV × AH) :=
  match l with
  | [v] => og (tabOk h g) (ob (textA h v) fun s => og (Nat.ble (lenN s) 1000000) (some (.str s, h)))
  | _ => none

theorem fitInt_in {n : Int} (h : fitInt (.int .i64 n) = true) : in64 n := by
  obtain ⟨m, i1, _, i3⟩ := keyInt.of (fun _ => none) (.int .i64 n) (.int .i64 n) h (by simp only [VR])
  have i1' : AV.int .i64 n = .int .i64 m := i1
  cases i1'
  exact i3

theorem strs_list : ∀ (l : List AV) (l' : List Value) (r : List (List Nat)), mapO strO l = some r → VRL E l l' → ∃ L : List ByteArray, l' = L.map .string ∧ L.map bytesN = r
  | [], l', r, h, hl => by
    rw [mapO_nil] at h; cases h
    simp only [VRL] at hl
    exact ⟨[], hl, rfl⟩
  | a :: q, l', r, h, hl => by
    simp only [mapO_cons, ob_some, om_some] at h
    obtain ⟨x, hx, y, hy, rfl⟩ := h
    simp only [VRL] at hl
    obtain ⟨v, s, rfl, hv, hs⟩ := hl
    obtain ⟨L, rfl, rfl⟩ := strs_list q s y hy hs
    unfold strO at hx
    rw [onStr_some] at hx
    obtain ⟨t, rfl, hx⟩ := hx
    cases hx
    simp only [VR] at hv
    obtain ⟨t', rfl, rfl⟩ := hv
    exact ⟨t' :: L, rfl, rfl⟩

theorem strs_read (hM : MR E A w) {a : AV} {v : Value} (hv : VR E a v) {r : List (List Nat)} (h : strsA A a = some r) : ∃ l : List ByteArray, StrsAt w v l ∧ l.map bytesN = r := by
  have key : ∀ (m o n b κ c : Nat), E m = some (b, κ) → strsAt A m o n = some r → ∃ l : List ByteArray, StrsAt w (.slice (some ⟨b, o, none⟩) n c) l ∧ l.map bytesN = r := by
    intro m o n b κ c hE h
    simp only [strsAt, ob_some, onCells_some] at h
    obtain ⟨_, hg, cs, g, ro, rfl, l, hl, h⟩ := h
    obtain ⟨arr, e, fr, hb, _⟩ := hM.cells hg hE
    obtain ⟨l', h1, h2, h3⟩ := rd_at hM hg hE hl
    obtain ⟨L, rfl, rfl⟩ := strs_list l l' r h h1
    have hLn : L.length = n := by simpa using h2
    refine ⟨L, ⟨_, _, by rw [hLn], .inr ⟨b, o, rfl, (Array.getElem?_eq_some_iff.1 hb).1, fun j s hj => ?_⟩⟩, rfl⟩
    rw [h3 j (by have := (List.getElem?_eq_some_iff.1 hj).1; omega)]
    simp [hj]
  unfold strsA at h
  split at h
  · cases h
    simp only [VR] at hv
    subst hv
    exact ⟨[], ⟨_, _, rfl, .inl rfl⟩, rfl⟩
  · simp only [VR] at hv
    obtain ⟨b, κ, hE, rfl⟩ := hv
    exact key _ _ _ _ _ _ hE h
  · simp only [VR] at hv
    obtain ⟨b, κ, hE, _, _, rfl⟩ := hv
    exact key _ _ _ _ _ _ hE h
  · cases h
    simp only [VR] at hv
    obtain ⟨a, c, rfl⟩ := hv
    exact ⟨[], ⟨_, _, rfl, .inl rfl⟩, rfl⟩
  · cases h

theorem textsA_eq (l : List ByteArray) : textsA (l.map bytesN) = nB (textsT l) := by
  unfold textsA textsT nB
  induction l with
  | nil => rfl
  | cons s r ih =>
    rw [List.map_cons, List.flatMap_cons, List.flatMap_cons, List.map_append, ih]
    simp [bytesN]
theorem replyA_eq {x : EvT} (h2 : in64 x.place) (h3 : in64 x.why) : replyA x.out x.place x.why (x.texts.map bytesN) = nB (replyT x) := by
  unfold replyA replyT
  rw [eqI_eq, eqI_eq, eqI_eq, textsA_eq, itoaA_eq h2, itoaA_eq h3]
  by_cases a1 : x.out = 1
  · rw [if_pos a1, a1]; simp [bc_true, nB]
  · rw [if_neg a1, show (x.out == 1) = false by simpa using a1, bc_false]
    by_cases a2 : x.out = 2
    · rw [if_pos a2, a2]; simp [bc_true, nB]
    · rw [if_neg a2, show (x.out == 2) = false by simpa using a2, bc_false]
      by_cases a3 : x.out = 3
      · rw [if_pos a3, a3]; simp [bc_true, nB]
      · rw [if_neg a3, show (x.out == 3) = false by simpa using a3, bc_false]; rfl
theorem lineA_eq {x : EvT} (h1 : in64 x.who) (h2 : in64 x.place) (h3 : in64 x.why) : lineA x.kind x.who x.out x.place x.why (x.texts.map bytesN) = nB (lineT x) := by
  unfold lineA lineT
  rw [eqI_eq, eqI_eq, eqI_eq, replyA_eq h2 h3, itoaA_eq h1]
  by_cases a1 : x.kind = 1
  · rw [if_pos a1, a1]; simp [bc_true, nB]
  · rw [if_neg a1, show (x.kind == 1) = false by simpa using a1, bc_false]
    by_cases a2 : x.kind = 2
    · rw [if_pos a2, a2]; simp [bc_true, nB]
    · rw [if_neg a2, show (x.kind == 2) = false by simpa using a2, bc_false]
      by_cases a3 : x.kind = 3
      · rw [if_pos a3, a3]; simp [bc_true, nB]
      · rw [if_neg a3, show (x.kind == 3) = false by simpa using a3, bc_false]; rfl

theorem evts_read (hM : MR E A w) {m b κ : Nat} {cs : Cs} {g : Option (Nat × Nat)} {ro : Bool} (hg : A.get m = some (.cells cs g ro)) (hE : E m = some (b, κ)) : ∀ (n o : Nat) (r : List Nat), evtsA A cs n o = some r →
    ∃ l : List EvT, l.length = n ∧ (∀ j x, l[j]? = some x → EvtAt w b (o + j * 7) x) ∧ nB (textT l) = r
  | 0, o, r, h => by cases h; exact ⟨[], rfl, by simp, rfl⟩
  | n + 1, o, r, h => by
    have h' : (ob (rdCells cs o 7) fun l => ob (evtA A l) fun x => om (evtsA A cs n (o + 7)) fun r => x ++ r) = some r := h
    simp only [ob_some, om_some] at h'
    obtain ⟨l, hl, x, hx, r2, hr2, rfl⟩ := h'
    obtain ⟨L, l1, l2, rfl⟩ := evts_read hM hg hE n (o + 7) r2 hr2
    obtain ⟨l', v1, v2, v3⟩ := rd_at hM hg hE hl
    unfold evtA at hx
    split at hx
    case h_2 => cases hx
    rename_i k u ops out t a y
    rw [og_some, bc_and, bc_and, bc_and, om_some] at hx
    obtain ⟨⟨f0, f1, f2, f3⟩, ts, hts, rfl⟩ := hx
    simp only [VRL] at v1
    obtain ⟨c0, q0, rfl, d0, c1, q1, rfl, d1, c2, q2, rfl, d2, c3, q3, rfl, d3, c4, q4, rfl, d4, c5, q5, rfl, d5, c6, q6, rfl, d6, rfl⟩ := v1
    simp only [VR] at d0 d1 d3 d5 d6
    subst d0 d1 d3 d5 d6
    obtain ⟨T, hT, rfl⟩ := strs_read hM d4 hts
    obtain ⟨p0, n0, k0, rfl⟩ := slB_ok f0 d2
    refine ⟨⟨k, u, out, T, a, y⟩ :: L, by simp [l1], fun j z hj => ?_, ?_⟩
    · cases j with
      | zero =>
        simp at hj
        subst hj
        exact ⟨by simpa using v3 0 (by omega), by simpa using v3 1 (by omega), ⟨p0, n0, k0, by simpa using v3 2 (by omega)⟩, by simpa using v3 3 (by omega), ⟨c4, by simpa using v3 4 (by omega), hT⟩, by simpa using v3 5 (by omega), by simpa using v3 6 (by omega), fitInt_in f1, fitInt_in f2, fitInt_in f3⟩
      | succ j =>
        rw [show o + (j + 1) * 7 = o + 7 + j * 7 by omega]
        exact l2 j z (by simpa using hj)
    · have := lineA_eq (x := ⟨k, u, out, T, a, y⟩) (fitInt_in f1) (fitInt_in f2) (fitInt_in f3)
      simp only at this
      rw [this]
      show nB (lineT _ ++ textT L) = _
      unfold nB
      rw [List.map_append]

theorem text_read (hM : MR E A w) {a : AV} {v : Value} (hv : VR E a v) {r : List Nat} (h : textA A a = some r) : ∃ l : List EvT, EvtsAt w v l ∧ nB (textT l) = r ∧ l.length ≤ 1000000 := by
  have key : ∀ (m o n b κ c : Nat), E m = some (b, κ) → evtsAt A m o n = some r → ∃ l : List EvT, EvtsAt w (.slice (some ⟨b, o, none⟩) n c) l ∧ nB (textT l) = r ∧ l.length ≤ 1000000 := by
    intro m o n b κ c hE h
    simp only [evtsAt, og_some, ob_some, onCells_some] at h
    obtain ⟨hn, _, hg, cs, g, ro, rfl, h⟩ := h
    obtain ⟨arr, e, fr, hb, _⟩ := hM.cells hg hE
    obtain ⟨l, h1, h2, h3⟩ := evts_read hM hg hE n o r h
    rw [Nat.ble_eq] at hn
    exact ⟨l, ⟨_, _, by rw [h1], .inr ⟨b, o, rfl, (Array.getElem?_eq_some_iff.1 hb).1, h2⟩⟩, h3, by omega⟩
  unfold textA at h
  split at h
  · cases h
    simp only [VR] at hv
    subst hv
    exact ⟨[], ⟨_, _, rfl, .inl rfl⟩, rfl, by simp⟩
  · simp only [VR] at hv
    obtain ⟨b, κ, hE, rfl⟩ := hv
    exact key _ _ _ _ _ _ hE h
  · simp only [VR] at hv
    obtain ⟨b, κ, hE, _, _, rfl⟩ := hv
    exact key _ _ _ _ _ _ hE h
  · cases h
    simp only [VR] at hv
    obtain ⟨a, c, rfl⟩ := hv
    exact ⟨[], ⟨_, _, rfl, .inl rfl⟩, rfl, by simp⟩
  · cases h

theorem text_prim {f : FuncId} {g : Nat} (hg : P.globalNamed tabName = some g) (hlt : g < 1000) (hT : TextOk P f) : CallOk P fun x xs A => bc (Nat.beq x f) (textP g xs A) none := by
  intro x xs A v A' h0
  have h : bc (Nat.beq x f) (textP g xs A) none = some (v, A') := h0
  clear h0
  cases hx : Nat.beq x f with
  | false => rw [hx] at h; cases h
  | true =>
    rw [hx, bc_true] at h
    rw [Nat.beq_eq] at hx
    subst hx
    refine ⟨hT.1, fun E w args hGl hM hargs hF => ?_⟩
    unfold textP at h
    split at h
    case h_2 => cases h
    rename_i a
    simp only [og_some, ob_some] at h
    obtain ⟨ht, s, hs, hn, h⟩ := h
    cases h
    simp only [VRL] at hargs
    obtain ⟨y, q, hy, hv, rfl⟩ := hargs
    have ha := Array.toArray_toList (xs := args)
    rw [hy] at ha
    subst ha
    obtain ⟨l, hl, rfl, hlen⟩ := text_read hM hv hs
    rw [Nat.ble_eq, lenN_eq] at hn
    have hn' : (textT l).length ≤ 1000000 := by simpa [nB] using hn
    refine (hT.2 y l w hl (tab_is hg hlt hGl hM ht) (by omega) (by omega)).mono ?_
    rintro e w' ⟨rfl, hbel⟩
    exact ⟨E, _, rfl, by simp only [VR]; exact ⟨_, rfl, by simp [bytesN, nB]⟩, Stp.below hM hbel⟩
end Go.Ev
