/- Chapter 12: the words of a text. -/
import Derived.Test.YtkmncmceheggjaaDoorGb
import Derived.WalkMore
import Derived.ScopeJumps
import Derived.Deep.AppendLies
import Derived.OwnWalk
import Derived.Deep.RegionHeld3
namespace Go.Proofs.YtkmncmceheggjaaDoor
open Go.RowKit
set_option linter.unusedVariables false
set_option linter.unusedSimpArgs false

/-- As Q; by a goto to one of two labels: what holds there. -/
def Exit.jump2 (l0 l1 : Nat) (J0 J1 : Act → World → Prop) (Q : Exit → Act → World → Prop) : Exit → Act → World → Prop
  | .goto l', a, w => (l' = l0 ∧ J0 a w) ∨ (l' = l1 ∧ J1 a w)
  | e, a, w => Q e a w

section
variable {P : Program} {a : Act} {w : World} {Q : Exit → Act → World → Prop}

/-- A scope with two labels that are jumped back to; a measure that every pass from a label lowers. -/
theorem wp_scope_jumps2 {c r0 r1 : Code} (l0 l1 : Nat) (J0 J1 : Act → World → Prop) (μ0 μ1 : Act → World → Nat) (h0 : findLabel c l0 = some r0) (h1 : findLabel c l1 = some r1)
    (first : c.wp P (Exit.jump2 l0 l1 J0 J1 Q) a w)
    (pass0 : ∀ a w, J0 a w → r0.wp P (Exit.jump2 l0 l1 (fun a' w' => J0 a' w' ∧ μ0 a' w' < μ0 a w) (fun a' w' => J1 a' w' ∧ μ1 a' w' < μ0 a w) Q) a w)
    (pass1 : ∀ a w, J1 a w → r1.wp P (Exit.jump2 l0 l1 (fun a' w' => J0 a' w' ∧ μ0 a' w' < μ1 a w) (fun a' w' => J1 a' w' ∧ μ1 a' w' < μ1 a w) Q) a w) : (Code.scope c).wp P Q a w := by
  intro b k cs
  have hg0 : gotoIn l0 (.inScope c :: k) = some (.code r0 :: .inScope c :: k) := by simp [gotoIn, h0]
  have hg1 : gotoIn l1 (.inScope c :: k) = some (.code r1 :: .inScope c :: k) := by simp [gotoIn, h1]
  have key : ∀ n a w, (μ0 a w = n → J0 a w → ∃ e a' w', Q e a' w' ∧ Arrives P (lone (b.at a (.code r0 :: .inScope c :: k)) cs w) b k cs e a' w') ∧
      (μ1 a w = n → J1 a w → ∃ e a' w', Q e a' w' ∧ Arrives P (lone (b.at a (.code r1 :: .inScope c :: k)) cs w) b k cs e a' w') := by
    intro n
    induction n using Nat.strongRecOn with
    | _ n ih =>
      intro a w
      refine ⟨fun hn hJ => ?_, fun hn hJ => ?_⟩
      · obtain ⟨e, a₁, w₁, hq, harr⟩ := pass0 a w hJ b (.inScope c :: k) cs
        cases e with
        | normal => exact ⟨.normal, a₁, w₁, hq, Steps.trans harr (.one step_inScope)⟩
        | exit id => exact ⟨.exit id, a₁, w₁, hq, fun k' hk => harr k' (by simp [exitTo, hk])⟩
        | goto l' =>
          rcases hq with ⟨rfl, hJ', hlt⟩ | ⟨rfl, hJ', hlt⟩
          · obtain ⟨e₂, a₂, w₂, hq₂, harr₂⟩ := (ih _ (by omega) a₁ w₁).1 rfl hJ'
            exact ⟨e₂, a₂, w₂, hq₂, .of_steps (harr _ hg0) harr₂⟩
          · obtain ⟨e₂, a₂, w₂, hq₂, harr₂⟩ := (ih _ (by omega) a₁ w₁).2 rfl hJ'
            exact ⟨e₂, a₂, w₂, hq₂, .of_steps (harr _ hg1) harr₂⟩
        | ret => exact ⟨_, a₁, w₁, hq, harr⟩
        | panic ch => exact ⟨_, a₁, w₁, hq, harr⟩
        | outgrown => exact ⟨_, a₁, w₁, hq, harr⟩
      · obtain ⟨e, a₁, w₁, hq, harr⟩ := pass1 a w hJ b (.inScope c :: k) cs
        cases e with
        | normal => exact ⟨.normal, a₁, w₁, hq, Steps.trans harr (.one step_inScope)⟩
        | exit id => exact ⟨.exit id, a₁, w₁, hq, fun k' hk => harr k' (by simp [exitTo, hk])⟩
        | goto l' =>
          rcases hq with ⟨rfl, hJ', hlt⟩ | ⟨rfl, hJ', hlt⟩
          · obtain ⟨e₂, a₂, w₂, hq₂, harr₂⟩ := (ih _ (by omega) a₁ w₁).1 rfl hJ'
            exact ⟨e₂, a₂, w₂, hq₂, .of_steps (harr _ hg0) harr₂⟩
          · obtain ⟨e₂, a₂, w₂, hq₂, harr₂⟩ := (ih _ (by omega) a₁ w₁).2 rfl hJ'
            exact ⟨e₂, a₂, w₂, hq₂, .of_steps (harr _ hg1) harr₂⟩
        | ret => exact ⟨_, a₁, w₁, hq, harr⟩
        | panic ch => exact ⟨_, a₁, w₁, hq, harr⟩
        | outgrown => exact ⟨_, a₁, w₁, hq, harr⟩
  obtain ⟨e, a₁, w₁, hq, harr⟩ := first b (.inScope c :: k) cs
  cases e with
  | normal => exact ⟨.normal, a₁, w₁, hq, .head step_scope (Steps.trans harr (.one step_inScope))⟩
  | exit id => exact ⟨.exit id, a₁, w₁, hq, fun k' hk => .head step_scope (harr k' (by simp [exitTo, hk]))⟩
  | goto l' =>
    rcases hq with ⟨rfl, hJ'⟩ | ⟨rfl, hJ'⟩
    · obtain ⟨e₂, a₂, w₂, hq₂, harr₂⟩ := (key _ a₁ w₁).1 rfl hJ'
      exact ⟨e₂, a₂, w₂, hq₂, .of_steps (.head step_scope (harr _ hg0)) harr₂⟩
    · obtain ⟨e₂, a₂, w₂, hq₂, harr₂⟩ := (key _ a₁ w₁).2 rfl hJ'
      exact ⟨e₂, a₂, w₂, hq₂, .of_steps (.head step_scope (harr _ hg1)) harr₂⟩
  | ret => exact ⟨_, a₁, w₁, hq, .of_steps (.one step_scope) harr⟩
  | panic ch => exact ⟨_, a₁, w₁, hq, .of_steps (.one step_scope) harr⟩
  | outgrown => exact ⟨_, a₁, w₁, hq, .of_steps (.one step_scope) harr⟩
end

section
variable {P : Program} {a : Act} {w : World} {Q : Exit → Act → World → Prop}
/-- .. where the scope's own begin comes to the first label as a jump would. -/
theorem wp_scope_jumps2' {c r0 r1 : Code} (l0 l1 : Nat) (J0 J1 : Act → World → Prop) (μ0 μ1 : Act → World → Nat) (h0 : findLabel c l0 = some (Code.skip.seq r0)) (h1 : findLabel c l1 = some r1)
    (pass0 : ∀ a w, J0 a w → r0.wp P (Exit.jump2 l0 l1 (fun a' w' => J0 a' w' ∧ μ0 a' w' < μ0 a w) (fun a' w' => J1 a' w' ∧ μ1 a' w' < μ0 a w) Q) a w)
    (pass1 : ∀ a w, J1 a w → r1.wp P (Exit.jump2 l0 l1 (fun a' w' => J0 a' w' ∧ μ0 a' w' < μ1 a w) (fun a' w' => J1 a' w' ∧ μ1 a' w' < μ1 a w) Q) a w)
    (first : (∀ a w, J0 a w → r0.wp P (Exit.jump2 l0 l1 J0 J1 Q) a w) → c.wp P (Exit.jump2 l0 l1 J0 J1 Q) a w) : (Code.scope c).wp P Q a w :=
  wp_scope_jumps2 l0 l1 J0 J1 μ0 μ1 h0 h1 (first fun a w h => Code.wp_mono (fun e a' w' hq => by
    cases e with
    | goto l' =>
      rcases hq with ⟨hl, hj, _⟩ | ⟨hl, hj, _⟩
      · exact .inl ⟨hl, hj⟩
      · exact .inr ⟨hl, hj⟩
    | normal => exact hq
    | exit id => exact hq
    | ret => exact hq
    | panic ch => exact hq
    | outgrown => exact hq) (pass0 a w h)) (fun a w h => wp_seq (wp_skip (pass0 a w h))) pass1
end

/-- a word: where it stands, its letters -/
abbrev Wd := Nat × List UInt8
/-- the words of what is left of a text, from place i on; is a word open? -/
def wgo : List UInt8 → Nat → Option Wd → List Wd
  | [], _, none => []
  | [], _, some x => [x]
  | c :: l, i, none => if c = 32 then wgo l (i + 1) none else wgo l (i + 1) (some (i, [c]))
  | c :: l, i, some x => if c = 32 then x :: wgo l (i + 1) none else wgo l (i + 1) (some (x.1, x.2 ++ [c]))
def wordsL (s : List UInt8) : List Wd := wgo s 0 none

theorem wgo_len (s : List UInt8) : ∀ i o, (wgo s i o).length ≤ s.length + (if o.isSome then 1 else 0) := by
  induction s with
  | nil => intro i o; cases o <;> simp [wgo]
  | cons c l ih =>
    intro i o
    cases o with
    | none =>
      simp only [wgo]
      split
      · have := ih (i + 1) none; simp at this ⊢; omega
      · have := ih (i + 1) (some (i, [c])); simp at this ⊢; omega
    | some x =>
      simp only [wgo]
      split
      · have := ih (i + 1) none; simp at this ⊢; omega
      · have := ih (i + 1) (some (x.1, x.2 ++ [c])); simp at this ⊢; omega

theorem words_len (s : List UInt8) : (wordsL s).length ≤ s.length := by
  have := wgo_len s 0 none
  unfold wordsL
  simpa using this

/-- words as cells: the text, the place -/
def wcells (l : List Wd) : List Value := l.flatMap fun x => [.string (S x.2), .int .i64 (x.1 : Int)]
theorem wcells_app (l m : List Wd) : wcells (l ++ m) = wcells l ++ wcells m := by simp [wcells]
theorem wcells_len (l : List Wd) : (wcells l).length = l.length * 2 := by
  induction l with
  | nil => rfl
  | cons x l ih => simp only [wcells, List.flatMap_cons] at ih ⊢; simp [ih]; omega

theorem infoW : (Tryd.prog.info? 49).map (fun i => (i.zero, i.size, i.bytes)) = some (some (.agg #[.string ⟨#[]⟩, .int .i64 0]), 2, 24) := by kernel_rfl

def WJ0 (s : ByteArray) (w : World) (a' : Act) (w' : World) : Prop :=
  ∃ (i : Nat) (ws : List Wd) (v u5 u6 u7 u8 u9 u10 u11 u12 u13 u14 u15 u16 u17 u18 u19 u20 u21 u22 u23 u24 u25 u26 u27 u28 u29 u30 u31 u32 u33 u34 u35 u36 u37 u38 : Value), a' = { tmps := #[.string s, undef, .slice none 0 0, v, .int .i64 i, u5, u6, u7, u8, u9, u10, u11, u12, u13, u14, u15, u16, u17, u18, u19, u20, u21, u22, u23, u24, u25, u26, u27, u28, u29, u30, u31, u32, u33, u34, u35, u36, u37, u38], defers := [] } ∧ i ≤ s.size ∧
    wordsL s.toList = ws ++ wgo (s.toList.drop i) i none ∧ w'.ownsRow w.heap.size 49 2 v ws.length (wcells ws) ∧ Below w.heap.size w w'
def WJ1 (s : ByteArray) (w : World) (a' : Act) (w' : World) : Prop :=
  ∃ (i f : Nat) (ws : List Wd) (v u6 u7 u8 u9 u10 u11 u12 u13 u14 u15 u16 u17 u18 u19 u20 u21 u22 u23 u24 u25 u26 u27 u28 u29 u30 u31 u32 u33 u34 u35 u36 u37 u38 : Value), a' = { tmps := #[.string s, undef, .slice none 0 0, v, .int .i64 i, .int .i64 f, u6, u7, u8, u9, u10, u11, u12, u13, u14, u15, u16, u17, u18, u19, u20, u21, u22, u23, u24, u25, u26, u27, u28, u29, u30, u31, u32, u33, u34, u35, u36, u37, u38], defers := [] } ∧ f < i ∧ i ≤ s.size ∧
    wordsL s.toList = ws ++ wgo (s.toList.drop i) i (some (f, (s.toList.drop f).take (i - f))) ∧ w'.ownsRow w.heap.size 49 2 v ws.length (wcells ws) ∧ Below w.heap.size w w'

theorem drop_get (s : ByteArray) (i : Nat) (h : i < s.size) : s.toList.drop i = s[i] :: s.toList.drop (i + 1) := by
  have hl := bytes_len s
  rw [List.drop_eq_getElem_cons (by omega), bytes_get s i h]
theorem words_blank (s : ByteArray) (i : Nat) (h : i < s.size) (h3 : s[i] = 32) : wgo (s.toList.drop (i + 1)) (i + 1) none = wgo (s.toList.drop i) i none := by
  rw [drop_get s i h]; simp [wgo, h3]
theorem words_first (s : ByteArray) (i : Nat) (h : i < s.size) (h3 : ¬ s[i] = 32) : wgo (s.toList.drop (i + 1)) (i + 1) (some (i, (s.toList.drop i).take (i + 1 - i))) = wgo (s.toList.drop i) i none := by
  rw [drop_get s i h]; simp [wgo, h3]
theorem words_more (s : ByteArray) (f i : Nat) (hf : f ≤ i) (h : i < s.size) (h3 : ¬ s[i] = 32) : wgo (s.toList.drop (i + 1)) (i + 1) (some (f, (s.toList.drop f).take (i + 1 - f))) = wgo (s.toList.drop i) i (some (f, (s.toList.drop f).take (i - f))) := by
  have hl := bytes_len s
  rw [drop_get s i h]; simp only [wgo, h3, if_false]
  congr 3
  rw [show i + 1 - f = (i - f) + 1 by omega, List.take_add_one, List.getElem?_drop, show f + (i - f) = i by omega, List.getElem?_eq_getElem (by omega), bytes_get s i h]; rfl

theorem words_end (s : ByteArray) (i : Nat) (hi : i ≤ s.size) (h : ∀ h : i < s.size, s[i] = 32) {x : Wd} : wgo (s.toList.drop i) i (some x) = x :: wgo (s.toList.drop i) i none := by
  by_cases hlt : i < s.size
  · rw [drop_get s i hlt]; simp [wgo, h hlt]
  · have hl := bytes_len s
    rw [List.drop_of_length_le (by omega)]; simp [wgo]
theorem wcells_snoc (ws : List Wd) (s : ByteArray) (f i : Nat) : wcells (ws ++ [(f, (s.toList.drop f).take (i - f))]) = wcells ws ++ [.string (s.extract f i), .int .i64 (f : Int)] := by
  rw [wcells_app]
  have : S ((s.toList.drop f).take (i - f)) = s.extract f i := S_inj (by rw [S_toList, extract_toList])
  simp [wcells, this]

set_option maxRecDepth 100000 in
set_option maxHeartbeats 2000000 in
theorem words_any (s : ByteArray) (w : World) (hs : s.size ≤ 1099511627776) :
    Calls Tryd.prog 22 #[.string s] w fun e w' => ∃ v, e = .returned v ∧ w'.ownsRow w.heap.size 49 2 v (wordsL s.toList).length (wcells (wordsL s.toList)) ∧ Below w.heap.size w w' := by
  obtain ⟨i0, hi0, hz0, hz1, hz2⟩ := info_parts infoW
  have hlen := bytes_len s
  have HLn := Lib.hid hlen; clear hlen
  go_enter Tryd.func22, Tryd.ntmps22
  go_wp2
  refine wp_scope_jumps2' 0 1 (WJ0 s w) (WJ1 s w) (fun a' _ => 2 * (s.size - (intOf (a'.tmps.getD 4 undef)).toNat)) (fun a' _ => 2 * (s.size - (intOf (a'.tmps.getD 4 undef)).toNat) + 1) rfl rfl ?_ ?_ ?_
  · rintro a' w' ⟨i, ws, v, u5, u6, u7, u8, u9, u10, u11, u12, u13, u14, u15, u16, u17, u18, u19, u20, u21, u22, u23, u24, u25, u26, u27, u28, u29, u30, u31, u32, u33, u34, u35, u36, u37, u38, rfl, hi, hw, hown, hb⟩
    have Hw := Lib.hid hw; clear hw
    by_cases he : i = s.size
    · have hE : decide (i = s.size) = true := by simpa using he
      subst he
      go_wp2
      simp only [Exit.jump2]
      go_ret
      refine ⟨_, rfl, ?_, hb⟩
      have := Hw.out
      rw [List.drop_of_length_le (by rw [HLn.out]; omega)] at this
      simp only [wgo, List.append_nil] at this
      rw [this]; exact hown
    · have hlt : i < s.size := by omega
      have HE := Lib.hid he; clear he
      by_cases h32 : s[i] = 32
      · have H3 := Lib.hid h32
        have hB : ((s[i].toNat : Int) == 32) = true := by rw [h32]; rfl
        clear h32
        go_wp2
        rw [show ((i : Int) + 1) = ((i + 1 : Nat) : Int) from rfl]
        go_step3
        refine .inl ⟨rfl, ⟨i + 1, ws, v, _, _, _, _, _, _, _, _, _, _, _, _, _, _, _, _, _, _, _, _, _, _, _, _, _, _, _, _, _, _, _, _, _, _, rfl, by omega, ?_, hown, hb⟩, ?_⟩
        · rw [words_blank s i hlt H3.out]; exact Hw.out
        · simp [intOf]; omega
      · have hB : ((s[i].toNat : Int) == 32) = false := by
          apply Bool.eq_false_iff.mpr; intro h
          have := eq_of_beq h
          exact h32 (UInt8.toNat.inj (by simpa using (by omega : s[i].toNat = 32)))
        have H3 := Lib.hid h32; clear h32
        go_wp2
        go_step3
        go_wp2
        rw [show ((i : Int) + 1) = ((i + 1 : Nat) : Int) from rfl]
        go_step3
        refine .inr ⟨rfl, ⟨i + 1, i, ws, v, _, _, _, _, _, _, _, _, _, _, _, _, _, _, _, _, _, _, _, _, _, _, _, _, _, _, _, _, _, _, _, _, _, rfl, by omega, by omega, ?_, hown, hb⟩, ?_⟩
        · rw [words_first s i hlt H3.out]; exact Hw.out
        · simp [intOf]; omega
  · rintro a' w' ⟨i, f, ws, v, u6, u7, u8, u9, u10, u11, u12, u13, u14, u15, u16, u17, u18, u19, u20, u21, u22, u23, u24, u25, u26, u27, u28, u29, u30, u31, u32, u33, u34, u35, u36, u37, u38, rfl, hf, hi, hw, hown, hb⟩
    have Hw := Lib.hid hw; clear hw
    have hwl : ws.length ≤ s.size := by
      have h1 := words_len s.toList
      rw [Hw.out, List.length_append, HLn.out] at h1
      omega
    by_cases he : i = s.size
    · have hE : decide (i < s.size) = false := by simp; omega
      have hee : ∀ h : i < s.size, s[i] = 32 := fun h => absurd h (by omega)
      have HE := Lib.hid hee; clear hee he
      go_wp2_with (at_builtin; refine wpList_append_lies _ rfl _ _ _ rfl w.heap.size 49 i0 _ 2 24 (by kernel_rfl) hi0 hz0 hz1 hz2 rfl (by omega) v ws.length (wcells ws) rfl (hown.alloc _) ⟨w'.heap.size, 0, none⟩ 1 1 [.string (s.extract f i), .int .i64 f] rfl rfl (World.news_of_block (cs := #[.string (s.extract f i), .int .i64 f]) (t := 49) (fr := (0, 0)) (heap_alloc_new w' _)) (by simp [Value.oneCell']) (by omega) (by unfold maxLen; omega) (by omega) (by have := hb.size; simp; omega) (w'.heap.size + 1) (by simp) ?_; intro gg cap' w1 hown1 hgrow hat hlt2)
      have hb2 : Below w.heap.size w w1 := (hb.alloc hb.size _).grown hgrow (by have := hb.size; simp; omega) (fun j hj => (hown.lt j hj).1)
      go_step3
      refine .inl ⟨rfl, ⟨i, ws ++ [(f, (s.toList.drop f).take (i - f))], _, _, _, _, _, _, _, _, _, _, _, _, _, _, _, _, _, _, _, _, _, _, _, _, _, _, _, _, _, _, _, _, _, _, _, rfl, hi, ?_, ?_, hb2⟩, ?_⟩
      · rw [List.append_assoc, List.singleton_append, ← words_end s i hi HE.out]; exact Hw.out
      · rw [wcells_snoc]; simpa using hown1
      · simp [intOf]
    · have hlt : i < s.size := by omega
      clear he
      by_cases h32 : s[i] = 32
      · have hee : ∀ h : i < s.size, s[i] = 32 := fun _ => h32
        have HE := Lib.hid hee; clear hee
        have hB : ((s[i].toNat : Int) == 32) = true := by rw [h32]; rfl
        clear h32
        go_wp2_with (at_builtin; refine wpList_append_lies _ rfl _ _ _ rfl w.heap.size 49 i0 _ 2 24 (by kernel_rfl) hi0 hz0 hz1 hz2 rfl (by omega) v ws.length (wcells ws) rfl (hown.alloc _) ⟨w'.heap.size, 0, none⟩ 1 1 [.string (s.extract f i), .int .i64 f] rfl rfl (World.news_of_block (cs := #[.string (s.extract f i), .int .i64 f]) (t := 49) (fr := (0, 0)) (heap_alloc_new w' _)) (by simp [Value.oneCell']) (by omega) (by unfold maxLen; omega) (by omega) (by have := hb.size; simp; omega) (w'.heap.size + 1) (by simp) ?_; intro gg cap' w1 hown1 hgrow hat hlt2)
        have hb2 : Below w.heap.size w w1 := (hb.alloc hb.size _).grown hgrow (by have := hb.size; simp; omega) (fun j hj => (hown.lt j hj).1)
        go_step3
        refine .inl ⟨rfl, ⟨i, ws ++ [(f, (s.toList.drop f).take (i - f))], _, _, _, _, _, _, _, _, _, _, _, _, _, _, _, _, _, _, _, _, _, _, _, _, _, _, _, _, _, _, _, _, _, _, _, rfl, hi, ?_, ?_, hb2⟩, ?_⟩
        · rw [List.append_assoc, List.singleton_append, ← words_end s i hi HE.out]; exact Hw.out
        · rw [wcells_snoc]; simpa using hown1
        · simp [intOf]
      · have hB : ((s[i].toNat : Int) == 32) = false := by
          apply Bool.eq_false_iff.mpr; intro h
          have := eq_of_beq h
          exact h32 (UInt8.toNat.inj (by simpa using (by omega : s[i].toNat = 32)))
        have H3 := Lib.hid h32; clear h32
        go_wp2
        rw [show ((i : Int) + 1) = ((i + 1 : Nat) : Int) from rfl]
        go_step3
        refine .inr ⟨rfl, ⟨i + 1, f, ws, v, _, _, _, _, _, _, _, _, _, _, _, _, _, _, _, _, _, _, _, _, _, _, _, _, _, _, _, _, _, _, _, _, _, rfl, by omega, by omega, ?_, hown, hb⟩, ?_⟩
        · rw [words_more s f i (by omega) hlt H3.out]; exact Hw.out
        · simp [intOf]; omega
  · intro hp
    go_wp2
    go_step3
    simp only [Exit.then]
    rename_i K hK
    refine hK _ _ (hp _ _ ?_)
    exact ⟨0, [], .slice none 0 0, _, _, _, _, _, _, _, _, _, _, _, _, _, _, _, _, _, _, _, _, _, _, _, _, _, _, _, _, _, _, _, _, _, _, rfl, by omega, rfl, World.ownsRow_nil _ _ _ _, Below.refl _ _⟩

end Go.Proofs.YtkmncmceheggjaaDoor
