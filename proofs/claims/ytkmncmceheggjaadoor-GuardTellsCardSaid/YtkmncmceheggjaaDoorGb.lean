/- Chapter 12: where a text stands in a list; what a word is; the operations. -/
import Derived.Test.YtkmncmceheggjaaDoorGa
import Derived.Deep.LoopGhost
namespace Go.Proofs.YtkmncmceheggjaaDoor
open Go.RowKit
set_option linter.unusedVariables false
set_option linter.unusedSimpArgs false

/-- texts lie in memory -/
def StrsAt (w : World) (b o : Nat) (l : List ByteArray) : Prop := ∀ j, j < l.length → w.cell? ⟨b, o + j, none⟩ = some (.string (l.getD j ⟨#[]⟩))
theorem StrsAt.below {w w' : World} {b o : Nat} {l : List ByteArray} (h : StrsAt w b o l) {B : Nat} (hb : Below B w w') (hB : b < B) : StrsAt w' b o l :=
  fun j hj => (hb.cell (p := ⟨b, _, none⟩) hB).trans (h j hj)

def idxI (l : List ByteArray) (v : List UInt8) : Int := match l.findIdx? (fun x => x.toList == v) with | some i => i | none => -1

theorem idxI_at {l : List ByteArray} {v : List UInt8} {k : Nat} (hk : k < l.length) (h : ∀ j, j < k → ((l.getD j ⟨#[]⟩).toList == v) = false) (hy : ((l.getD k ⟨#[]⟩).toList == v) = true) : idxI l v = k := by
  have : l.findIdx? (fun x => x.toList == v) = some k := by
    rw [List.findIdx?_eq_some_iff_getElem]
    refine ⟨hk, by simpa [hk] using hy, fun j hj => ?_⟩
    have := h j hj
    simpa [Nat.lt_trans hj hk] using this
  simp [idxI, this]
theorem idxI_none {l : List ByteArray} {v : List UInt8} (h : ∀ j, j < l.length → ((l.getD j ⟨#[]⟩).toList == v) = false) : idxI l v = -1 := by
  have : l.findIdx? (fun x => x.toList == v) = none := by
    rw [List.findIdx?_eq_none_iff]
    intro x hx
    obtain ⟨j, hj, rfl⟩ := List.getElem_of_mem hx
    simpa [hj] using h j hj
  simp [idxI, this]
theorem idxI_bd (l : List ByteArray) (v : List UInt8) : -1 ≤ idxI l v ∧ idxI l v < l.length := by
  unfold idxI
  split
  · rename_i i h
    have := (List.findIdx?_eq_some_iff_getElem.1 h).1
    omega
  · omega

set_option maxHeartbeats 1000000 in
theorem index_any (b o cap : Nat) (l : List ByteArray) (v : ByteArray) (w : World) (hl : l.length ≤ 9223372036854775807) (hS : StrsAt w b o l) :
    Calls Tryd.prog 25 #[.slice (some ⟨b, o, none⟩) l.length cap, .string v] w fun e w' => e = .returned (.int .i64 (idxI l v.toList)) ∧ w = w' := by
  have HS := Lib.hid hS; clear hS
  go_enter Tryd.func25, Tryd.ntmps25
  go_wp2_with (fail)
  go_loop [8] (fun i => ∃ k : Nat, k ≤ l.length ∧ i = .int .i64 k ∧ ∀ j, j < k → ((l.getD j ⟨#[]⟩).toList == v.toList) = false) (fun i => l.length - (intOf i).toNat)
  case atStart => exact ⟨0, Nat.zero_le _, rfl, fun j h => by omega⟩
  case round =>
    obtain ⟨k, hk, rfl, hno⟩ := hrel
    have HN := Lib.hid hno; clear hno
    by_cases hlt : k < l.length
    · have hc := HS.out k hlt
      by_cases he : ((l.getD k ⟨#[]⟩).toList == v.toList) = true
      · have hi := idxI_at hlt HN.out he
        have he' : (v.toList == (l.getD k ⟨#[]⟩).toList) = true := by rw [BEq.comm]; exact he
        have HI := Lib.hid hi; clear hi
        clear he
        generalize l.getD k ⟨#[]⟩ = x at *
        go_wp2_with (fail)
        go_ret
        exact ⟨ret_int HI.out.symm, rfl⟩
      · have he0 : ((l.getD k ⟨#[]⟩).toList == v.toList) = false := by simpa using he
        have he' : (v.toList == (l.getD k ⟨#[]⟩).toList) = false := by rw [BEq.comm]; exact he0
        have HE := Lib.hid he0; clear he0
        clear he
        obtain ⟨x, hx⟩ : ∃ x, l.getD k ⟨#[]⟩ = x := ⟨_, rfl⟩
        rw [hx] at hc he'
        clear hx
        go_wp2_with (fail)
        go_round
        case rel =>
          refine ⟨k + 1, by omega, by go_num, fun j hj => ?_⟩
          by_cases e : j = k
          · subst e; exact HE.out
          · exact HN.out j (by omega)
        case measure => simp [intOf]; omega
    · obtain rfl : k = l.length := by omega
      have hi := idxI_none HN.out
      have HI := Lib.hid hi; clear hi
      go_wp2_with (fail)
      go_ret
      exact ⟨ret_int HI.out.symm, rfl⟩

theorem index_none (a : Option Addr) (cap : Nat) (v : ByteArray) (w : World) :
    Calls Tryd.prog 25 #[.slice a 0 cap, .string v] w fun e w' => e = .returned (.int .i64 (-1)) ∧ w = w' := by
  go_enter Tryd.func25, Tryd.ntmps25
  go_wp2_with (fail)
  go_loop [8] (fun i => i = .int .i64 0) (fun _ => 0)
  case atStart => rfl
  case round =>
    subst hrel
    go_wp2_with (fail)
    go_ret
    exact ⟨rfl, rfl⟩

/-- a list of texts that came in, or was made -/
def Strs (w : World) (a : Option Addr) (n : Nat) (l : List ByteArray) : Prop := n = l.length ∧ (n = 0 ∨ ∃ b o, a = some ⟨b, o, none⟩ ∧ b < w.heap.size ∧ StrsAt w b o l)
theorem Strs.below {w w' : World} {a : Option Addr} {n : Nat} {l : List ByteArray} (h : Strs w a n l) (hb : Below w.heap.size w w') : Strs w' a n l := by
  obtain ⟨hn, h0 | ⟨b, o, ha, hlt, hs⟩⟩ := h
  · exact ⟨hn, .inl h0⟩
  · exact ⟨hn, .inr ⟨b, o, ha, Nat.lt_of_lt_of_le hlt hb.size, hs.below hb hlt⟩⟩

theorem index_strs (a : Option Addr) (n cap : Nat) (l : List ByteArray) (v : ByteArray) (w : World) (hn : n ≤ 9223372036854775807) (hS : Strs w a n l) :
    Calls Tryd.prog 25 #[.slice a n cap, .string v] w fun e w' => e = .returned (.int .i64 (idxI l v.toList)) ∧ w = w' := by
  obtain ⟨rfl, h0 | ⟨b, o, rfl, hlt, hs⟩⟩ := hS
  · obtain rfl := List.length_eq_zero_iff.1 h0
    exact index_none a cap v w
  · exact index_any b o cap l v w hn hs

def hasB (l : List ByteArray) (v : List UInt8) : Bool := decide (0 ≤ idxI l v)

theorem contains_strs (a : Option Addr) (n cap : Nat) (l : List ByteArray) (v : ByteArray) (w : World) (hn : n ≤ 9223372036854775807) (hS : Strs w a n l) :
    Calls Tryd.prog 28 #[.slice a n cap, .string v] w fun e w' => e = .returned (.bool (hasB l v.toList)) ∧ w = w' := by
  go_enter Tryd.func28, Tryd.ntmps28
  go_wp2_with (go_at_call 25; refine (index_strs a n cap l v _ hn hS).mono ?_; rintro e w' ⟨rfl, rfl⟩)
  go_ret
  exact ⟨rfl, rfl⟩

/-- what a word is -/
def twoB (s : List UInt8) : Bool := s == [97, 110, 100] || (s == [111, 114] || (s == [108, 116] || (s == [101, 113] || (s == [97, 100, 100] || s == [115, 117, 98]))))
def kindI (s : List UInt8) : Int := if digB s then 1 else if nameB s then 2 else if s == [110, 111, 116] then 3 else if twoB s then 4 else 0

def sixL : List ByteArray := [⟨#[97, 110, 100]⟩, ⟨#[111, 114]⟩, ⟨#[108, 116]⟩, ⟨#[101, 113]⟩, ⟨#[97, 100, 100]⟩, ⟨#[115, 117, 98]⟩]
theorem six_two (s : List UInt8) : decide (0 ≤ idxI sixL s) = twoB s := by
  by_cases h : twoB s = true
  · rw [h]
    simp only [twoB, Bool.or_eq_true, beq_iff_eq] at h
    rcases h with h | h | h | h | h | h
    all_goals (subst h; decide +kernel)
  · have h' : twoB s = false := by simpa using h
    rw [h']
    have : idxI sixL s = -1 := idxI_none (fun j hj => by
      simp only [twoB, Bool.or_eq_false_iff] at h'
      obtain ⟨h0, h1, h2, h3, h4, h5⟩ := h'
      obtain rfl | rfl | rfl | rfl | rfl | rfl : j = 0 ∨ j = 1 ∨ j = 2 ∨ j = 3 ∨ j = 4 ∨ j = 5 := by simp [sixL] at hj; omega
      · rw [BEq.comm, show (sixL.getD 0 ⟨#[]⟩).toList = [97, 110, 100] from ByteArray.toList_mk _]; exact h0
      · rw [BEq.comm, show (sixL.getD 1 ⟨#[]⟩).toList = [111, 114] from ByteArray.toList_mk _]; exact h1
      · rw [BEq.comm, show (sixL.getD 2 ⟨#[]⟩).toList = [108, 116] from ByteArray.toList_mk _]; exact h2
      · rw [BEq.comm, show (sixL.getD 3 ⟨#[]⟩).toList = [101, 113] from ByteArray.toList_mk _]; exact h3
      · rw [BEq.comm, show (sixL.getD 4 ⟨#[]⟩).toList = [97, 100, 100] from ByteArray.toList_mk _]; exact h4
      · rw [BEq.comm, show (sixL.getD 5 ⟨#[]⟩).toList = [115, 117, 98] from ByteArray.toList_mk _]; exact h5)
    rw [this]; rfl
theorem two_res {s : List UInt8} (h : twoB s = true) : resB s = true := by
  simp only [twoB, Bool.or_eq_true] at h
  simp only [resB, Bool.or_eq_true]
  rcases h with h | h | h | h | h | h <;> simp [h]

set_option maxHeartbeats 1000000 in
theorem kind_any (s : ByteArray) (w : World) (hs : s.size ≤ 9223372036854775807) :
    Calls Tryd.prog 23 #[.string s] w fun e w' => e = .returned (.int .i64 (kindI s.toList)) ∧ Below w.heap.size w w' := by
  have dq : ∀ q, digB s.toList = q → ∀ w, Calls Tryd.prog 40 #[.string s] w fun e w' => e = .returned (.bool q) ∧ w = w' := fun q hq w => (digits_any s w hs).mono fun _ _ ⟨he, hw⟩ => ⟨by rw [he, hq], hw⟩
  have nq : ∀ q, nameB s.toList = q → ∀ w, Calls Tryd.prog 16 #[.string s] w fun e w' => e = .returned (.bool q) ∧ w = w' := fun q hq w => (name_any s w hs).mono fun _ _ ⟨he, hw⟩ => ⟨by rw [he, hq], hw⟩
  have DQ := Lib.hid dq; clear dq
  have NQ := Lib.hid nq; clear nq
  by_cases hd : digB s.toList = true
  · have hk : kindI s.toList = 1 := by simp [kindI, hd]
    have HK := Lib.hid hk; clear hk
    have HD := Lib.hid hd; clear hd
    go_enter Tryd.func23, Tryd.ntmps23
    go_wp2_with (fail)
    refine (DQ.out _ HD.out _).mono ?_
    rintro e w' ⟨rfl, rfl⟩
    go_wp2_with (fail)
    go_ret
    exact ⟨ret_int HK.out.symm, Below.refl _ _⟩
  have hd' : digB s.toList = false := by simpa using hd
  by_cases hn : nameB s.toList = true
  · have hk : kindI s.toList = 2 := by simp [kindI, hd', hn]
    have HK := Lib.hid hk; clear hk
    have HD := Lib.hid hd'; clear hd' hd
    have HN := Lib.hid hn; clear hn
    go_enter Tryd.func23, Tryd.ntmps23
    go_wp2_with (fail)
    refine (DQ.out _ HD.out _).mono ?_
    rintro e w' ⟨rfl, rfl⟩
    go_wp2_with (fail)
    refine (NQ.out _ HN.out _).mono ?_
    rintro e w' ⟨rfl, rfl⟩
    go_wp2_with (fail)
    go_ret
    exact ⟨ret_int HK.out.symm, Below.refl _ _⟩
  have hn' : nameB s.toList = false := by simpa using hn
  by_cases h3 : (s.toList == [110, 111, 116]) = true
  · have hk : kindI s.toList = 3 := by simp [kindI, hd', hn', h3]
    have HK := Lib.hid hk; clear hk
    have HD := Lib.hid hd'; clear hd' hd
    have HN := Lib.hid hn'; clear hn' hn
    go_enter Tryd.func23, Tryd.ntmps23
    go_wp2_with (fail)
    refine (DQ.out _ HD.out _).mono ?_
    rintro e w' ⟨rfl, rfl⟩
    go_wp2_with (fail)
    refine (NQ.out _ HN.out _).mono ?_
    rintro e w' ⟨rfl, rfl⟩
    go_wp2_with (fail)
    go_ret
    exact ⟨ret_int HK.out.symm, Below.refl _ _⟩
  have h3' : (s.toList == [110, 111, 116]) = false := by simpa using h3
  have hst := six_two s.toList
  have HST := Lib.hid hst; clear hst
  have hbd := idxI_bd sixL s.toList
  by_cases hr : resB s.toList = true
  · have hk : kindI s.toList = if twoB s.toList then 4 else 0 := by simp [kindI, hd', hn', h3']
    have HK := Lib.hid hk; clear hk
    have HD := Lib.hid hd'; clear hd' hd
    have HN := Lib.hid hn'; clear hn' hn
    have HR := Lib.hid hr; clear hr
    clear h3
    go_enter Tryd.func23, Tryd.ntmps23
    go_wp2_with (fail)
    refine (DQ.out _ HD.out _).mono ?_
    rintro e w' ⟨rfl, rfl⟩
    go_wp2_with (fail)
    refine (NQ.out _ HN.out _).mono ?_
    rintro e w' ⟨rfl, rfl⟩
    go_wp2_with (fail)
    refine (reserved_q _ HR.out _).mono ?_
    rintro e w' ⟨rfl, rfl⟩
    go_wp2_with (fail)
    refine (index_any _ 0 6 sixL s _ (by decide) (fun j hj => by
      obtain rfl | rfl | rfl | rfl | rfl | rfl : j = 0 ∨ j = 1 ∨ j = 2 ∨ j = 3 ∨ j = 4 ∨ j = 5 := by simp [sixL] at hj; omega
      all_goals (rw [World.cell?_alloc_new]; rfl))).mono ?_
    obtain ⟨x, hx⟩ : ∃ x, idxI sixL s.toList = x := ⟨_, rfl⟩
    rw [hx]
    have HST2 := HST.out
    rw [hx] at HST2
    have HS2 := Lib.hid HST2; clear HST2
    rw [hx] at hbd
    clear hx HST
    rintro e w' ⟨rfl, rfl⟩
    by_cases hx0 : 0 ≤ x
    · have hx1 : decide (0 ≤ x) = true := by simpa using hx0
      have h4 : kindI s.toList = 4 := by rw [HK.out, ← HS2.out, hx1]; rfl
      have HK4 := Lib.hid h4; clear h4
      go_wp2_with (fail)
      go_ret
      exact ⟨ret_int HK4.out.symm, (Below.refl _ _).alloc (Nat.le_refl _) _⟩
    · have hx1 : decide (0 ≤ x) = false := by simpa using hx0
      have h4 : kindI s.toList = 0 := by rw [HK.out, ← HS2.out, hx1]; rfl
      have HK4 := Lib.hid h4; clear h4
      go_wp2_with (fail)
      go_ret
      exact ⟨ret_int HK4.out.symm, (Below.refl _ _).alloc (Nat.le_refl _) _⟩
  · have hr' : resB s.toList = false := by simpa using hr
    have ht : twoB s.toList = false := by
      cases h : twoB s.toList
      · rfl
      · rw [two_res h] at hr'; cases hr'
    have hk : kindI s.toList = 0 := by simp [kindI, hd', hn', h3', ht]
    have HK := Lib.hid hk; clear hk
    have HD := Lib.hid hd'; clear hd' hd
    have HN := Lib.hid hn'; clear hn' hn
    have HR := Lib.hid hr'; clear hr hr'
    clear h3 ht
    go_enter Tryd.func23, Tryd.ntmps23
    go_wp2_with (fail)
    refine (DQ.out _ HD.out _).mono ?_
    rintro e w' ⟨rfl, rfl⟩
    go_wp2_with (fail)
    refine (NQ.out _ HN.out _).mono ?_
    rintro e w' ⟨rfl, rfl⟩
    go_wp2_with (fail)
    refine (reserved_q _ HR.out _).mono ?_
    rintro e w' ⟨rfl, rfl⟩
    go_wp2_with (fail)
    go_ret
    exact ⟨ret_int HK.out.symm, Below.refl _ _⟩

/-- a number of a condition -/
def trI (b : Bool) : Int := if b then 1 else 0
theorem truth_any (b : Bool) (w : World) : Calls Tryd.prog 26 #[.bool b] w fun e w' => e = .returned (.int .i64 (trI b)) ∧ w = w' := by
  cases b
  all_goals
    go_enter Tryd.func26, Tryd.ntmps26
    go_wp2
    go_ret
    exact ⟨rfl, rfl⟩

def appI (op : List UInt8) (a b : Int) : Int :=
  if op == [97, 110, 100] then trI (a != 0 && b != 0) else if op == [111, 114] then trI (a != 0 || b != 0) else if op == [108, 116] then trI (decide (a < b)) else if op == [101, 113] then trI (a == b)
  else if op == [97, 100, 100] then wrap64 (a + b) else wrap64 (a - b)

set_option maxHeartbeats 1000000 in
theorem apply_any (op : ByteArray) (a b : Int) (w : World) : Calls Tryd.prog 27 #[.string op, .int .i64 a, .int .i64 b] w fun e w' => e = .returned (.int .i64 (appI op.toList a b)) ∧ w = w' := by
  go_enter Tryd.func27, Tryd.ntmps27
  go_wp2_with (go_at_call 26; refine (truth_any _ _).mono ?_; rintro e w' ⟨rfl, rfl⟩)
  all_goals
    go_ret
    refine ⟨ret_int ?_, rfl⟩
    simp_all [appI]
    try (rename_i h0; rw [show (a != 0) = true by simpa using h0]; rfl)

end Go.Proofs.YtkmncmceheggjaaDoor
