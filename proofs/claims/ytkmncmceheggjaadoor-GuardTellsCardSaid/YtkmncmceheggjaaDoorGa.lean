/- Chapter 12: contracts of the words' small functions. -/
import Derived.Test.YtkmncmceheggjaaDoorProg
import Derived.WalkKit
import Derived.WalkSpells
import Derived.WalkLawsBesides
import Derived.Lib.Hide
import Derived.Deep.QuietTactic
import Derived.BigQuiet
namespace Go.Proofs.YtkmncmceheggjaaDoor
open Go.RowKit

theorem ret_int {k : IntKind} {a b : Int} (h : a = b) : Ending.returned (.int k a) = .returned (.int k b) := by rw [h]
theorem ret_bool {a b : Bool} (h : a = b) : Ending.returned (.bool a) = .returned (.bool b) := by rw [h]

/-- the words that are no names -/
def resB (s : List UInt8) : Bool := s == [110, 111, 116] || (s == [97, 110, 100] || (s == [111, 114] || (s == [108, 116] || (s == [101, 113] || (s == [97, 100, 100] || (s == [115, 117, 98] || (s == [116, 121, 112, 101] || (s == [97, 116, 116, 114] || (s == [115, 116, 97, 103, 101] || s == [109, 97, 114, 107])))))))))

set_option maxHeartbeats 1000000 in
theorem reserved_any (s : ByteArray) (w : World) :
    Calls Tryd.prog 35 #[.string s] w fun e w' => e = .returned (.bool (resB s.toList)) ∧ w = w' := by
  go_enter Tryd.func35, Tryd.ntmps35
  go_wp2
  all_goals
    go_ret
    refine ⟨ret_bool ?_, rfl⟩
    unfold resB
    simp_all

theorem reserved_q (s : ByteArray) {q : Bool} (h : resB s.toList = q) (w : World) :
    Calls Tryd.prog 35 #[.string s] w fun e w' => e = .returned (.bool q) ∧ w = w' :=
  (reserved_any s w).mono fun _ _ ⟨he, hw⟩ => ⟨by rw [he, h], hw⟩

/-- small letters -/
def lowB (c : UInt8) : Bool := decide (97 ≤ c.toNat ∧ c.toNat ≤ 122)
def nameB (s : List UInt8) : Bool := decide (1 ≤ s.length ∧ s.length ≤ 12) && !resB s && s.all lowB

theorem all_get {p : UInt8 → Bool} {l : List UInt8} : l.all p = true ↔ ∀ j, (h : j < l.length) → p l[j] = true := by
  rw [List.all_eq_true]
  constructor
  · intro h j hj; exact h _ (List.getElem_mem hj)
  · intro h x hx
    obtain ⟨j, hj, rfl⟩ := List.getElem_of_mem hx
    exact h j hj

theorem bytes_get (s : ByteArray) (j : Nat) (h : j < s.size) (h' : j < s.toList.length) : s.toList[j] = s[j] := by
  simp only [ByteArray.toList_eq]; rfl
theorem bytes_len (s : ByteArray) : s.toList.length = s.size := by rw [ByteArray.toList_eq]; simp

set_option maxHeartbeats 1000000 in
theorem name_any (s : ByteArray) (w : World) (hs : s.size ≤ 9223372036854775807) :
    Calls Tryd.prog 16 #[.string s] w fun e w' => e = .returned (.bool (nameB s.toList)) ∧ w = w' := by
  have hl : s.toList.length = s.size := by rw [ByteArray.toList_eq]; simp
  by_cases h0 : s.toList = []
  · have hn : nameB s.toList = false := by rw [h0]; rfl
    have e1 : (s.toList == []) = true := by simpa using h0
    have e2 : s.toList.isEmpty = true := by simpa using h0
    have HN := Lib.hid hn; clear hn
    clear h0 hl
    go_enter Tryd.func16, Tryd.ntmps16
    go_wp2_with (fail)
    go_ret
    exact ⟨ret_bool HN.out.symm, rfl⟩
  · have e0 : s.toList.isEmpty = false := by simpa using h0
    have e1 : (s.toList == []) = false := by simpa using h0
    have h1 : 1 ≤ s.size := by
      rcases Nat.eq_zero_or_pos s.size with h | h
      · exact (h0 (List.length_eq_zero_iff.1 (by omega))).elim
      · exact h
    by_cases h12 : 12 < s.size
    · have hn : nameB s.toList = false := by
        have : decide (1 ≤ s.toList.length ∧ s.toList.length ≤ 12) = false := decide_eq_false (by omega)
        simp [nameB, this]
      have e3 : decide ((12 : Int) < (s.size : Int)) = true := by simp; omega
      have HN := Lib.hid hn; clear hn
      clear h0 hl
      go_enter Tryd.func16, Tryd.ntmps16
      go_wp2_with (fail)
      go_ret
      exact ⟨ret_bool HN.out.symm, rfl⟩
    · have e3 : decide ((12 : Int) < (s.size : Int)) = false := by simp; omega
      by_cases hr : resB s.toList = true
      · have hn : nameB s.toList = false := by simp [nameB, hr]
        have HN := Lib.hid hn; clear hn
        have HR := Lib.hid hr; clear hr
        clear h0 hl
        go_enter Tryd.func16, Tryd.ntmps16
        go_wp2_with (go_at_call 35; refine (reserved_q _ HR.out _).mono ?_; rintro e w' ⟨rfl, rfl⟩)
        go_ret
        exact ⟨ret_bool HN.out.symm, rfl⟩
      · have hr' : resB s.toList = false := by simpa using hr
        have hn : nameB s.toList = s.toList.all lowB := by
          have : decide (1 ≤ s.toList.length ∧ s.toList.length ≤ 12) = true := decide_eq_true (by omega)
          simp [nameB, this, hr']
        have HN := Lib.hid hn; clear hn
        have HR := Lib.hid hr'; clear hr' hr
        have HL := Lib.hid hl; clear hl
        clear h0
        go_enter Tryd.func16, Tryd.ntmps16
        go_wp2_with (go_at_call 35; refine (reserved_q _ HR.out _).mono ?_; rintro e w' ⟨rfl, rfl⟩)
        go_loop [17] (fun i => ∃ k : Nat, k ≤ s.size ∧ i = .int .i64 k ∧ ∀ j, (h : j < k) → (h' : j < s.size) → lowB s[j] = true) (fun i => s.size - (intOf i).toNat)
        case atStart => exact ⟨0, Nat.zero_le _, rfl, fun j h => by omega⟩
        case round =>
          obtain ⟨k, hk, rfl, hok⟩ := hrel
          have HO := Lib.hid hok; clear hok
          by_cases hlt : k < s.size
          · by_cases hb : lowB s[k] = true
            · have hb' : 97 ≤ s[k].toNat ∧ s[k].toNat ≤ 122 := by simpa [lowB] using hb
              obtain ⟨b1, b2⟩ := hb'
              have HB := Lib.hid hb; clear hb
              have hq1 : decide ((s[k].toNat : Int) < 97) = false := by simp; omega
              have hq2 : decide ((122 : Int) < (s[k].toNat : Int)) = false := by simp; omega
              go_wp2_with (fail)
              go_round
              case rel =>
                refine ⟨k + 1, by omega, by go_num, fun j hj hj' => ?_⟩
                by_cases e : j = k
                · subst e; exact HB.out
                · exact HO.out j (by omega) hj'
              case measure => simp [intOf]; omega
            · have hno : false = nameB s.toList := by
                rw [HN.out]
                symm
                rw [Bool.eq_false_iff]
                intro hall
                exact hb ((bytes_get s k hlt (by rw [HL.out]; exact hlt)) ▸ all_get.1 hall k (by rw [HL.out]; exact hlt))
              have hb' : ¬ (97 ≤ s[k].toNat ∧ s[k].toNat ≤ 122) := by simpa [lowB] using hb
              have HB := Lib.hid hno; clear hno hb
              by_cases h97 : s[k].toNat < 97
              · have hq1 : decide ((s[k].toNat : Int) < 97) = true := by simp; omega
                clear hb'
                go_wp2_with (fail)
                go_ret
                exact ⟨ret_bool HB.out, rfl⟩
              · have hq1 : decide ((s[k].toNat : Int) < 97) = false := by simp; omega
                have hq2 : decide ((122 : Int) < (s[k].toNat : Int)) = true := by simp; omega
                clear hb'
                go_wp2_with (fail)
                go_ret
                exact ⟨ret_bool HB.out, rfl⟩
          · obtain rfl : k = s.size := by omega
            have hyes : true = nameB s.toList := by
              rw [HN.out]
              symm
              rw [all_get]
              intro j hj
              rw [bytes_get s j (by rw [← HL.out]; exact hj)]
              exact HO.out j (by rw [← HL.out]; exact hj) _
            have HY := Lib.hid hyes; clear hyes
            go_wp2_with (fail)
            go_ret
            exact ⟨ret_bool HY.out, rfl⟩

/-- a string out of its bytes -/
def S (l : List UInt8) : ByteArray := ⟨l.toArray⟩
@[simp] theorem S_toList (l : List UInt8) : (S l).toList = l := ByteArray.toList_mk l
theorem S_size (l : List UInt8) : (S l).size = l.length := by simp [S, ByteArray.size]
theorem S_of (s : ByteArray) : S s.toList = s := by
  rw [ByteArray.toList_eq]; cases s; simp [S]
theorem S_inj {a b : ByteArray} (h : a.toList = b.toList) : a = b := by rw [← S_of a, ← S_of b, h]
theorem extract_toList (s : ByteArray) (a b : Nat) : (s.extract a b).toList = (s.toList.drop a).take (b - a) := by
  rw [ByteArray.toList_eq, ByteArray.toList_eq, ByteArray.data_extract]
  simp [Array.toList_extract, List.extract]

/-- figures -/
def figB (c : UInt8) : Bool := decide (48 ≤ c.toNat ∧ c.toNat ≤ 57)
def trimM (s : List UInt8) : List UInt8 := match s with | c :: l => if c = 45 then l else s | [] => []
def digB (s : List UInt8) : Bool := decide (1 ≤ (trimM s).length ∧ (trimM s).length ≤ 4) && (trimM s).all figB

set_option maxHeartbeats 1000000 in
theorem trim_any (s : ByteArray) (w : World) (hs : s.size ≤ 9223372036854775807) :
    Calls Tryd.prog 46 #[.string s, .string ⟨#[45]⟩] w fun e w' => e = .returned (.string (S (trimM s.toList))) ∧ w = w' := by
  have key : ∀ t : ByteArray, t.toList = trimM s.toList → Ending.returned (.string t) = .returned (.string (S (trimM s.toList))) := fun t ht => by rw [← ht, S_of]
  have HK := Lib.hid key; clear key
  have hlen := bytes_len s
  have HLn := Lib.hid hlen; clear hlen
  go_enter Tryd.func46, Tryd.ntmps46
  go_wp2
  · rename_i h1 h2
    go_ret
    refine ⟨HK.out _ ?_, rfl⟩
    have hl := HLn.out
    simp only [extract_toList, beq_iff_eq] at h2 ⊢
    cases hc : s.toList with
    | nil => rw [hc] at hl; simp at hl; omega
    | cons c l =>
      rw [hc] at h2
      simp at h2
      subst h2
      rw [hc] at hl
      simp [trimM, ← hl]
  · rename_i h1 h2
    go_ret
    refine ⟨HK.out _ ?_, rfl⟩
    have hl := HLn.out
    simp only [extract_toList] at h2
    cases hc : s.toList with
    | nil => rfl
    | cons c l =>
      rw [hc] at h2
      simp at h2
      simp [trimM, h2]
  · rename_i h1 h2
    go_ret
    refine ⟨HK.out _ ?_, rfl⟩
    have hl := HLn.out
    have : s.toList = [] := List.length_eq_zero_iff.1 (by omega)
    rw [this]; rfl

set_option maxHeartbeats 1000000 in
theorem digits_any (s : ByteArray) (w : World) (hs : s.size ≤ 9223372036854775807) :
    Calls Tryd.prog 40 #[.string s] w fun e w' => e = .returned (.bool (digB s.toList)) ∧ w = w' := by
  obtain ⟨t, ht⟩ : ∃ t, t = S (trimM s.toList) := ⟨_, rfl⟩
  have htl : t.toList = trimM s.toList := by rw [ht, S_toList]
  have hl := bytes_len t
  have hd : digB s.toList = (decide (1 ≤ t.toList.length ∧ t.toList.length ≤ 4) && t.toList.all figB) := by rw [htl]; rfl
  have hts : t.size ≤ 9223372036854775807 := by
    have h1 := bytes_len s
    have : (trimM s.toList).length ≤ s.toList.length := by
      cases hc : s.toList with
      | nil => simp [trimM]
      | cons c l => simp only [trimM]; split <;> simp
    rw [ht, S_size]; omega
  have HT := Lib.hid ht; clear ht
  clear htl
  by_cases h0 : t.toList = []
  · have hn : digB s.toList = false := by rw [hd, h0]; rfl
    have e1 : (t.toList == []) = true := by simpa using h0
    have e2 : t.toList.isEmpty = true := by simpa using h0
    have HN := Lib.hid hn; clear hn
    clear h0 hl hd
    go_enter Tryd.func40, Tryd.ntmps40
    go_wp2_with (fail)
    refine (trim_any s _ hs).mono ?_
    rw [← HT.out]
    rintro e w' ⟨rfl, rfl⟩
    go_wp2_with (fail)
    go_ret
    exact ⟨ret_bool HN.out.symm, rfl⟩
  · have e0 : t.toList.isEmpty = false := by simpa using h0
    have e1 : (t.toList == []) = false := by simpa using h0
    have h1 : 1 ≤ t.size := by
      rcases Nat.eq_zero_or_pos t.size with h | h
      · exact (h0 (List.length_eq_zero_iff.1 (by omega))).elim
      · exact h
    by_cases h4 : 4 < t.size
    · have hn : digB s.toList = false := by
        have : decide (1 ≤ t.toList.length ∧ t.toList.length ≤ 4) = false := decide_eq_false (by omega)
        simp [hd, this]
      have e3 : decide ((4 : Int) < (t.size : Int)) = true := by simp; omega
      have HN := Lib.hid hn; clear hn
      clear h0 hl hd
      go_enter Tryd.func40, Tryd.ntmps40
      go_wp2_with (fail)
      refine (trim_any s _ hs).mono ?_
      rw [← HT.out]
      rintro e w' ⟨rfl, rfl⟩
      go_wp2_with (fail)
      go_ret
      exact ⟨ret_bool HN.out.symm, rfl⟩
    · have e3 : decide ((4 : Int) < (t.size : Int)) = false := by simp; omega
      have hn : digB s.toList = t.toList.all figB := by
        have : decide (1 ≤ t.toList.length ∧ t.toList.length ≤ 4) = true := decide_eq_true (by omega)
        simp [hd, this]
      have HN := Lib.hid hn; clear hn
      have HL := Lib.hid hl; clear hl
      clear h0 hd
      go_enter Tryd.func40, Tryd.ntmps40
      go_wp2_with (fail)
      refine (trim_any s _ hs).mono ?_
      rw [← HT.out]
      rintro e w' ⟨rfl, rfl⟩
      go_wp2_with (fail)
      go_loop [15] (fun i => ∃ k : Nat, k ≤ t.size ∧ i = .int .i64 k ∧ ∀ j, (h : j < k) → (h' : j < t.size) → figB t[j] = true) (fun i => t.size - (intOf i).toNat)
      case atStart => exact ⟨0, Nat.zero_le _, rfl, fun j h => by omega⟩
      case round =>
        obtain ⟨k, hk, rfl, hok⟩ := hrel
        have HO := Lib.hid hok; clear hok
        by_cases hlt : k < t.size
        · by_cases hb : figB t[k] = true
          · have hb' : 48 ≤ t[k].toNat ∧ t[k].toNat ≤ 57 := by simpa [figB] using hb
            obtain ⟨b1, b2⟩ := hb'
            have HB := Lib.hid hb; clear hb
            have hq1 : decide ((t[k].toNat : Int) < 48) = false := by simp; omega
            have hq2 : decide ((57 : Int) < (t[k].toNat : Int)) = false := by simp; omega
            go_wp2_with (fail)
            go_round
            case rel =>
              refine ⟨k + 1, by omega, by go_num, fun j hj hj' => ?_⟩
              by_cases e : j = k
              · subst e; exact HB.out
              · exact HO.out j (by omega) hj'
            case measure => simp [intOf]; omega
          · have hno : false = digB s.toList := by
              rw [HN.out]
              symm
              rw [Bool.eq_false_iff]
              intro hall
              exact hb ((bytes_get t k hlt (by rw [HL.out]; exact hlt)) ▸ all_get.1 hall k (by rw [HL.out]; exact hlt))
            have hb' : ¬ (48 ≤ t[k].toNat ∧ t[k].toNat ≤ 57) := by simpa [figB] using hb
            have HB := Lib.hid hno; clear hno hb
            by_cases h97 : t[k].toNat < 48
            · have hq1 : decide ((t[k].toNat : Int) < 48) = true := by simp; omega
              clear hb'
              go_wp2_with (fail)
              go_ret
              exact ⟨ret_bool HB.out, rfl⟩
            · have hq1 : decide ((t[k].toNat : Int) < 48) = false := by simp; omega
              have hq2 : decide ((57 : Int) < (t[k].toNat : Int)) = true := by simp; omega
              clear hb'
              go_wp2_with (fail)
              go_ret
              exact ⟨ret_bool HB.out, rfl⟩
        · obtain rfl : k = t.size := by omega
          have hyes : true = digB s.toList := by
            rw [HN.out]
            symm
            rw [all_get]
            intro j hj
            rw [bytes_get t j (by rw [← HL.out]; exact hj)]
            exact HO.out j (by rw [← HL.out]; exact hj) _
          have HY := Lib.hid hyes; clear hyes
          go_wp2_with (fail)
          go_ret
          exact ⟨ret_bool HY.out, rfl⟩

end Go.Proofs.YtkmncmceheggjaaDoor
