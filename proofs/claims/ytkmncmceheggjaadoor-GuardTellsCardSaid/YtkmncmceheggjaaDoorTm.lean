/- The reference's small functions, Words, Number, Put and Uses. -/
import Derived.Test.YtkmncmceheggjaaDoorGj
import Derived.Test.YtkmncmceheggjaaDoorUp
import Derived.Test.YtkmncmceheggjaaDoorGy
set_option linter.unusedVariables false
set_option linter.unusedSimpArgs false
namespace Go.Proofs.YtkmncmceheggjaaDoor
open Go.RowKit

theorem ret_intp {k : IntKind} {a b : Int} (h : a = b) : Ending.returned (.int k a) = .returned (.int k b) := by rw [h]
/-- of how many guards an operation is -/
def takI (s : List UInt8) : Int := if s == [110, 111, 116] then 1 else if twoB s then 2 else 0
set_option maxHeartbeats 1000000 in
theorem takes_any (s : ByteArray) (w : World) : Calls Tryd.prog 32 #[.string s] w fun e w' => e = .returned (.int .i64 (takI s.toList)) ∧ w = w' := by
  go_enter Tryd.func32, Tryd.ntmps32
  go_wp2
  all_goals
    go_ret
    refine ⟨ret_intp ?_, rfl⟩
    unfold takI twoB
    simp_all
theorem refTruth_any (b : Bool) (w : World) : Calls Tryd.prog 43 #[.bool b] w fun e w' => e = .returned (.int .i64 (trI b)) ∧ w = w' := by
  cases b
  all_goals
    go_enter Tryd.func43, Tryd.ntmps43
    go_wp2
    go_ret
    exact ⟨rfl, rfl⟩
theorem tak_pos (s : List UInt8) : decide (0 < takI s) = (s == [110, 111, 116] || twoB s) := by
  unfold takI
  cases h1 : s == [110, 111, 116] <;> cases h2 : twoB s <;> simp
theorem res_tak (s : List UInt8) : resB s = (decide (0 < takI s) || (s == [116, 121, 112, 101] || (s == [97, 116, 116, 114] || (s == [115, 116, 97, 103, 101] || s == [109, 97, 114, 107])))) := by
  rw [tak_pos]
  unfold resB twoB
  simp only [Bool.or_assoc]

set_option maxHeartbeats 2000000 in
theorem refName_any (s : ByteArray) (w : World) (hs : s.size ≤ 9223372036854775807) :
    Calls Tryd.prog 17 #[.string s] w fun e w' => e = .returned (.bool (nameB s.toList)) ∧ w = w' := by
  have hl := bytes_len s
  have HL := Lib.hid hl
  clear hl
  go_enter Tryd.func17, Tryd.ntmps17
  go_wp2_with (fail)
  go_loop [3] (fun i => ∃ k : Nat, k ≤ s.size ∧ i = .int .i64 k ∧ ∀ j, (h : j < k) → (h' : j < s.size) → lowB s[j] = true) (fun i => s.size - (intOf i).toNat)
  case atStart => exact ⟨0, Nat.zero_le _, rfl, fun j h => by omega⟩
  case round =>
    obtain ⟨k, hk, rfl, hok⟩ := hrel
    have HO := Lib.hid hok; clear hok
    by_cases hlt : k < s.size
    · by_cases hb : lowB s[k] = true
      · have hb' : 97 ≤ s[k].toNat ∧ s[k].toNat ≤ 122 := by simpa [lowB] using hb
        obtain ⟨b1, b2⟩ := hb'
        have HB := Lib.hid hb; clear hb
        have hq1 : decide ((s[k].toNat : Int) < 97) = false := by simp; omega
        have hq2 : decide ((122 : Int) < (s[k].toNat : Int)) = false := by simp; omega
        go_wp2_with (fail)
        go_round
        case rel =>
          refine ⟨k + 1, by omega, by go_num, fun j hj hj' => ?_⟩
          by_cases e : j = k
          · subst e; exact HB.out
          · exact HO.out j (by omega) hj'
        case measure => simp [intOf]; omega
      · have hno : false = nameB s.toList := by
          symm
          rw [Bool.eq_false_iff]
          intro hall
          unfold nameB at hall
          rw [Bool.and_eq_true] at hall
          exact hb ((bytes_get s k hlt (by rw [HL.out]; exact hlt)) ▸ all_get.1 hall.2 k (by rw [HL.out]; exact hlt))
        have hb' : ¬ (97 ≤ s[k].toNat ∧ s[k].toNat ≤ 122) := by simpa [lowB] using hb
        have HB := Lib.hid hno; clear hno hb
        by_cases h97 : s[k].toNat < 97
        · have hq1 : decide ((s[k].toNat : Int) < 97) = true := by simp; omega
          clear hb'
          go_wp2_with (fail)
          go_ret
          exact ⟨ret_bool HB.out, rfl⟩
        · have hq1 : decide ((s[k].toNat : Int) < 97) = false := by simp; omega
          have hq2 : decide ((122 : Int) < (s[k].toNat : Int)) = true := by simp; omega
          clear hb'
          go_wp2_with (fail)
          go_ret
          exact ⟨ret_bool HB.out, rfl⟩
    · obtain rfl : k = s.size := by omega
      have hyes : s.toList.all lowB = true := by
        rw [all_get]
        intro j hj
        rw [bytes_get s j (by rw [← HL.out]; exact hj)]
        exact HO.out j (by rw [← HL.out]; exact hj) _
      have hn : nameB s.toList = (decide (1 ≤ s.size ∧ s.size ≤ 12) && !(decide (0 < takI s.toList) || (s.toList == [116, 121, 112, 101] || (s.toList == [97, 116, 116, 114] || (s.toList == [115, 116, 97, 103, 101] || s.toList == [109, 97, 114, 107]))))) := by
        unfold nameB
        rw [hyes, Bool.and_true, res_tak, HL.out]
      have HN := Lib.hid hn
      clear hyes hn HO hlt
      go_wp2_with (fail)
      refine (takes_any s w).mono ?_
      rintro e w' ⟨rfl, rfl⟩
      obtain ⟨q, hq⟩ : ∃ q, takI s.toList = q := ⟨_, rfl⟩
      have HN2 := HN.out
      rw [hq] at HN2 ⊢
      have HN := Lib.hid HN2
      clear hq HN2
      by_cases hq0 : 0 < q
      · have hqB : decide (0 < q) = true := decide_eq_true hq0
        have HN2 := HN.out
        rw [hqB] at HN2
        have HN3 := Lib.hid (show nameB s.toList = false by rw [HN2]; simp)
        clear HN HN2
        go_wp2_with (fail)
        go_ret
        exact ⟨ret_bool HN3.out.symm, rfl⟩
      · have hqB : decide (0 < q) = false := decide_eq_false hq0
        have HN2 := HN.out
        rw [hqB, Bool.false_or] at HN2
        have HN3 := Lib.hid HN2
        clear HN HN2 hq0
        by_cases h12 : 1 ≤ s.size ∧ s.size ≤ 12
        · have HN4 := HN3.out
          rw [decide_eq_true h12, Bool.true_and] at HN4
          obtain ⟨h1, h2⟩ := h12
          have hA : decide ((1 : Int) ≤ (s.size : Int)) = true := by simp; omega
          have hB : decide ((s.size : Int) ≤ 12) = true := by simp; omega
          have HN := Lib.hid HN4
          clear HN3 HN4
          go_wp2_with (fail)
          all_goals
            go_ret
            refine ⟨ret_bool ?_, rfl⟩
            rw [HN.out]
            clear HN
            simp_all
        · have HN4 := HN3.out
          rw [decide_eq_false h12, Bool.false_and] at HN4
          have HN := Lib.hid HN4
          clear HN3 HN4
          go_wp2_with (fail)
          all_goals
            go_ret
            refine ⟨ret_bool ?_, rfl⟩
            rw [HN.out]
          all_goals (clear HN; simp; try omega)

/-- texts somewhere: the reference's index -/
theorem refIndex_any (a : Option Addr) (n cap : Nat) (l : List ByteArray) (v : ByteArray) (w : World) (hn : n ≤ 9223372036854775807) (hS : Strs w a n l) :
    Calls Tryd.prog 33 #[.slice a n cap, .string v] w fun e w' => e = .returned (.int .i64 (idxI l v.toList)) ∧ w = w' := by
  obtain ⟨rfl, hS⟩ := hS
  have HS := Lib.hid hS; clear hS
  go_enter Tryd.func33, Tryd.ntmps33
  go_wp2_with (fail)
  go_loop [5] (fun i => ∃ k : Nat, k ≤ l.length ∧ i = .int .i64 k ∧ ∀ j, j < k → ((l.getD j ⟨#[]⟩).toList == v.toList) = false) (fun i => l.length - (intOf i).toNat)
  case atStart => exact ⟨0, Nat.zero_le _, rfl, fun j h => by omega⟩
  case round =>
    obtain ⟨k, hk, rfl, hno⟩ := hrel
    have HN := Lib.hid hno; clear hno
    by_cases hlt : k < l.length
    · rcases HS.out with h0 | ⟨b, o, rfl, hb, hs⟩
      · omega
      have hc := hs k hlt
      by_cases he : ((l.getD k ⟨#[]⟩).toList == v.toList) = true
      · have hi := idxI_at hlt HN.out he
        have HI := Lib.hid hi; clear hi
        clear hs
        generalize l.getD k ⟨#[]⟩ = x at *
        go_wp2_with (fail)
        go_ret
        exact ⟨ret_int HI.out.symm, rfl⟩
      · have he0 : ((l.getD k ⟨#[]⟩).toList == v.toList) = false := by simpa using he
        have HE := Lib.hid he0
        clear he hs
        obtain ⟨x, hx⟩ : ∃ x, l.getD k ⟨#[]⟩ = x := ⟨_, rfl⟩
        rw [hx] at hc he0
        clear hx
        go_wp2_with (fail)
        go_round
        case rel =>
          refine ⟨k + 1, by omega, by go_num, fun j hj => ?_⟩
          by_cases e : j = k
          · subst e; exact HE.out
          · exact HN.out j (by omega)
        case measure => simp [intOf]; omega
    · obtain rfl : k = l.length := by omega
      have hi := idxI_none HN.out
      have HI := Lib.hid hi; clear hi
      go_wp2_with (fail)
      go_ret
      exact ⟨ret_int HI.out.symm, rfl⟩
end Go.Proofs.YtkmncmceheggjaaDoor

namespace Go.Proofs.YtkmncmceheggjaaDoor
open Go.RowKit

/-- words as the reference's cells: the place, the text -/
def rcells (l : List Wd) : List Value := l.flatMap fun x => [.int .i64 (x.1 : Int), .string (S x.2)]
theorem rcells_app (l m : List Wd) : rcells (l ++ m) = rcells l ++ rcells m := by simp [rcells]
theorem rcells_len (l : List Wd) : (rcells l).length = l.length * 2 := by
  induction l with
  | nil => rfl
  | cons x l ih => simp only [rcells, List.flatMap_cons] at ih ⊢; simp [ih]; omega
theorem infoRW : (Tryd.prog.info? 64).map (fun i => (i.zero, i.size, i.bytes)) = some (some (.agg #[.int .i64 0, .string ⟨#[]⟩]), 2, 24) := by kernel_rfl
theorem rcells_snoc (ws : List Wd) (s : ByteArray) (f i : Nat) : rcells (ws ++ [(f, (s.toList.drop f).take (i - f))]) = rcells ws ++ [.int .i64 (f : Int), .string (s.extract f i)] := by
  rw [rcells_app]
  have : S ((s.toList.drop f).take (i - f)) = s.extract f i := S_inj (by rw [S_toList, extract_toList])
  simp [rcells, this]
theorem words_run (s : ByteArray) (i : Nat) : ∀ (d : Nat), i + 1 + d ≤ s.size → (∀ j, i ≤ j → j < i + 1 + d → (h : j < s.size) → ¬ s[j] = 32) → wgo (s.toList.drop (i + 1 + d)) (i + 1 + d) (some (i, (s.toList.drop i).take (i + 1 + d - i))) = wgo (s.toList.drop i) i none
  | 0, h, hn => words_first s i (by omega) (hn i (by omega) (by omega) (by omega))
  | d + 1, h, hn => by
    have h1 := words_run s i d (by omega) (fun j a b c => hn j a (by omega) c)
    rw [← h1, ← words_more s i (i + 1 + d) (by omega) (by omega) (hn (i + 1 + d) (by omega) (by omega) (by omega))]
    rfl
theorem words_whole (s : ByteArray) (i k : Nat) (hik : i < k) (hk : k ≤ s.size) (hn : ∀ j, i ≤ j → j < k → (h : j < s.size) → ¬ s[j] = 32) (he : ∀ h : k < s.size, s[k] = 32) : wgo (s.toList.drop i) i none = (i, (s.toList.drop i).take (k - i)) :: wgo (s.toList.drop k) k none := by
  obtain ⟨d, rfl⟩ : ∃ d, k = i + 1 + d := ⟨k - i - 1, by omega⟩
  rw [← words_run s i d hk hn, words_end s _ hk he]

set_option maxRecDepth 100000 in
set_option maxHeartbeats 4000000 in
theorem refWords_any (s : ByteArray) (w : World) (hs : s.size ≤ 1099511627776) :
    Calls Tryd.prog 30 #[.string s, .int .i64 0] w fun e w' => ∃ v, e = .returned v ∧ w'.ownsRow w.heap.size 64 2 v (wordsL s.toList).length (rcells (wordsL s.toList)) ∧ Below w.heap.size w w' := by
  obtain ⟨i0, hi0, hz0, hz1, hz2⟩ := info_parts infoRW
  have hlen := bytes_len s
  have HLn := Lib.hid hlen; clear hlen
  go_enter Tryd.func30, Tryd.ntmps30
  go_wp2_with (fail)
  go_loopw [5, 6, 7] (fun ov iv kv wr => ∃ (i : Nat) (ws : List Wd) (o : Value), o = ov ∧ iv = .int .i64 i ∧ i ≤ s.size ∧ Hid (wordsL s.toList = ws ++ wgo (s.toList.drop i) i none) ∧ Hid (wr.ownsRow w.heap.size 64 2 o ws.length (rcells ws)) ∧ Hid (Below w.heap.size w wr)) (fun _ iv _ _ => s.size - (intOf iv).toNat)
  case atStart => exact ⟨0, [], _, rfl, rfl, by omega, Lib.hid rfl, Lib.hid (World.ownsRow_nil _ _ _ _), Lib.hid (Below.refl _ _)⟩
  case round =>
    obtain ⟨i, ws, ov, rfl, rfl, hi, HW, HO, HB⟩ := hrel
    have hwl : ws.length ≤ s.size := by
      have h1 := words_len s.toList
      rw [HW.out, List.length_append, HLn.out] at h1
      omega
    by_cases hlt : i < s.size
    · by_cases h32 : s[i] = 32
      · have hBt : ((s[i].toNat : Int) == 32) = true := by rw [h32]; rfl
        have hnx := words_blank s i hlt h32
        have HN := Lib.hid hnx
        clear h32 hnx
        go_wp2_with (fail)
        go_roundw
        case rel => exact ⟨i + 1, ws, _, rfl, by simp, by omega, Lib.hid (by rw [HN.out]; exact HW.out), HO, HB⟩
        case measure => simp [intOf]; omega
      · have hBt : ((s[i].toNat : Int) == 32) = false := by
          apply Bool.eq_false_iff.mpr; intro h
          have := eq_of_beq h
          exact h32 (UInt8.toNat.inj (by simpa using (by omega : s[i].toNat = 32)))
        have H3 := Lib.hid h32; clear h32
        go_wp2_with (fail)
        go_loopw [7] (fun kv wq => ∃ k : Nat, kv = .int .i64 k ∧ i ≤ k ∧ k ≤ s.size ∧ Hid (∀ j, i ≤ j → j < k → (h : j < s.size) → ¬ s[j] = 32) ∧ wq = wr) (fun kv _ => s.size - (intOf kv).toNat)
        case atStart => exact ⟨i, rfl, by omega, by omega, Lib.hid (fun j h1 h2 => absurd h1 (by omega)), rfl⟩
        case round =>
          obtain ⟨k, rfl, hik, hk, HK, hwq⟩ := hrel
          subst hwq
          by_cases hkl : k < s.size
          · by_cases k32 : s[k] = 32
            · have hik2 : i < k := by
                rcases Nat.lt_or_ge i k with h | h
                · exact h
                · obtain rfl : i = k := by omega
                  exact absurd k32 H3.out
              have kBt : ((s[k].toNat : Int) == 32) = true := by rw [k32]; rfl
              have hwhole := words_whole s i k hik2 hk HK.out (fun _ => k32)
              clear k32
              have HA := Lib.hid hwhole
              have hbz := HB.out.size
              clear hwhole
              go_wp2_with (at_builtin; refine wpList_append_lies _ rfl _ _ _ rfl w.heap.size 64 i0 _ 2 24 (by kernel_rfl) hi0 hz0 hz1 hz2 rfl (by omega) ov ws.length (rcells ws) rfl (HO.out.alloc _) ⟨wr.heap.size, 0, none⟩ 1 1 [.int .i64 i, .string (s.extract i k)] rfl rfl (World.news_of_block (cs := #[.int .i64 i, .string (s.extract i k)]) (t := 64) (fr := (0, 0)) (heap_alloc_new wr _)) (by simp [Value.oneCell']) (by omega) (by unfold maxLen; omega) (by omega) (by simp; omega) (wr.heap.size + 1) (by simp) ?_; intro gg cap' w1 hown1 hgrow hat hlt2)
              have HO1 := Lib.hid hown1
              have HB1 := Lib.hid ((HB.out.alloc hbz _).grown hgrow (by simp; omega) (fun j hj => (HO.out.lt j hj).1))
              clear hown1 hgrow hat
              go_roundw
              case rel =>
                refine ⟨k, ws ++ [(i, (s.toList.drop i).take (k - i))], _, rfl, by simp, by omega, Lib.hid ?_, Lib.hid ?_, HB1⟩
                · rw [List.append_assoc, List.singleton_append, ← HA.out]; exact HW.out
                · rw [rcells_snoc, List.length_append]; exact HO1.out
              case measure => simp [intOf]; omega
            · have kBt : ((s[k].toNat : Int) == 32) = false := by
                apply Bool.eq_false_iff.mpr; intro h
                have := eq_of_beq h
                exact k32 (UInt8.toNat.inj (by simpa using (by omega : s[k].toNat = 32)))
              have hnx : ∀ j, i ≤ j → j < k + 1 → (h : j < s.size) → ¬ s[j] = 32 := fun j h1 h2 h3 => by
                rcases Nat.lt_or_ge j k with h | h
                · exact HK.out j h1 h h3
                · obtain rfl : j = k := by omega
                  exact k32
              have HN := Lib.hid hnx
              clear k32 hnx
              go_wp2_with (fail)
              go_roundw
              case rel => exact ⟨k + 1, by simp, by omega, by omega, HN, trivial⟩
              case measure => simp [intOf]; omega
          · have hik2 : i < k := by omega
            have hwhole := words_whole s i k hik2 hk HK.out (fun h => absurd h hkl)
            have HA := Lib.hid hwhole
            have hbz := HB.out.size
            clear hwhole
            go_wp2_with (at_builtin; refine wpList_append_lies _ rfl _ _ _ rfl w.heap.size 64 i0 _ 2 24 (by kernel_rfl) hi0 hz0 hz1 hz2 rfl (by omega) ov ws.length (rcells ws) rfl (HO.out.alloc _) ⟨wr.heap.size, 0, none⟩ 1 1 [.int .i64 i, .string (s.extract i k)] rfl rfl (World.news_of_block (cs := #[.int .i64 i, .string (s.extract i k)]) (t := 64) (fr := (0, 0)) (heap_alloc_new wr _)) (by simp [Value.oneCell']) (by omega) (by unfold maxLen; omega) (by omega) (by simp; omega) (wr.heap.size + 1) (by simp) ?_; intro gg cap' w1 hown1 hgrow hat hlt2)
            have HO1 := Lib.hid hown1
            have HB1 := Lib.hid ((HB.out.alloc hbz _).grown hgrow (by simp; omega) (fun j hj => (HO.out.lt j hj).1))
            clear hown1 hgrow hat
            go_roundw
            case rel =>
              refine ⟨k, ws ++ [(i, (s.toList.drop i).take (k - i))], _, rfl, by simp, by omega, Lib.hid ?_, Lib.hid ?_, HB1⟩
              · rw [List.append_assoc, List.singleton_append, ← HA.out]; exact HW.out
              · rw [rcells_snoc, List.length_append]; exact HO1.out
            case measure => simp [intOf]; omega
    · obtain rfl : i = s.size := by omega
      have hwe : wordsL s.toList = ws := by
        rw [HW.out, List.drop_of_length_le (by have := HLn.out; omega)]
        simp [wgo]
      have HWe := Lib.hid hwe
      clear hwe
      go_wp2_with (fail)
      go_ret
      rw [HWe.out]
      exact ⟨_, rfl, HO.out, HB.out⟩
end Go.Proofs.YtkmncmceheggjaaDoor

namespace Go.Proofs.YtkmncmceheggjaaDoor
open Go.RowKit

theorem figN_snoc (acc : Nat) (l : List UInt8) (c : UInt8) : figN acc (l ++ [c]) = figN acc l * 10 + (c.toNat - 48) := by unfold figN; rw [List.foldl_append]; rfl
theorem figN_take (t : ByteArray) (k : Nat) (h : k < t.size) : figN 0 (t.toList.take (k + 1)) = figN 0 (t.toList.take k) * 10 + (t[k].toNat - 48) := by
  have hl := bytes_len t
  rw [List.take_add_one, List.getElem?_eq_getElem (by omega), bytes_get t k h]
  exact figN_snoc _ _ _
theorem figN_small (t : ByteArray) (k : Nat) (h : k ≤ t.size) (h4 : t.size ≤ 4) (hf : ∀ j, (h : j < k) → (h' : j < t.size) → figB t[j] = true) : figN 0 (t.toList.take k) < 10000 := by
  have hl := bytes_len t
  have h1 : (t.toList.take k).all figB = true := by
    rw [all_get]
    intro j hj
    rw [List.length_take] at hj
    rw [List.getElem_take, bytes_get t j (by omega)]
    exact hf j (by omega) _
  have h2 := figN_bd _ h1 0
  have h3 : 10 ^ (t.toList.take k).length ≤ 10 ^ 4 := Nat.pow_le_pow_right (by omega) (by rw [List.length_take]; omega)
  omega
/-- what the reference tells of a word -/
def numR (s : List UInt8) : Int := if digB s = true then numI s else 0
theorem ret_num {a b : Int} {p q : Bool} (h : a = b) (k : p = q) : Ending.returned (.tuple #[.int .i64 a, .bool p]) = .returned (.tuple #[.int .i64 b, .bool q]) := by rw [h, k]
theorem numR_no {s : List UInt8} (h : digB s = false) : numR s = 0 := by unfold numR; rw [h]; rfl
theorem dig_split (s : List UInt8) : digB s = (decide (1 ≤ (trimM s).length ∧ (trimM s).length ≤ 4) && (trimM s).all figB) := rfl

set_option maxRecDepth 100000 in
set_option maxHeartbeats 4000000 in
theorem refNumber_any (s : ByteArray) (w : World) (hs : s.size ≤ 4294967296) :
    Calls Tryd.prog 31 #[.string s] w fun e w' => e = .returned (.tuple #[.int .i64 (numR s.toList), .bool (digB s.toList)]) ∧ w = w' := by
  have hlen := bytes_len s
  rcases Nat.eq_zero_or_pos s.size with h0 | h0
  · have e0 : s.toList = [] := List.eq_nil_of_length_eq_zero (by omega)
    have hd : digB s.toList = false := by rw [e0]; rfl
    have e1 : (s.toList == []) = true := by simpa using e0
    have e2 : s.toList.isEmpty = true := by simpa using e0
    have HN := Lib.hid (And.intro (numR_no hd) hd)
    clear hd
    go_enter Tryd.func31, Tryd.ntmps31
    go_wp2_with (fail)
    go_ret2
    exact ⟨ret_num HN.out.1.symm HN.out.2.symm, rfl⟩
  have e1 : ¬ s.toList = [] := fun e => by rw [e] at hlen; simp at hlen; omega
  have e2 : (s.toList == []) = false := by simpa using e1
  have e3 : s.toList.isEmpty = false := by simpa using e1
  have hcons : s.toList = s[0] :: s.toList.drop 1 := by
    have := drop_get s 0 h0
    rwa [List.drop_zero] at this
  by_cases h45 : s[0] = 45
  · obtain ⟨t, ht⟩ : ∃ t, s.extract 1 s.size = t := ⟨_, rfl⟩
    have htl : t.toList = s.toList.drop 1 := by
      rw [← ht, extract_toList]
      exact List.take_of_length_le (by rw [List.length_drop]; omega)
    have htr : trimM s.toList = t.toList := by
      rw [hcons, h45, htl]
      simp [trimM]
    have hne : ¬ trimM s.toList = s.toList := fun e => by
      have := congrArg List.length e
      rw [htr, htl, List.length_drop] at this
      omega
    have HD := Lib.hid (show digB s.toList = (decide (1 ≤ t.toList.length ∧ t.toList.length ≤ 4) && t.toList.all figB) by rw [dig_split, htr])
    have HNum := Lib.hid (show digB s.toList = true → numR s.toList = -(figN 0 t.toList : Int) from fun hd => by unfold numR numI; rw [if_pos hd, if_neg hne, htr])
    have hB0 : ((s[0].toNat : Int) == 45) = true := by rw [h45]; rfl
    have HT := Lib.hid ht
    have htz : t.size ≤ s.size := by
      have h1 := bytes_len t
      rw [htl, List.length_drop] at h1
      omega
    clear htl htr hne hcons h45 hlen
    go_enter Tryd.func31, Tryd.ntmps31

    by_cases h14 : 1 ≤ t.size ∧ t.size ≤ 4
    · obtain ⟨h1, h4⟩ := h14
      have hA : decide ((t.size : Int) < 1) = false := by simp; omega
      have hB : decide ((4 : Int) < (t.size : Int)) = false := by simp; omega
      go_wp2_with (fail)
      go_loop [5, 6] (fun n i => ∃ k : Nat, k ≤ t.size ∧ n = .int .i64 (figN 0 (t.toList.take k) : Nat) ∧ i = .int .i64 k ∧ Hid (∀ j, (h : j < k) → (h' : j < t.size) → figB t[j] = true)) (fun _ i => t.size - (intOf i).toNat)
      case atStart => exact ⟨0, Nat.zero_le _, rfl, rfl, Lib.hid (fun j h => by omega)⟩
      case round =>
        obtain ⟨k, hk, rfl, rfl, HO⟩ := hrel
        have hsm := figN_small t k hk h4 HO.out
        by_cases hlt : k < t.size
        · by_cases hb : figB t[k] = true
          · have hb' : 48 ≤ t[k].toNat ∧ t[k].toNat ≤ 57 := by simpa [figB] using hb
            obtain ⟨b1, b2⟩ := hb'
            have hnx := figN_take t k hlt
            have hall : ∀ j, (h : j < k + 1) → (h' : j < t.size) → figB t[j] = true := fun j hj hj' => by
              by_cases e : j = k
              · subst e; exact hb
              · exact HO.out j (by omega) hj'
            have HA := Lib.hid hall
            have hq1 : decide ((t[k].toNat : Int) < 48) = false := by simp; omega
            have hq2 : decide ((57 : Int) < (t[k].toNat : Int)) = false := by simp; omega
            have hq3 : IntKind.u8.wrap ((t[k].toNat : Int) - 48) = ((t[k].toNat - 48 : Nat) : Int) := by rw [IntKind.wrap_u8]; omega
            obtain ⟨F, hF⟩ : ∃ F, figN 0 (t.toList.take k) = F := ⟨_, rfl⟩
            rw [hF] at hnx hsm ⊢
            have HX := Lib.hid hnx
            clear hb hall hnx hF
            go_wp2_with (fail)
            go_round
            case rel => exact ⟨k + 1, by omega, by rw [HX.out]; first | rfl | (congr 1; omega) | go_num, by go_num, HA⟩
            case measure => simp [intOf]; omega
          · have hno : digB s.toList = false := by
              rw [HD.out]
              rw [Bool.eq_false_iff]
              intro hall
              rw [Bool.and_eq_true] at hall
              exact hb ((bytes_get t k hlt (by rw [bytes_len]; exact hlt)) ▸ all_get.1 hall.2 k (by rw [bytes_len]; exact hlt))
            have hb' : ¬ (48 ≤ t[k].toNat ∧ t[k].toNat ≤ 57) := by simpa [figB] using hb
            have HN := Lib.hid (And.intro (numR_no hno) hno)
            clear hno hb
            obtain ⟨F, hF⟩ : ∃ F, figN 0 (t.toList.take k) = F := ⟨_, rfl⟩
            rw [hF] at hsm ⊢
            clear hF
            by_cases h97 : t[k].toNat < 48
            · have hq1 : decide ((t[k].toNat : Int) < 48) = true := by simp; omega
              clear hb'
              go_wp2_with (fail)
              go_ret2
              exact ⟨ret_num HN.out.1.symm HN.out.2.symm, rfl⟩
            · have hq1 : decide ((t[k].toNat : Int) < 48) = false := by simp; omega
              have hq2 : decide ((57 : Int) < (t[k].toNat : Int)) = true := by simp; omega
              clear hb'
              go_wp2_with (fail)
              go_ret2
              exact ⟨ret_num HN.out.1.symm HN.out.2.symm, rfl⟩
        · obtain rfl : k = t.size := by omega
          have hyes : t.toList.all figB = true := by
            rw [all_get]
            intro j hj
            rw [bytes_len] at hj
            rw [bytes_get t j hj]
            exact HO.out j hj hj
          have hd : digB s.toList = true := by
            rw [HD.out, hyes, Bool.and_true]
            exact decide_eq_true (by rw [bytes_len]; exact ⟨h1, h4⟩)
          have hfull : t.toList.take t.size = t.toList := List.take_of_length_le (by rw [bytes_len]; exact Nat.le_refl _)
          rw [hfull] at hsm ⊢
          have hn := HNum.out hd
          have HN := Lib.hid (And.intro hn hd)
          obtain ⟨F, hF⟩ : ∃ F, figN 0 t.toList = F := ⟨_, rfl⟩
          have HF := Lib.hid hF
          rw [hF] at hsm ⊢
          clear hyes hd hfull hn hF
          go_wp2_with (fail)
          go_ret2
          exact ⟨ret_num (by rw [HN.out.1, HF.out]) HN.out.2.symm, rfl⟩
    · have hno : digB s.toList = false := by
        rw [HD.out, decide_eq_false (by rw [bytes_len]; exact h14), Bool.false_and]
      have HN := Lib.hid (And.intro (numR_no hno) hno)
      clear hno
      by_cases h1 : t.size < 1
      · have hA : decide ((t.size : Int) < 1) = true := by simp; omega
        clear h14
        go_wp2_with (fail)
        go_ret2
        exact ⟨ret_num HN.out.1.symm HN.out.2.symm, rfl⟩
      · have hA : decide ((t.size : Int) < 1) = false := by simp; omega
        have hB : decide ((4 : Int) < (t.size : Int)) = true := by simp; omega
        clear h14
        go_wp2_with (fail)
        go_ret2
        exact ⟨ret_num HN.out.1.symm HN.out.2.symm, rfl⟩
  · have htr : trimM s.toList = s.toList := by
      rw [hcons]
      simp [trimM, h45]
    have HD := Lib.hid (show digB s.toList = (decide (1 ≤ s.toList.length ∧ s.toList.length ≤ 4) && s.toList.all figB) by rw [dig_split, htr])
    have HNum := Lib.hid (show digB s.toList = true → numR s.toList = (figN 0 s.toList : Int) from fun hd => by unfold numR numI; rw [if_pos hd, if_pos htr])
    have hB0 : ((s[0].toNat : Int) == 45) = false := by
      apply Bool.eq_false_iff.mpr; intro h
      have := eq_of_beq h
      exact h45 (UInt8.toNat.inj (by simpa using (by omega : s[0].toNat = 45)))
    clear htr hcons h45 hlen
    go_enter Tryd.func31, Tryd.ntmps31
    by_cases h14 : 1 ≤ s.size ∧ s.size ≤ 4
    · obtain ⟨h1, h4⟩ := h14
      have hA : decide ((s.size : Int) < 1) = false := by simp; omega
      have hB : decide ((4 : Int) < (s.size : Int)) = false := by simp; omega
      go_wp2_with (fail)
      go_loop [5, 6] (fun n i => ∃ k : Nat, k ≤ s.size ∧ n = .int .i64 (figN 0 (s.toList.take k) : Nat) ∧ i = .int .i64 k ∧ Hid (∀ j, (h : j < k) → (h' : j < s.size) → figB s[j] = true)) (fun _ i => s.size - (intOf i).toNat)
      case atStart => exact ⟨0, Nat.zero_le _, rfl, rfl, Lib.hid (fun j h => by omega)⟩
      case round =>
        obtain ⟨k, hk, rfl, rfl, HO⟩ := hrel
        have hsm := figN_small s k hk h4 HO.out
        by_cases hlt : k < s.size
        · by_cases hb : figB s[k] = true
          · have hb' : 48 ≤ s[k].toNat ∧ s[k].toNat ≤ 57 := by simpa [figB] using hb
            obtain ⟨b1, b2⟩ := hb'
            have hnx := figN_take s k hlt
            have hall : ∀ j, (h : j < k + 1) → (h' : j < s.size) → figB s[j] = true := fun j hj hj' => by
              by_cases e : j = k
              · subst e; exact hb
              · exact HO.out j (by omega) hj'
            have HA := Lib.hid hall
            have hq1 : decide ((s[k].toNat : Int) < 48) = false := by simp; omega
            have hq2 : decide ((57 : Int) < (s[k].toNat : Int)) = false := by simp; omega
            have hq3 : IntKind.u8.wrap ((s[k].toNat : Int) - 48) = ((s[k].toNat - 48 : Nat) : Int) := by rw [IntKind.wrap_u8]; omega
            obtain ⟨F, hF⟩ : ∃ F, figN 0 (s.toList.take k) = F := ⟨_, rfl⟩
            rw [hF] at hnx hsm ⊢
            have HX := Lib.hid hnx
            clear hb hall hnx hF
            go_wp2_with (fail)
            go_round
            case rel => exact ⟨k + 1, by omega, by rw [HX.out]; first | rfl | (congr 1; omega) | go_num, by go_num, HA⟩
            case measure => simp [intOf]; omega
          · have hno : digB s.toList = false := by
              rw [HD.out]
              rw [Bool.eq_false_iff]
              intro hall
              rw [Bool.and_eq_true] at hall
              exact hb ((bytes_get s k hlt (by rw [bytes_len]; exact hlt)) ▸ all_get.1 hall.2 k (by rw [bytes_len]; exact hlt))
            have hb' : ¬ (48 ≤ s[k].toNat ∧ s[k].toNat ≤ 57) := by simpa [figB] using hb
            have HN := Lib.hid (And.intro (numR_no hno) hno)
            clear hno hb
            obtain ⟨F, hF⟩ : ∃ F, figN 0 (s.toList.take k) = F := ⟨_, rfl⟩
            rw [hF] at hsm ⊢
            clear hF
            by_cases h97 : s[k].toNat < 48
            · have hq1 : decide ((s[k].toNat : Int) < 48) = true := by simp; omega
              clear hb'
              go_wp2_with (fail)
              go_ret2
              exact ⟨ret_num HN.out.1.symm HN.out.2.symm, rfl⟩
            · have hq1 : decide ((s[k].toNat : Int) < 48) = false := by simp; omega
              have hq2 : decide ((57 : Int) < (s[k].toNat : Int)) = true := by simp; omega
              clear hb'
              go_wp2_with (fail)
              go_ret2
              exact ⟨ret_num HN.out.1.symm HN.out.2.symm, rfl⟩
        · obtain rfl : k = s.size := by omega
          have hyes : s.toList.all figB = true := by
            rw [all_get]
            intro j hj
            rw [bytes_len] at hj
            rw [bytes_get s j hj]
            exact HO.out j hj hj
          have hd : digB s.toList = true := by
            rw [HD.out, hyes, Bool.and_true]
            exact decide_eq_true (by rw [bytes_len]; exact ⟨h1, h4⟩)
          have hfull : s.toList.take s.size = s.toList := List.take_of_length_le (by rw [bytes_len]; exact Nat.le_refl _)
          rw [hfull] at hsm ⊢
          have hn := HNum.out hd
          have HN := Lib.hid (And.intro hn hd)
          obtain ⟨F, hF⟩ : ∃ F, figN 0 s.toList = F := ⟨_, rfl⟩
          have HF := Lib.hid hF
          rw [hF] at hsm ⊢
          clear hyes hd hfull hn hF
          go_wp2_with (fail)
          go_ret2
          exact ⟨ret_num (by rw [HN.out.1, HF.out]) HN.out.2.symm, rfl⟩
    · have hno : digB s.toList = false := by
        rw [HD.out, decide_eq_false (by rw [bytes_len]; exact h14), Bool.false_and]
      have HN := Lib.hid (And.intro (numR_no hno) hno)
      clear hno
      by_cases h1 : s.size < 1
      · have hA : decide ((s.size : Int) < 1) = true := by simp; omega
        clear h14
        go_wp2_with (fail)
        go_ret2
        exact ⟨ret_num HN.out.1.symm HN.out.2.symm, rfl⟩
      · have hA : decide ((s.size : Int) < 1) = false := by simp; omega
        have hB : decide ((4 : Int) < (s.size : Int)) = true := by simp; omega
        clear h14
        go_wp2_with (fail)
        go_ret2
        exact ⟨ret_num HN.out.1.symm HN.out.2.symm, rfl⟩
#print axioms refNumber_any
end Go.Proofs.YtkmncmceheggjaaDoor

namespace Go.Proofs.YtkmncmceheggjaaDoor
open Go.RowKit

/-! ### plain -/
def putSt (s : Str) (st : List Str × Bool) (x : Str) : List Str × Bool :=
  if x = s then (if st.2 = false ∧ s ≤ x then (st.1 ++ [s], true) else st) else (if st.2 = false ∧ s ≤ x then (st.1 ++ [s] ++ [x], true) else (st.1 ++ [x], st.2))
def putF (s : Str) (l : List Str) : List Str × Bool := l.foldl (putSt s) ([], false)
def finP (s : Str) (st : List Str × Bool) : List Str := if st.2 = true then st.1 else st.1 ++ [s]
def putL (s : Str) (l : List Str) : List Str := finP s (putF s l)
def putR (s : Str) : List Str → List Str
  | [] => [s]
  | x :: l => if s ≤ x then s :: (x :: l).filter (fun y => !(y == s)) else x :: putR s l
theorem put_true (s : Str) : ∀ (l o : List Str), l.foldl (putSt s) (o, true) = (o ++ l.filter (fun y => !(y == s)), true)
  | [], o => by simp
  | x :: l, o => by
    rw [List.foldl_cons]
    by_cases h : x = s
    · have e : putSt s (o, true) x = (o, true) := by unfold putSt; rw [if_pos h]; simp
      rw [e, put_true s l o]
      simp [h]
    · have e : putSt s (o, true) x = (o ++ [x], true) := by unfold putSt; rw [if_neg h]; simp
      rw [e, put_true s l (o ++ [x])]
      simp [h]
theorem put_false (s : Str) : ∀ (l o : List Str), finP s (l.foldl (putSt s) (o, false)) = o ++ putR s l
  | [], o => by simp [finP, putR]
  | x :: l, o => by
    rw [List.foldl_cons]
    by_cases hle : s ≤ x
    · by_cases h : x = s
      · have e : putSt s (o, false) x = (o ++ [s], true) := by unfold putSt; rw [if_pos h, if_pos ⟨rfl, hle⟩]
        rw [e, put_true]
        simp [finP, putR, hle, h]
      · have e : putSt s (o, false) x = (o ++ [s] ++ [x], true) := by unfold putSt; rw [if_neg h, if_pos ⟨rfl, hle⟩]
        rw [e, put_true]
        simp [finP, putR, hle, h]
    · have h : ¬ x = s := fun e => hle (e ▸ List.le_refl _)
      have e : putSt s (o, false) x = (o ++ [x], false) := by unfold putSt; rw [if_neg h, if_neg (fun k => hle k.2)]
      rw [e, put_false s l (o ++ [x])]
      simp [putR, hle]
theorem putL_R (s : Str) (l : List Str) : putL s l = putR s l := by
  have := put_false s l []
  simpa [putL, putF] using this
theorem putR_mem (s : Str) : ∀ (l : List Str) (y : Str), y ∈ putR s l ↔ y = s ∨ y ∈ l
  | [], y => by simp [putR]
  | x :: l, y => by
    simp only [putR]
    split
    · rw [List.mem_cons, List.mem_filter]
      constructor
      · rintro (h | ⟨h, _⟩)
        · exact .inl h
        · exact .inr h
      · rintro (h | h)
        · exact .inl h
        · by_cases e : y = s
          · exact .inl e
          · exact .inr ⟨h, by simpa using e⟩
    · rw [List.mem_cons, putR_mem s l y, List.mem_cons]
      constructor
      · rintro (h | h | h)
        · exact .inr (.inl h)
        · exact .inl h
        · exact .inr (.inr h)
      · rintro (h | h | h)
        · exact .inr (.inl h)
        · exact .inl h
        · exact .inr (.inr h)
theorem putR_sorted (s : Str) : ∀ (l : List Str), l.Pairwise ltS → (putR s l).Pairwise ltS
  | [], _ => by simp [putR]
  | x :: l, h => by
    obtain ⟨h1, h2⟩ := List.pairwise_cons.1 h
    simp only [putR]
    split
    · rename_i hle
      rw [List.pairwise_cons]
      refine ⟨fun y hy => ?_, List.Pairwise.filter _ h⟩
      obtain ⟨hy1, hy2⟩ := List.mem_filter.1 hy
      have hne : s ≠ y := fun e => by simp [e] at hy2
      rcases List.mem_cons.1 hy1 with rfl | hy1
      · exact st_lt hle hne
      · exact List.lt_of_le_of_lt hle (h1 y hy1)
    · rename_i hle
      rw [List.pairwise_cons]
      refine ⟨fun y hy => ?_, putR_sorted s l h2⟩
      rcases (putR_mem s l y).1 hy with rfl | hy
      · exact List.not_le.1 hle
      · exact h1 y hy
def usR (l : List Str) : List Str := l.foldl (fun o x => putL x o) []
theorem usR_go : ∀ (l o : List Str), o.Pairwise ltS → (l.foldl (fun o x => putL x o) o).Pairwise ltS ∧ ∀ y, y ∈ l.foldl (fun o x => putL x o) o ↔ y ∈ o ∨ y ∈ l
  | [], o, h => ⟨h, fun y => by simp⟩
  | x :: l, o, h => by
    rw [List.foldl_cons, putL_R]
    obtain ⟨h1, h2⟩ := usR_go l (putR x o) (putR_sorted x o h)
    refine ⟨h1, fun y => ?_⟩
    rw [h2 y, putR_mem, List.mem_cons]
    constructor
    · rintro ((h | h) | h)
      · exact .inr (.inl h)
      · exact .inl h
      · exact .inr (.inr h)
    · rintro (h | h | h)
      · exact .inl (.inr h)
      · exact .inl (.inl h)
      · exact .inr h
theorem usR_uses (s : Str) : usR (namesW (wordsL s)) = usesL s := by
  obtain ⟨h1, h2⟩ := usR_go (namesW (wordsL s)) [] List.Pairwise.nil
  refine sorted_ext _ _ h1 (uses_sorted s) fun x => ?_
  rw [uses_mem]
  have := h2 x
  simpa [usR] using this
theorem usR_snoc (l : List Str) (x : Str) : usR (l ++ [x]) = putL x (usR l) := by unfold usR; rw [List.foldl_append]; rfl
theorem putF_snoc (s : Str) (l : List Str) (x : Str) : putF s (l ++ [x]) = putSt s (putF s l) x := by unfold putF; rw [List.foldl_append]; rfl
theorem putSt_len (s : Str) (st : List Str × Bool) (x : Str) : (putSt s st x).1.length + (if (putSt s st x).2 then 0 else 1) ≤ st.1.length + (if st.2 then 0 else 1) + 1 := by
  unfold putSt
  obtain ⟨o, b⟩ := st
  repeat' split
  all_goals simp_all
theorem putF_len (s : Str) (l : List Str) : (putF s l).1.length + (if (putF s l).2 then 0 else 1) ≤ l.length + 1 := by
  have key : ∀ (l : List Str) (st : List Str × Bool), (l.foldl (putSt s) st).1.length + (if (l.foldl (putSt s) st).2 then 0 else 1) ≤ st.1.length + (if st.2 then 0 else 1) + l.length := by
    intro l
    induction l with
    | nil => intro st; exact Nat.le_refl _
    | cons x l ih =>
      intro st
      rw [List.foldl_cons]
      have h1 := ih (putSt s st x)
      have h2 := putSt_len s st x
      rw [List.length_cons]
      omega
  have := key l ([], false)
  unfold putF
  simp at this ⊢
  omega
theorem putL_len (s : Str) (l : List Str) : (putL s l).length ≤ l.length + 1 := by
  have := putF_len s l
  unfold putL finP
  split
  · rename_i h; rw [h] at this; simp at this; omega
  · rename_i h
    have h' : (putF s l).2 = false := by simpa using h
    rw [h'] at this
    rw [List.length_append]
    simp at this ⊢
    omega
theorem usR_len (l : List Str) : (usR l).length ≤ l.length := by
  have key : ∀ (l o : List Str), (l.foldl (fun o x => putL x o) o).length ≤ o.length + l.length := by
    intro l
    induction l with
    | nil => intro o; simp
    | cons x l ih =>
      intro o
      rw [List.foldl_cons]
      have h1 := ih (putL x o)
      have h2 := putL_len x o
      rw [List.length_cons]
      omega
  simpa [usR] using key l []
theorem strs_ownS {W : World} {B : Nat} {v : Value} {n : Nat} {l : List Str} (hn : n = l.length) (h : W.ownsRow B 9 1 v n (l.map encStr)) : ∃ a c, v = .slice a n c ∧ Strs W a n (l.map S) := by
  by_cases h0 : 0 < n
  · have e : l.map encStr = (l.map S).map Value.string := by rw [List.map_map]; rfl
    rw [e] at h
    have h' := h
    obtain ⟨hl, ⟨_, hz⟩ | ⟨g, cap, cur, rfl, hg, hh, _⟩⟩ := h
    · omega
    · refine ⟨_, cap, rfl, by rw [List.length_map]; exact hn, .inr ⟨g, 0, rfl, (Array.getElem?_eq_some_iff.1 hh).1, fun j hj => ?_⟩⟩
      have hx : ∃ x, (l.map S)[j]? = some x := ⟨_, List.getElem?_eq_getElem hj⟩
      obtain ⟨x, hx⟩ := hx
      have := h'.cells (g := g) rfl j (.string x) (by rw [List.getElem?_map, hx]; rfl)
      unfold Addr.add at this
      have e2 : (⟨g, 0 + j, none⟩ : Addr) = ⟨g, j, none⟩ := by rw [Nat.zero_add]
      rw [e2]
      have e3 : W.cell? ⟨g, j, none⟩ = some (.string x) := by
        revert this
        split
        · rename_i h; subst h; exact id
        · simp
      rw [e3]
      simp [List.getD, hx]
  · obtain rfl : n = 0 := by omega
    obtain ⟨_, ⟨rfl, _⟩ | ⟨g, cap, cur, rfl, _⟩⟩ := h
    · exact ⟨_, _, rfl, by rw [List.length_map]; exact hn, .inl rfl⟩
    · exact ⟨_, _, rfl, by rw [List.length_map]; exact hn, .inl rfl⟩

end Go.Proofs.YtkmncmceheggjaaDoor

namespace Go.Proofs.YtkmncmceheggjaaDoor
open Go.RowKit

theorem putF_take {s : Str} {l : List Str} {k : Nat} (h : k < l.length) : putF s (l.take (k + 1)) = putSt s (putF s (l.take k)) l[k] := by
  rw [List.take_add_one, List.getElem?_eq_getElem h]
  exact putF_snoc _ _ _
theorem bl_lt : ∀ a b : List UInt8, Op.bytesLess a b = decide (a < b)
  | _, [] => by simp [Op.bytesLess]
  | [], y :: b => by simp [Op.bytesLess]
  | x :: a, y :: b => by
    have ih := bl_lt a b
    rw [Bool.eq_iff_iff, decide_eq_true_iff, List.cons_lt_cons_iff]
    simp [Op.bytesLess, ih]
theorem bl_le (x s : Str) : (!Op.bytesLess x s) = decide (s ≤ x) := by
  rw [bl_lt]
  by_cases h : s ≤ x
  · rw [decide_eq_true h, decide_eq_false (List.not_lt.2 h)]; rfl
  · rw [decide_eq_false h, decide_eq_true (List.not_le.1 h)]; rfl

set_option maxRecDepth 100000 in
set_option maxHeartbeats 4000000 in
theorem refPut_any (a : Option Addr) (n c : Nat) (l : List Str) (s : ByteArray) (w : World) (hS : Strs w a n (l.map S)) (hn : n ≤ 4294967296) :
    Calls Tryd.prog 38 #[.slice a n c, .string s] w fun e w' => (∃ a' c', e = .returned (.slice a' (putL s.toList l).length c') ∧ Strs w' a' (putL s.toList l).length ((putL s.toList l).map S)) ∧ Below w.heap.size w w' := by
  obtain ⟨i0, hi0, hz0, hz1, hz2⟩ := info_parts infoS
  obtain ⟨hnl, hS⟩ := hS
  rw [List.length_map] at hnl
  subst hnl
  have HS := Lib.hid hS
  clear hS
  go_enter Tryd.func38, Tryd.ntmps38
  go_wp2_with (fail)
  go_loopw [5, 6, 7] (fun ov dv iv wr => ∃ (k : Nat) (o : List Str) (d : Bool) (vv : Value), vv = ov ∧ dv = .bool d ∧ iv = .int .i64 k ∧ k ≤ l.length ∧ Hid (putF s.toList (l.take k) = (o, d)) ∧ Hid (wr.ownsRow w.heap.size 9 1 vv o.length (o.map encStr)) ∧ Hid (Below w.heap.size w wr)) (fun _ _ iv _ => l.length - (intOf iv).toNat)
  case atStart => exact ⟨0, [], false, _, rfl, rfl, rfl, by omega, Lib.hid rfl, Lib.hid ⟨rfl, .inl ⟨rfl, rfl⟩⟩, Lib.hid (Below.refl _ _)⟩
  case round =>
    obtain ⟨k, o, d, ov, rfl, rfl, rfl, hk, HF, HO, HB⟩ := hrel
    have hol : o.length ≤ l.length + 1 := by
      have h1 := putF_len s.toList (l.take k)
      rw [HF.out, List.length_take] at h1
      simp only at h1
      omega
    have hbz := HB.out.size
    by_cases hlt : k < l.length
    · rcases HS.out with h0 | ⟨b, of, rfl, hb, hs⟩
      · omega
      have hc := hs k (by rw [List.length_map]; exact hlt)
      rw [show (l.map S).getD k ⟨#[]⟩ = S l[k] by simp [hlt]] at hc
      have hcw := (HB.out.cell (p := ⟨b, of + k, none⟩) hb).trans hc
      have hF := putF_take (s := s.toList) hlt
      rw [HF.out] at hF
      obtain ⟨x, hx⟩ : ∃ x, l[k] = x := ⟨_, rfl⟩
      rw [hx] at hc hcw hF
      have HC0 := Lib.hid hc
      clear hs hc hx
      have hle := bl_le x s.toList
      have HLE := Lib.hid hle
      clear hle
      by_cases he : x = s.toList
      · have heB : (x == s.toList) = true := by simpa using he
        have heN : (!x == s.toList) = false := by rw [heB]; rfl
        cases d with
        | true =>
          have HF2 := Lib.hid (show putF s.toList (l.take (k + 1)) = (o, true) from by rw [hF]; unfold putSt; rw [if_pos he]; simp)
          clear hF he
          go_wp2_with (fail)
          go_roundw
          case rel => exact ⟨k + 1, o, true, ov, rfl, rfl, by simp, by omega, Lib.hid HF2.out, HO, HB⟩
          case measure => simp [intOf]; omega
        | false =>
          have hl1 : s.toList ≤ x := he ▸ List.le_refl _
          have hlB : (!Op.bytesLess x s.toList) = true := by rw [HLE.out]; exact decide_eq_true hl1
          have hlB2 : Op.bytesLess x s.toList = false := by simpa using hlB
          have HF2 := Lib.hid (show putF s.toList (l.take (k + 1)) = (o ++ [s.toList], true) from by rw [hF]; unfold putSt; rw [if_pos he, if_pos ⟨rfl, hl1⟩])
          clear hF he hl1
          go_wp2_with (at_builtin; refine wpList_append_own _ rfl _ _ 23 rfl w.heap.size 9 i0 _ 1 16 Tryd.underlying23 hi0 hz0 hz1 hz2 rfl (by omega) ov o.length (o.map encStr) rfl (HO.out.alloc _) ⟨wr.heap.size, 0, none⟩ 1 1 [.string s] rfl rfl (cell_one_new _ _ _) ?c11 ?c21 ?c31 ?c41 ?_)
          case c11 => simp [Value.oneCell']
          case c21 => unfold maxLen; omega
          case c31 => omega
          case c41 => simp; omega
          intro v1 w1 hown1 hg1 _
          have HB1 := Lib.hid ((HB.out.alloc (by omega) _).grown hg1 (by simp; omega) (fun g hg => (HO.out.lt g hg).1))
          have HO1 := Lib.hid hown1
          have hz1z := HB1.out.size
          clear hown1 hg1
          have hcw2 : w1.cell? ⟨b, of + k, none⟩ = some (.string (S x)) := (HB1.out.cell (p := ⟨b, of + k, none⟩) hb).trans HC0.out
          go_wp2_with (fail)
          go_roundw
          case rel => exact ⟨k + 1, (o ++ [s.toList]), true, v1, rfl, rfl, by simp, by omega, Lib.hid HF2.out, Lib.hid (by rw [List.length_append, List.map_append]; have := HO1.out; rw [← S_of s] at this; exact this), HB1⟩
          case measure => simp [intOf]; omega
      · have heB : (x == s.toList) = false := by simpa using he
        have heN : (!x == s.toList) = true := by rw [heB]; rfl
        cases d with
        | true =>
          have HF2 := Lib.hid (show putF s.toList (l.take (k + 1)) = (o ++ [x], true) from by rw [hF]; unfold putSt; rw [if_neg he]; simp)
          clear hF he
          go_wp2_with (at_builtin; refine wpList_append_own _ rfl _ _ 23 rfl w.heap.size 9 i0 _ 1 16 Tryd.underlying23 hi0 hz0 hz1 hz2 rfl (by omega) ov o.length (o.map encStr) rfl (HO.out.alloc _) ⟨wr.heap.size, 0, none⟩ 1 1 [.string (S x)] rfl rfl (cell_one_new _ _ _) ?c11 ?c21 ?c31 ?c41 ?_)
          case c11 => simp [Value.oneCell']
          case c21 => unfold maxLen; omega
          case c31 => omega
          case c41 => simp; omega
          intro v1 w1 hown1 hg1 _
          have HB1 := Lib.hid ((HB.out.alloc (by omega) _).grown hg1 (by simp; omega) (fun g hg => (HO.out.lt g hg).1))
          have HO1 := Lib.hid hown1
          have hz1z := HB1.out.size
          clear hown1 hg1
          go_wp2_with (fail)
          go_roundw
          case rel => exact ⟨k + 1, (o ++ [x]), true, v1, rfl, rfl, by simp, by omega, Lib.hid HF2.out, Lib.hid (by rw [List.length_append, List.map_append]; exact HO1.out), HB1⟩
          case measure => simp [intOf]; omega
        | false =>
          by_cases hl1 : s.toList ≤ x
          · have hlB : (!Op.bytesLess x s.toList) = true := by rw [HLE.out]; exact decide_eq_true hl1
            have hlB2 : Op.bytesLess x s.toList = false := by simpa using hlB
            have HF2 := Lib.hid (show putF s.toList (l.take (k + 1)) = (o ++ [s.toList] ++ [x], true) from by rw [hF]; unfold putSt; rw [if_neg he, if_pos ⟨rfl, hl1⟩])
            clear hF he hl1
            go_wp2_with (at_builtin; refine wpList_append_own _ rfl _ _ 23 rfl w.heap.size 9 i0 _ 1 16 Tryd.underlying23 hi0 hz0 hz1 hz2 rfl (by omega) ov o.length (o.map encStr) rfl (HO.out.alloc _) ⟨wr.heap.size, 0, none⟩ 1 1 [.string s] rfl rfl (cell_one_new _ _ _) ?c11 ?c21 ?c31 ?c41 ?_)
            case c11 => simp [Value.oneCell']
            case c21 => unfold maxLen; omega
            case c31 => omega
            case c41 => simp; omega
            intro v1 w1 hown1 hg1 _
            have HB1 := Lib.hid ((HB.out.alloc (by omega) _).grown hg1 (by simp; omega) (fun g hg => (HO.out.lt g hg).1))
            have HO1 := Lib.hid hown1
            have hz1z := HB1.out.size
            clear hown1 hg1
            have hcw2 : w1.cell? ⟨b, of + k, none⟩ = some (.string (S x)) := (HB1.out.cell (p := ⟨b, of + k, none⟩) hb).trans HC0.out
            have HO1' := Lib.hid (show w1.ownsRow w.heap.size 9 1 v1 (o.length + 1) ((o ++ [s.toList]).map encStr) from by rw [List.map_append]; have := HO1.out; rw [← S_of s] at this; exact this)
            go_wp2_with (at_builtin; refine wpList_append_own _ rfl _ _ 23 rfl w.heap.size 9 i0 _ 1 16 Tryd.underlying23 hi0 hz0 hz1 hz2 rfl (by omega) v1 (o.length + 1) ((o ++ [s.toList]).map encStr) rfl (HO1'.out.alloc _) ⟨w1.heap.size, 0, none⟩ 1 1 [.string (S x)] rfl rfl (cell_one_new _ _ _) ?c12 ?c22 ?c32 ?c42 ?_)
            case c12 => simp [Value.oneCell']
            case c22 => unfold maxLen; omega
            case c32 => omega
            case c42 => simp; omega
            intro v2 w2 hown2 hg2 _
            have HB2 := Lib.hid ((HB1.out.alloc (by omega) _).grown hg2 (by simp; omega) (fun g hg => (HO1'.out.lt g hg).1))
            have HO2 := Lib.hid hown2
            have hz2z := HB2.out.size
            clear hown2 hg2
            go_wp2_with (fail)
            go_roundw
            case rel => exact ⟨k + 1, (o ++ [s.toList] ++ [x]), true, v2, rfl, rfl, by simp, by omega, Lib.hid HF2.out, Lib.hid (by rw [List.length_append, List.length_append, List.map_append, List.map_append, List.append_assoc]; exact HO2.out), HB2⟩
            case measure => simp [intOf]; omega
          · have hlB : (!Op.bytesLess x s.toList) = false := by rw [HLE.out]; exact decide_eq_false hl1
            have hlB2 : Op.bytesLess x s.toList = true := by simpa using hlB
            have HF2 := Lib.hid (show putF s.toList (l.take (k + 1)) = (o ++ [x], false) from by rw [hF]; unfold putSt; rw [if_neg he, if_neg (fun h => hl1 h.2)])
            clear hF he hl1
            go_wp2_with (at_builtin; refine wpList_append_own _ rfl _ _ 23 rfl w.heap.size 9 i0 _ 1 16 Tryd.underlying23 hi0 hz0 hz1 hz2 rfl (by omega) ov o.length (o.map encStr) rfl (HO.out.alloc _) ⟨wr.heap.size, 0, none⟩ 1 1 [.string (S x)] rfl rfl (cell_one_new _ _ _) ?c11 ?c21 ?c31 ?c41 ?_)
            case c11 => simp [Value.oneCell']
            case c21 => unfold maxLen; omega
            case c31 => omega
            case c41 => simp; omega
            intro v1 w1 hown1 hg1 _
            have HB1 := Lib.hid ((HB.out.alloc (by omega) _).grown hg1 (by simp; omega) (fun g hg => (HO.out.lt g hg).1))
            have HO1 := Lib.hid hown1
            have hz1z := HB1.out.size
            clear hown1 hg1
            go_wp2_with (fail)
            go_roundw
            case rel => exact ⟨k + 1, (o ++ [x]), false, v1, rfl, rfl, by simp, by omega, Lib.hid HF2.out, Lib.hid (by rw [List.length_append, List.map_append]; exact HO1.out), HB1⟩
            case measure => simp [intOf]; omega
    · obtain rfl : k = l.length := by omega
      have hF := HF.out
      rw [List.take_length] at hF
      cases d with
      | true =>
        have HL := Lib.hid (show putL s.toList l = o from by unfold putL; rw [hF]; rfl)
        clear hF
        go_wp2_with (fail)
        obtain ⟨a', c', rfl, hst⟩ := strs_ownS rfl HO.out
        go_ret
        rw [HL.out]
        exact ⟨⟨a', c', rfl, hst⟩, HB.out⟩
      | false =>
        have HL := Lib.hid (show putL s.toList l = o ++ [s.toList] from by unfold putL; rw [hF]; rfl)
        clear hF
        go_wp2_with (at_builtin; refine wpList_append_own _ rfl _ _ 23 rfl w.heap.size 9 i0 _ 1 16 Tryd.underlying23 hi0 hz0 hz1 hz2 rfl (by omega) ov o.length (o.map encStr) rfl (HO.out.alloc _) ⟨wr.heap.size, 0, none⟩ 1 1 [.string s] rfl rfl (cell_one_new _ _ _) ?c11 ?c21 ?c31 ?c41 ?_)
        case c11 => simp [Value.oneCell']
        case c21 => unfold maxLen; omega
        case c31 => omega
        case c41 => simp; omega
        intro v1 w1 hown1 hg1 _
        have HB1 := Lib.hid ((HB.out.alloc (by omega) _).grown hg1 (by simp; omega) (fun g hg => (HO.out.lt g hg).1))
        have HO1 := Lib.hid hown1
        have hz1z := HB1.out.size
        clear hown1 hg1
        have HO1' := Lib.hid (show w1.ownsRow w.heap.size 9 1 v1 (o ++ [s.toList]).length ((o ++ [s.toList]).map encStr) from by rw [List.length_append, List.map_append]; have := HO1.out; rw [← S_of s] at this; exact this)
        obtain ⟨a', c', rfl, hst⟩ := strs_ownS rfl HO1'.out
        go_wp2_with (fail)
        go_ret
        rw [HL.out]
        exact ⟨⟨a', c', rfl, hst⟩, HB1.out⟩

/-- the words as they lie in the reference's rows -/
def RWordsAt (w : World) (b : Nat) (l : List Wd) : Prop := ∀ j, j < l.length → w.cell? ⟨b, j * 2, none⟩ = some (.int .i64 ((l.getD j (0, [])).1 : Int)) ∧ w.cell? ⟨b, j * 2 + 1, none⟩ = some (.string (S (l.getD j (0, [])).2))
theorem rcells_at (l : List Wd) : ∀ j, j < l.length → (rcells l)[j * 2]? = some (.int .i64 ((l.getD j (0, [])).1 : Int)) ∧ (rcells l)[j * 2 + 1]? = some (.string (S (l.getD j (0, [])).2)) := by
  induction l with
  | nil => intro j hj; simp at hj
  | cons x l ih =>
    intro j hj
    cases j with
    | zero => simp [rcells]
    | succ j =>
      have := ih j (by simpa using hj)
      have e : rcells (x :: l) = Value.int .i64 (x.1 : Int) :: Value.string (S x.2) :: rcells l := rfl
      rw [e, show (j + 1) * 2 = j * 2 + 1 + 1 by omega, List.getElem?_cons_succ, List.getElem?_cons_succ, List.getElem?_cons_succ, List.getElem?_cons_succ]
      simpa using this
theorem RWordsAt.below {w w' : World} {b : Nat} {l : List Wd} (h : RWordsAt w b l) {B : Nat} (hb : Below B w w') (hB : b < B) : RWordsAt w' b l := fun j hj =>
  ⟨(hb.cell (p := ⟨b, _, none⟩) hB).trans (h j hj).1, (hb.cell (p := ⟨b, _, none⟩) hB).trans (h j hj).2⟩
/-- the reference's words, as they come -/
theorem refWords_lie (s : ByteArray) (w : World) (hs : s.size ≤ 1099511627776) :
    Calls Tryd.prog 30 #[.string s, .int .i64 0] w fun e w' => (∃ wa wc, e = .returned (.slice wa (wordsL s.toList).length wc) ∧ ((wordsL s.toList).length = 0 ∨ ∃ b, wa = some ⟨b, 0, none⟩ ∧ w.heap.size ≤ b ∧ b < w'.heap.size ∧ RWordsAt w' b (wordsL s.toList)) ∧ (wordsL s.toList).length ≤ wc ∧ wc ≤ 9223372036854775807) ∧ Below w.heap.size w w' := by
  refine (refWords_any s w hs).mono ?_
  rintro e w' ⟨v, rfl, h, hb⟩
  refine ⟨?_, hb⟩
  obtain ⟨hl, ⟨rfl, h0⟩ | ⟨g, cap, cur, rfl, hg, hh, h1, h2, h3, h4⟩⟩ := id h
  · exact ⟨none, 0, by rw [h0], .inl h0, by omega, by omega⟩
  · refine ⟨_, cap, rfl, .inr ⟨g, rfl, hg, (Array.getElem?_eq_some_iff.1 hh).1, fun j hj => ?_⟩, h1, h2⟩
    exact ⟨(h.cellAt _ (by omega)).trans (rcells_at _ j hj).1, (h.cellAt _ (by omega)).trans (rcells_at _ j hj).2⟩

set_option maxRecDepth 100000 in
set_option maxHeartbeats 4000000 in
theorem refUses_any (s : ByteArray) (w : World) (hs : s.size ≤ 1000000) :
    Calls Tryd.prog 20 #[.string s] w fun e w' => (∃ a c, e = .returned (.slice a (usesL s.toList).length c) ∧ Strs w' a (usesL s.toList).length ((usesL s.toList).map S)) ∧ Below w.heap.size w w' := by
  have hlen := bytes_len s
  have hwl := words_len s.toList
  rw [hlen] at hwl
  have hwe := words_each s.toList
  obtain ⟨ws, hws⟩ : ∃ ws, wordsL s.toList = ws := ⟨_, rfl⟩
  have hus : usesL s.toList = usR (namesW ws) := by rw [← usR_uses, hws]
  rw [hws] at hwe hwl
  have HUs := Lib.hid hus
  have HWe := Lib.hid hwe
  have HL := Lib.hid hlen
  clear hus hwe hlen
  go_enter Tryd.func20, Tryd.ntmps20
  go_wp2_with (fail)
  have hcl := refWords_lie s w (by omega)
  rw [hws] at hcl
  refine hcl.mono ?_
  rintro e w1 ⟨⟨wa, wc, rfl, hwa, _, _⟩, hb1⟩
  have HB1 := Lib.hid hb1
  have HWa := Lib.hid hwa
  have hz1 := hb1.size
  clear hcl hb1 hwa hws
  go_wp2_with (fail)
  go_loopw [3, 5] (fun ov iv wr => ∃ (k : Nat) (oa : Option Addr) (oc : Nat), ov = .slice oa (usR (namesW (ws.take k))).length oc ∧ iv = .int .i64 k ∧ k ≤ ws.length ∧ Hid (Strs wr oa (usR (namesW (ws.take k))).length ((usR (namesW (ws.take k))).map S)) ∧ Hid (Below w1.heap.size w1 wr)) (fun _ iv _ => ws.length - (intOf iv).toNat)
  case atStart => exact ⟨0, none, 0, rfl, rfl, by omega, Lib.hid ⟨rfl, .inl rfl⟩, Lib.hid (Below.refl _ _)⟩
  case round =>
    obtain ⟨k, oa, oc, rfl, rfl, hk, HS, HB⟩ := hrel
    have hbz := HB.out.size
    by_cases hlt : k < ws.length
    · rcases HWa.out with h0 | ⟨b, rfl, hb0, hb, hwat⟩
      · omega
      have hx : ∃ x, ws[k]? = some x := ⟨_, List.getElem?_eq_getElem hlt⟩
      obtain ⟨x, hx⟩ := hx
      obtain ⟨d0, d1⟩ := hwat k hlt
      rw [show ws.getD k (0, []) = x by simp [List.getD, hx]] at d0 d1
      have c1 := (HB.out.cell (p := ⟨b, k * 2 + 1, none⟩) hb).trans d1
      have hsn := namesW_snoc hx
      have hxl : x.2.length ≤ 1000000 := by
        have := HWe.out x (List.mem_of_getElem? hx)
        rw [HL.out] at this
        omega
      have hul : (usR (namesW (ws.take k))).length ≤ 1000000 := by
        have h1 := usR_len (namesW (ws.take k))
        have h2 := namesW_len (ws.take k)
        rw [List.length_take] at h2
        omega
      obtain ⟨us, hu⟩ : ∃ us, usR (namesW (ws.take k)) = us := ⟨_, rfl⟩
      have HSn := Lib.hid hsn
      have HU := Lib.hid hu
      rw [hu] at HS hul ⊢
      clear hwat d0 d1 hx hsn hu
      cases hq : nameB x.2 with
      | false =>
        have HN := Lib.hid (show usR (namesW (ws.take (k + 1))) = us from by rw [HSn.out, hq]; exact HU.out)
        have hq2 : nameB (S x.2).toList = false := by rw [S_toList]; exact hq
        have HQ := Lib.hid hq2
        clear hq hq2
        go_wp2_with (fail)
        refine (refName_any (S x.2) wr (by rw [S_size]; omega)).mono ?_
        rintro e w2 ⟨rfl, rfl⟩
        rw [HQ.out]
        go_wp2_with (fail)
        go_roundw
        case rel => exact ⟨k + 1, oa, oc, by rw [HN.out], by simp, by omega, by rw [HN.out]; exact HS, HB⟩
        case measure => simp [intOf]; omega
      | true =>
        have HN := Lib.hid (show usR (namesW (ws.take (k + 1))) = putL x.2 us from by rw [HSn.out, hq, if_pos rfl, usR_snoc, HU.out])
        have hq2 : nameB (S x.2).toList = true := by rw [S_toList]; exact hq
        have HQ := Lib.hid hq2
        clear hq hq2
        go_wp2_with (fail)
        refine (refName_any (S x.2) wr (by rw [S_size]; omega)).mono ?_
        rintro e w2 ⟨rfl, rfl⟩
        rw [HQ.out]
        go_wp2_with (fail)
        refine (refPut_any oa us.length oc us (S x.2) wr HS.out (by omega)).mono ?_
        rintro e w2 ⟨⟨oa', oc', rfl, hst⟩, hb2⟩
        rw [S_toList] at hst ⊢
        have HS2 := Lib.hid hst
        have HB2 := Lib.hid (HB.out.trans (hb2.mono hbz))
        clear hst hb2
        go_wp2_with (fail)
        go_roundw
        case rel => exact ⟨k + 1, oa', oc', by rw [HN.out], by simp, by omega, by rw [HN.out]; exact HS2, HB2⟩
        case measure => simp [intOf]; omega
    · obtain rfl : k = ws.length := by omega
      have HUs2 := HUs.out
      rw [List.take_length] at HS
      rw [List.take_length, ← HUs2]
      rw [← HUs2] at HS
      have HBB := Lib.hid (HB1.out.trans (HB.out.mono hz1))
      clear HUs2
      go_wp2_with (fail)
      go_ret
      exact ⟨⟨oa, oc, rfl, HS.out⟩, HBB.out⟩
#print axioms refPut_any
#print axioms refUses_any
end Go.Proofs.YtkmncmceheggjaaDoor

