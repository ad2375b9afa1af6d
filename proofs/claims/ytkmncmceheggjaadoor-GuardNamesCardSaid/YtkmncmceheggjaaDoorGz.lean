/- GuardNames: the law. -/
import Derived.Test.YtkmncmceheggjaaDoorGy
import Derived.Test.YtkmncmceheggjaaDoorGn
import Derived.Deep.CutBlock
import Derived.Deep.DeepCutAuto
set_option linter.unusedVariables false
set_option linter.unusedSimpArgs false
namespace Go.Proofs.YtkmncmceheggjaaDoor
open Go.RowKit Go.Ev

section
variable {P : Program} (w : World)
/-- things that lie somewhere, behind what is owned; the source may be nil -/
theorem run_append_any (t ty e : TypeId) (i : TypeInfo) (z : Value) (size bytes : Nat) (ht : P.underlying t = some (.slice e)) (hi : P.info? e = some i) (hz : i.zero = some z) (hsize : i.size = size) (hby : i.bytes = bytes) (hzs : z.cells.size = size) (hsz : 0 < size)
    (base : Nat) (v : Value) (n : Nat) (xs : List Value) (hown : w.ownsRow base e size v n xs) (a : Option Addr) (m c : Nat) (ys : List Value) (hyl : ys.length = m * size) (h1 : ∀ u ∈ ys, u.oneCell' = true)
    (hs : (m = 0 ∧ a = none) ∨ ∃ ad, a = some ad ∧ ∀ j u, ys[j]? = some u → w.cell? (ad.add j) = some u) (h63 : n + m ≤ maxLen) (hlen : (n + m) * bytes ≤ 140737488355328) (hbase : base ≤ w.heap.size) :
    ∃ v' w', (Builtin.append_ #[t, t] ty #[v, .slice a m c]).run P w = .ok v' w' ∧ w'.ownsRow base e size v' (n + m) (xs ++ ys) ∧ w.grownBy w' v.ownBlock := by
  rcases hs with ⟨rfl, rfl⟩ | ⟨ad, rfl, hc⟩
  · have hy0 : ys = [] := List.eq_nil_of_length_eq_zero (by omega)
    subst hy0
    refine ⟨v, w, ?_, ?_, ⟨rfl, rfl, rfl, Nat.le_refl _, fun _ _ _ => rfl⟩⟩
    · rcases hown.2 with ⟨rfl, rfl⟩ | ⟨g, cap, cur, rfl, _, _, hnc, _⟩
      · simp [Builtin.append_, run_underlying ht, sizeOf, typeInfo, hi, Builtin.lenOf, Builtin.firstCells]
      · simp [Builtin.append_, run_underlying ht, sizeOf, typeInfo, hi, Builtin.lenOf, Builtin.firstCells, hnc, storeCells]
    · show w.ownsRow base e size v (n + 0) (xs ++ [])
      rw [List.append_nil]
      exact hown
  · obtain ⟨v', w', hr, h2, h3, _, _⟩ := run_append_own_at (P := P) w base t ty e i z size bytes ht hi hz hsize hby hzs hsz v n xs hown ad m c ys hyl hc h1 h63 hlen hbase
    exact ⟨v', w', hr, h2, h3⟩
theorem wpList_append_any {ops : Array Oper} {rest : List Oper} {o : Oper} {ac : Act} {Q : Exit → Act → World → Prop} (hgd : o.guard = none) (sl x : Operand) (t : TypeId) (ho : o.op = .call { callee := .builtin .append, args := #[sl, x], argTypes := #[t, t] })
    (e : TypeId) (i : TypeInfo) (z : Value) (size bytes : Nat) (ht : P.underlying t = some (.slice e)) (hi : P.info? e = some i) (hz : i.zero = some z) (hsize : i.size = size) (hby : i.bytes = bytes) (hzs : z.cells.size = size) (hsz : 0 < size)
    (base : Nat) (v : Value) (n : Nat) (xs : List Value) (hv : ac.eval sl = v) (hown : w.ownsRow base e size v n xs) (a : Option Addr) (m c : Nat) (ys : List Value) (hx : ac.eval x = .slice a m c) (hyl : ys.length = m * size) (h1 : ∀ u ∈ ys, u.oneCell' = true)
    (hs : (m = 0 ∧ a = none) ∨ ∃ ad, a = some ad ∧ ∀ j u, ys[j]? = some u → w.cell? (ad.add j) = some u) (h63 : n + m ≤ maxLen) (hlen : (n + m) * bytes ≤ 140737488355328) (hbase : base ≤ w.heap.size)
    (h : ∀ v' w', w'.ownsRow base e size v' (n + m) (xs ++ ys) → w.grownBy w' v.ownBlock → wpList P ops Q rest (ac.put o.dst v') w') : wpList P ops Q (o :: rest) ac w := by
  refine wpList_plain hgd fun K hK => ?_
  obtain ⟨v', w', hr, h2, h3⟩ := run_append_any (P := P) w t o.type e i z size bytes ht hi hz hsize hby hzs hsz base v n xs hown a m c ys hyl h1 hs h63 hlen hbase
  unfold Oper.wp execOp
  simp only [ho, resolve, invoke, builtin, Sem.run_bind, Sem.run_pure, Result.andThen_ok, List.map_toArray, List.map_cons, List.map_nil, hv, hx, hr]
  exact hK _ _ (h v' w' h2 h3)
end

theorem toList_app (a b : ByteArray) : (a ++ b).toList = a.toList ++ b.toList := by
  rw [ByteArray.toList_eq, ByteArray.toList_eq, ByteArray.toList_eq, ByteArray.data_append, Array.toList_append]
/-- the words that the law holds against the text -/
def wlL : List (List UInt8) := [[110, 111, 116], [97, 110, 100], [111, 114], [108, 116], [101, 113], [97, 100, 100], [115, 117, 98], [116, 121, 112, 101], [97, 116, 116, 114], [115, 116, 97, 103, 101], [109, 97, 114, 107], [], [49], [45, 49], [97, 66], [97, 32, 98]]
def wlCells : Array Value := #[.string ⟨#[110, 111, 116]⟩, .string ⟨#[97, 110, 100]⟩, .string ⟨#[111, 114]⟩, .string ⟨#[108, 116]⟩, .string ⟨#[101, 113]⟩, .string ⟨#[97, 100, 100]⟩, .string ⟨#[115, 117, 98]⟩, .string ⟨#[116, 121, 112, 101]⟩, .string ⟨#[97, 116, 116, 114]⟩, .string ⟨#[115, 116, 97, 103, 101]⟩, .string ⟨#[109, 97, 114, 107]⟩, .string ⟨#[]⟩, .string ⟨#[49]⟩, .string ⟨#[45, 49]⟩, .string ⟨#[97, 66]⟩, .string ⟨#[97, 32, 98]⟩]
theorem wl_at {k : Nat} (h : k < 16) : wlCells[k]? = some (.string (S (wlL.getD k []))) := by
  have : k = 0 ∨ k = 1 ∨ k = 2 ∨ k = 3 ∨ k = 4 ∨ k = 5 ∨ k = 6 ∨ k = 7 ∨ k = 8 ∨ k = 9 ∨ k = 10 ∨ k = 11 ∨ k = 12 ∨ k = 13 ∨ k = 14 ∨ k = 15 := by omega
  rcases this with rfl | rfl | rfl | rfl | rfl | rfl | rfl | rfl | rfl | rfl | rfl | rfl | rfl | rfl | rfl | rfl <;> rfl
theorem wl_name : ∀ k, k < 16 → nameB (wlL.getD k []) = false := by decide +kernel
theorem wl_size : ∀ k, k < 16 → (wlL.getD k []).length ≤ 5 := by decide +kernel
theorem wl_res {t : List UInt8} (h : ∀ k, k < 16 → t ≠ wlL.getD k []) : resB t = false ∧ t ≠ [] := by
  refine ⟨?_, h 11 (by omega)⟩
  unfold resB
  have e : ∀ k, k < 16 → (t == wlL.getD k []) = false := fun k hk => by simpa using h k hk
  have e0 := e 0 (by omega); have e1 := e 1 (by omega); have e2 := e 2 (by omega); have e3 := e 3 (by omega); have e4 := e 4 (by omega); have e5 := e 5 (by omega)
  have e6 := e 6 (by omega); have e7 := e 7 (by omega); have e8 := e 8 (by omega); have e9 := e 9 (by omega); have e10 := e 10 (by omega)
  simp only [wlL, List.getD_cons_zero, List.getD_cons_succ] at e0 e1 e2 e3 e4 e5 e6 e7 e8 e9 e10
  simp only [e0, e1, e2, e3, e4, e5, e6, e7, e8, e9, e10, Bool.or_false]
theorem has_last (l : List ByteArray) (t : ByteArray) : hasB (l ++ [t]) t.toList = true := by
  unfold hasB idxI
  cases h : (l ++ [t]).findIdx? (fun x => x.toList == t.toList) with
  | some i => simp
  | none =>
    rw [List.findIdx?_eq_none_iff] at h
    have := h t (by simp)
    simp at this

theorem addr_add (g o k : Nat) : (⟨g, o, none⟩ : Addr).add k = ⟨g, o + k, none⟩ := by
  unfold Addr.add
  split
  · rename_i h; subst h; rfl
  · rfl
theorem strs_src {W : World} {a : Option Addr} {n : Nat} {l : List ByteArray} (h : Strs W a n l) : (n = 0 ∧ a = none) ∨ ∃ ad, a = some ad ∧ ∀ j u, (l.map Value.string)[j]? = some u → W.cell? (ad.add j) = some u := by
  obtain ⟨hn, h0 | ⟨b, o, rfl, hlt, hs⟩⟩ := h
  · cases a with
    | none => exact .inl ⟨h0, rfl⟩
    | some ad =>
      refine .inr ⟨ad, rfl, fun j u hj => ?_⟩
      have : l = [] := List.eq_nil_of_length_eq_zero (by omega)
      subst this
      simp at hj
  · refine .inr ⟨_, rfl, fun j u hj => ?_⟩
    rw [List.getElem?_map, Option.map_eq_some_iff] at hj
    obtain ⟨x, hx, rfl⟩ := hj
    have hjl := (List.getElem?_eq_some_iff.1 hx).1
    rw [addr_add, hs j hjl]
    simp [List.getD, hx]
theorem strs_own {W : World} {B : Nat} {v : Value} {n : Nat} {l : List ByteArray} (hn : n = l.length) (h : W.ownsRow B 9 1 v n (l.map Value.string)) (h0 : 0 < n) : ∃ a c, v = .slice a n c ∧ Strs W a n l := by
  have h' := h
  obtain ⟨hl, ⟨_, hz⟩ | ⟨g, cap, cur, rfl, hg, hh, _⟩⟩ := h
  · omega
  · refine ⟨_, cap, rfl, hn, .inr ⟨g, 0, rfl, (Array.getElem?_eq_some_iff.1 hh).1, fun j hj => ?_⟩⟩
    have hx : ∃ x, l[j]? = some x := ⟨_, List.getElem?_eq_getElem hj⟩
    obtain ⟨x, hx⟩ := hx
    have := h'.cells (g := g) rfl j (.string x) (by rw [List.getElem?_map, hx]; rfl)
    rw [addr_add] at this
    rw [this]
    simp [List.getD, hx]

set_option maxHeartbeats 8000000 in
set_option maxRecDepth 100000 in
theorem guardNames_cut (s : ByteArray) (a : Option Addr) (n c : Nat) (l : List ByteArray) (w : World) (hn1 : n ≤ 5 → l.length = n) (hn2 : 5 < n → l.length = 5) (hnc : n ≤ c) (hS : Strs w a l.length l) :
    Calls Tryd.prog 8 #[.string s, .slice a n c] w fun e w' => e = .returned (.bool true) ∧ Below w.heap.size w w' := by
  have h5 : l.length ≤ 5 := by
    by_cases h : n ≤ 5
    · rw [hn1 h]; exact h
    · rw [hn2 (by omega)]; exact Nat.le_refl _
  obtain ⟨i0, hi0, hz0, hz1, hz2⟩ := info_parts infoS
  have HN := Lib.hid (And.intro hn1 hn2); clear hn1 hn2
  have HS := Lib.hid hS; clear hS
  go_enter Tryd.func8, Tryd.ntmps8
  go_wp2_with (fail)
  go_loopw [5, 6] (fun tv iv wr => ∃ (k : Nat) (tB : ByteArray), tv = .string tB ∧ iv = .int .i64 k ∧ k ≤ s.size ∧ k ≤ 14 ∧ tB.size ≤ k ∧ Hid (tB.toList.all lowB = true) ∧ wr = w) (fun _ iv _ => s.size - (intOf iv).toNat)
  case atStart => exact ⟨0, ⟨#[]⟩, rfl, rfl, by omega, by omega, Nat.le_refl _, Lib.hid (by rw [ByteArray.toList_eq]; rfl), rfl⟩
  case round =>
    obtain ⟨k, tB, rfl, rfl, hk, hk14, htk, HLow, hwr⟩ := hrel
    obtain rfl : w = wr := hwr.symm
    clear hwr
    by_cases hgo : k < s.size ∧ k < 14
    · obtain ⟨hlt, hlt14⟩ := hgo
      have hkB : decide ((k : Int) < (s.size : Int)) = true := by simp; omega
      have hk2B : decide ((k : Int) < 14) = true := by simp; omega
      by_cases hb : lowB s[k] = true
      · have hb' : 97 ≤ s[k].toNat ∧ s[k].toNat ≤ 122 := by simpa [lowB] using hb
        obtain ⟨b1, b2⟩ := hb'
        have hq1 : decide ((97 : Int) ≤ (s[k].toNat : Int)) = true := by simp; omega
        have hq2 : decide ((s[k].toNat : Int) ≤ 122) = true := by simp; omega
        have hex : (s.extract k (k + 1)).toList = [s[k]] := by
          rw [extract_toList, drop_get s k hlt, show k + 1 - k = 1 by omega]
          rfl
        have hexs : (s.extract k (k + 1)).size = 1 := by rw [← bytes_len, hex]; rfl
        have hal : (tB ++ s.extract k (k + 1)).toList.all lowB = true := by
          rw [toList_app, hex, List.all_append, HLow.out]
          simp [hb]
        have hsz : (tB ++ s.extract k (k + 1)).size ≤ k + 1 := by
          rw [← bytes_len, toList_app, List.length_append, bytes_len, hex]
          simp
          omega
        have HAl := Lib.hid (And.intro hal hsz)
        clear hb hex hexs hal hsz
        go_wp2_with (fail)
        go_roundw
        case rel => exact ⟨k + 1, _, rfl, by simp, by omega, by omega, HAl.out.2, Lib.hid HAl.out.1, trivial⟩
        case measure => simp [intOf]; omega
      · have hb' : ¬ (97 ≤ s[k].toNat ∧ s[k].toNat ≤ 122) := by simpa [lowB] using hb
        clear hb
        by_cases h97 : s[k].toNat < 97
        · have hq1 : decide ((97 : Int) ≤ (s[k].toNat : Int)) = false := by simp; omega
          clear hb'
          go_wp2_with (fail)
          go_roundw
          case rel => exact ⟨k + 1, tB, rfl, by simp, by omega, by omega, by omega, HLow, trivial⟩
          case measure => simp [intOf]; omega
        · have hq1 : decide ((97 : Int) ≤ (s[k].toNat : Int)) = true := by simp; omega
          have hq2 : decide ((s[k].toNat : Int) ≤ 122) = false := by simp; omega
          clear hb'
          go_wp2_with (fail)
          go_roundw
          case rel => exact ⟨k + 1, tB, rfl, by simp, by omega, by omega, by omega, HLow, trivial⟩
          case measure => simp [intOf]; omega
    · have hkk : k = s.size ∨ (k < s.size ∧ k = 14) := by omega
      have HK := Lib.hid hkk
      have ht14 : tB.size ≤ 14 := by omega
      clear hgo hkk
      by_cases hke : k < s.size
      · have hk20e : decide ((k : Int) < 14) = false := by
          have := HK.out
          simp
          omega
        have hkB : decide ((k : Int) < (s.size : Int)) = true := by simp; omega
        have hX := heap_alloc_new w (.cells wlCells 9)
        have HX := Lib.hid hX
        have hbX : Below w.heap.size w (w.alloc (.cells wlCells 9)) := (Below.refl _ _).alloc (Nat.le_refl _) _
        have HBX := Lib.hid hbX
        clear hX hbX
        go_wp2_with (fail)
        go_loopw [43] (fun iv w2 => ∃ k2 : Nat, iv = .int .i64 k2 ∧ k2 ≤ 16 ∧ Hid (∀ j, j < k2 → tB.toList ≠ wlL.getD j []) ∧ Hid (w2.heap[w.heap.size]? = some (.cells wlCells 9 (0, 0))) ∧ Hid (Below w.heap.size w w2)) (fun iv _ => 16 - (intOf iv).toNat)
        case atStart => exact ⟨0, rfl, by omega, Lib.hid (fun j hj => absurd hj (Nat.not_lt_zero _)), HX, HBX⟩
        case round =>
          obtain ⟨k2, rfl, hk2, HNe, HX2, HB2⟩ := hrel
          by_cases hk16 : k2 < 16
          · have cw : wr.cell? ⟨w.heap.size, k2, none⟩ = some (.string (S (wlL.getD k2 []))) := by rw [Lib.cell_of_heap HX2.out]; exact wl_at hk16
            have hnf := wl_name k2 hk16
            have hsz := wl_size k2 hk16
            obtain ⟨x, hx⟩ : ∃ x, wlL.getD k2 [] = x := ⟨_, rfl⟩
            rw [hx] at cw hnf hsz
            have Hx := Lib.hid hx
            clear hx
            go_wp2_with (fail)
            refine (name_any (S x) wr (by rw [S_size]; omega)).mono ?_
            rintro e w3 ⟨rfl, rfl⟩
            rw [S_toList, hnf]
            clear hnf
            by_cases he : tB = S x
            · subst he
              go_wp2_with (fail)
              refine (known_walk wr).mono ?_
              rintro e w4 ⟨rfl, hb4⟩
              have HB4 := Lib.hid (HB2.out.trans (hb4.mono HB2.out.size))
              clear hb4
              go_wp2_with (fail)
              go_ret
              exact ⟨rfl, HB4.out⟩
            · have hne : tB.toList ≠ x := fun e => he (S_inj (by rw [S_toList]; exact e))
              have HNe2 := Lib.hid hne
              have heL : (tB.toList == x) = false := by simpa using hne
              clear hne he
              go_wp2_with (fail)
              go_roundw
              case rel =>
                refine ⟨k2 + 1, by simp, by omega, Lib.hid (fun j hj => ?_), HX2, HB2⟩
                by_cases e : j = k2
                · subst e; rw [Hx.out]; exact HNe2.out
                · exact HNe.out j (by omega)
              case measure => simp [intOf]; omega
          · obtain rfl : k2 = 16 := by omega
            obtain ⟨hres, hne0⟩ := wl_res HNe.out
            have HRes := Lib.hid hres
            have HNe0 := Lib.hid hne0
            have ht1 : 1 ≤ tB.size := by
              rw [← bytes_len]
              exact List.length_pos_iff.2 hne0
            have htB1 : decide ((1 : Int) ≤ (tB.size : Int)) = true := by simp; omega
            clear hres hne0 HX2
            obtain ⟨fine, hfine⟩ : ∃ q, decide ((tB.size : Int) ≤ 12) = q := ⟨_, rfl⟩
            have HFi := Lib.hid hfine
            have hnm : nameB tB.toList = fine := by
              rw [name_t HLow.out HRes.out, ← hfine, bytes_len]
              apply decide_eq_decide.2
              omega
            have HNm := Lib.hid hnm
            clear hnm
            have hfd : fine = true → tB.size ≤ 12 := fun h => by rw [← hfine] at h; have := of_decide_eq_true h; omega
            have hfn : fine = false → ¬ tB.size ≤ 12 := fun h => by rw [← hfine] at h; have := of_decide_eq_false h; omega
            have HFd := Lib.hid (And.intro hfd hfn)
            clear hfd hfn hfine htB1
            go_upto_region 16 with (fail)
            go_cut [9, 64] (fun v b wx => v = .bool fine ∧ b = .bool (decide ((5 : Int) < (n : Int))) ∧ wr = wx)
            case first =>
              cases fine with
              | true =>
                have h12 := HFd.out.1 rfl
                have h12B : decide ((tB.size : Int) ≤ 12) = true := decide_eq_true (by omega)
                go_wp2_with (fail)
                go_meet
                exact ⟨rfl, rfl, rfl⟩
              | false =>
                have h12 := HFd.out.2 rfl
                have h12B : decide ((tB.size : Int) ≤ 12) = false := decide_eq_false (by omega)
                go_wp2_with (fail)
                go_meet
                exact ⟨rfl, rfl, rfl⟩
            case rest =>
            obtain ⟨rfl, rfl, rfl⟩ := hcut
            go_upto_if 64 with (fail)
            go_cut [1] (fun v wx => v = .slice a l.length c ∧ wr = wx)
            case first =>
              by_cases h : 5 < n
              · have HL5 := Lib.hid (HN.out.2 h)
                have h5B : decide ((5 : Int) < (n : Int)) = true := decide_eq_true (by omega)
                have h5c : 5 ≤ c := by omega
                go_wp2_with (fail)
                go_meet
                exact ⟨by rw [HL5.out], rfl⟩
              · have HL5 := Lib.hid (HN.out.1 (by omega))
                have h5B : decide ((5 : Int) < (n : Int)) = false := decide_eq_false (by omega)
                go_wp2_with (fail)
                go_meet
                exact ⟨by rw [HL5.out], rfl⟩
            case rest =>
            obtain ⟨rfl, rfl⟩ := hcut
            have hSw := HS.out.below HB2.out
            have bE : Below wr.heap.size wr (wr.alloc (.cells #[] 9)) := (Below.refl _ _).alloc (Nat.le_refl _) _
            have o1 : (wr.alloc (.cells #[] 9)).ownsRow wr.heap.size 9 1 (.slice (some ⟨wr.heap.size, 0, none⟩) 0 0) 0 [] := ⟨rfl, .inr ⟨wr.heap.size, 0, #[], rfl, Nat.le_refl _, heap_alloc_new wr _, Nat.le_refl _, by unfold maxLen; omega, rfl, rfl⟩⟩
            have hs0 : wr.heap.size ≤ (wr.alloc (.cells #[] 9)).heap.size := bE.size
            have hsrc : (l.length = 0 ∧ a = none) ∨ ∃ ad, a = some ad ∧ ∀ j u, (l.map Value.string)[j]? = some u → (wr.alloc (.cells #[] 9)).cell? (ad.add j) = some u := strs_src (hSw.below bE)
            have HO1 := Lib.hid o1
            have HBE := Lib.hid bE
            have HSrc := Lib.hid hsrc
            clear hSw bE o1 hsrc
            go_wp2_with (at_builtin; refine wpList_append_any _ rfl _ _ 23 rfl 9 i0 _ 1 16 Tryd.underlying23 hi0 hz0 hz1 hz2 rfl (by omega) wr.heap.size (.slice (some ⟨wr.heap.size, 0, none⟩) 0 0) 0 [] rfl HO1.out a l.length c (l.map Value.string) rfl ?c1 ?c2 HSrc.out ?c3 ?c4 ?c5 ?_)
            case c1 => simp
            case c2 =>
              intro u hu
              obtain ⟨x, _, rfl⟩ := List.mem_map.1 hu
              rfl
            case c3 => unfold maxLen; omega
            case c4 => omega
            case c5 => exact hs0
            intro v1 w1 ho1 hg1
            have HB1 := Lib.hid (HBE.out.grown hg1 hs0 (fun g hg => (HO1.out.lt g hg).1))
            have hs1 := HB1.out.size
            have hown1 : w1.ownsRow wr.heap.size 9 1 v1 l.length (l.map Value.string) := by simpa using ho1
            have hAl : Below w1.heap.size w1 (w1.alloc (.cells #[.string tB] 9)) := (Below.refl _ _).alloc (Nat.le_refl _) _
            have HAl := Lib.hid hAl
            have HOwn1 := Lib.hid (hown1.alloc (.cells #[.string tB] 9))
            have hs2 : wr.heap.size ≤ (w1.alloc (.cells #[.string tB] 9)).heap.size := by simp; omega
            have HNew := Lib.hid (World.news_of_block (cs := #[.string tB]) (t := 9) (fr := (0, 0)) (heap_alloc_new w1 _))
            clear ho1 hg1 hown1 hAl
            go_wp2_with (at_builtin; refine wpList_append_any _ rfl _ _ 23 rfl 9 i0 _ 1 16 Tryd.underlying23 hi0 hz0 hz1 hz2 rfl (by omega) wr.heap.size v1 l.length (l.map Value.string) rfl HOwn1.out (some ⟨w1.heap.size, 0, none⟩) 1 1 [.string tB] rfl rfl ?c1 (.inr ⟨_, rfl, HNew.out⟩) ?c3 ?c4 ?c5 ?_)
            case c1 => simp [Value.oneCell']
            case c3 => unfold maxLen; omega
            case c4 => omega
            case c5 => first | exact hs2 | omega
            intro v2 w2 ho2 hg2
            have HB2' := Lib.hid ((HB1.out.trans (HAl.out.mono hs1)).grown hg2 hs2 (fun g hg => (HOwn1.out.lt g hg).1))
            have HBW := Lib.hid (HB2.out.trans (HB2'.out.mono HB2.out.size))
            obtain ⟨xa, xc, rfl, hst⟩ := strs_own (l := l ++ [tB]) (n := l.length + 1) (by simp) (by rw [List.map_append]; exact ho2) (by omega)
            have HSt := Lib.hid hst
            clear ho2 hg2 hst
            go_wp2_with (fail)
            refine (check_any tB xa (l.length + 1) xc (l ++ [tB]) w2 (by omega) HSt.out).mono ?_
            rintro e w3 ⟨rfl, hb3⟩
            have HB3 := Lib.hid (HBW.out.trans (hb3.mono HBW.out.size))
            have hck : ((checkP (l ++ [tB]) tB.toList).1 = 0 ↔ fine = true) := by
              rw [check_t HLow.out HRes.out HNe0.out (by rw [bytes_len]; omega) (has_last l tB), HNm.out]
            obtain ⟨ce, hce⟩ : ∃ ce, (checkP (l ++ [tB]) tB.toList).1 = ce := ⟨_, rfl⟩
            obtain ⟨cf, hcf⟩ : ∃ cf, (checkP (l ++ [tB]) tB.toList).2 = cf := ⟨_, rfl⟩
            rw [hce] at hck
            rw [hce, hcf]
            have HCk := Lib.hid hck
            clear hb3 hck hce hcf
            go_wp2_with (fail)
            have hY1 : Below w3.heap.size w3 ((w3.alloc (.cells #[.string tB] 9)).alloc (.cells #[.int .i64 41] 3)) := ((Below.refl _ _).alloc (Nat.le_refl _) _).alloc (by simp) _
            have hSt3 : Strs ((w3.alloc (.cells #[.string tB] 9)).alloc (.cells #[.int .i64 41] 3)) (some ⟨w3.heap.size, 0, none⟩) 1 [tB] := by
              refine ⟨rfl, .inr ⟨w3.heap.size, 0, rfl, by simp; omega, fun j hj => ?_⟩⟩
              obtain rfl : j = 0 := by simp at hj; omega
              have h0 := heap_alloc_new w3 (.cells #[.string tB] 9)
              have h1 := (((Below.refl (w3.alloc (.cells #[.string tB] 9)).heap.size _).alloc (Nat.le_refl _) (.cells #[.int .i64 41] 3)).block w3.heap.size (by simp)).trans h0
              rw [Lib.cell_of_heap h1]
              rfl
            have hIn3 : Ints ((w3.alloc (.cells #[.string tB] 9)).alloc (.cells #[.int .i64 41] 3)) (some ⟨w3.heap.size + 1, 0, none⟩) 1 [41] := by
              refine ⟨rfl, .inr ⟨w3.heap.size + 1, 0, rfl, by simp, fun j hj => ?_⟩⟩
              obtain rfl : j = 0 := by simp at hj; omega
              have h0 := heap_alloc_new (w3.alloc (.cells #[.string tB] 9)) (.cells #[.int .i64 41] 3)
              rw [World.size_alloc] at h0
              rw [Lib.cell_of_heap h0]
              rfl
            refine (eval_any _ (some ⟨w3.heap.size, 0, none⟩) 1 1 [tB] (some ⟨w3.heap.size + 1, 0, none⟩) 1 1 [41] _ (by omega) (by omega) hSt3 hIn3).mono ?_
            rintro e w4 ⟨rfl, hb4⟩
            have HB4 := Lib.hid (HB3.out.trans ((hY1.trans (hb4.mono hY1.size)).mono HB3.out.size))
            have htl : ((⟨#[97, 100, 100, 32]⟩ : ByteArray) ++ tB ++ ⟨#[32, 49]⟩).toList = addL ++ tB.toList ++ oneL := by
              rw [toList_app, toList_app]
              rw [ByteArray.toList_eq ⟨#[97, 100, 100, 32]⟩, ByteArray.toList_eq ⟨#[32, 49]⟩]
              rfl
            have hev : fine = true → evalP [tB] [41] ((⟨#[97, 100, 100, 32]⟩ : ByteArray) ++ tB ++ ⟨#[32, 49]⟩).toList = (42, 0) := fun h => by
              rw [htl]
              have := eval_t HLow.out HRes.out HNe0.out (by rw [HNm.out, h])
              rw [S_of] at this
              exact this
            have hus : fine = true → usesL ((⟨#[97, 100, 100, 32]⟩ : ByteArray) ++ tB ++ ⟨#[32, 49]⟩).toList = [tB.toList] := fun h => by
              rw [htl]
              exact uses_t HLow.out HNe0.out (by rw [HNm.out, h])
            obtain ⟨ev, hevv⟩ : ∃ ev, evalP [tB] [41] ((⟨#[97, 100, 100, 32]⟩ : ByteArray) ++ tB ++ ⟨#[32, 49]⟩).toList = ev := ⟨_, rfl⟩
            rw [hevv] at hev ⊢
            have HEv := Lib.hid hev
            have HUs := Lib.hid hus
            clear hY1 hSt3 hIn3 hb4 htl hev hus hevv
            go_wp2_with (fail)
            refine (name_any tB w4 (by omega)).mono ?_
            rintro e w5 ⟨rfl, rfl⟩
            rw [HNm.out]
            cases fine with
            | false =>
              have hce0 : ¬ ce = 0 := fun e => by have := HCk.out.1 e; cases this
              have hceB : (ce == 0) = false := by simpa using hce0
              go_wp2_with (fail)
              refine (known_walk w4).mono ?_
              rintro e w6 ⟨rfl, hb6⟩
              have HB6 := Lib.hid (HB4.out.trans (hb6.mono HB4.out.size))
              clear hb6
              go_wp2_with (fail)
              go_ret
              exact ⟨rfl, HB6.out⟩
            | true =>
              have hce0 := HCk.out.2 rfl
              subst hce0
              have hev := HEv.out rfl
              subst hev
              go_wp2_with (fail)
              have hlen' := bytes_len (⟨#[97, 100, 100, 32]⟩ ++ tB ++ ⟨#[32, 49]⟩)
              have hszU : ((⟨#[97, 100, 100, 32]⟩ : ByteArray) ++ tB ++ ⟨#[32, 49]⟩).size ≤ 4294967296 := by
                rw [ByteArray.size_append, ByteArray.size_append]
                show 4 + tB.size + 2 ≤ _
                omega
              clear hlen'
              refine (uses_any _ w4 hszU).mono ?_
              rintro e w6 ⟨⟨ua, uc, rfl, hu6⟩, hb6⟩
              rw [HUs.out (by simp)] at hu6 ⊢
              have HB6 := Lib.hid (HB4.out.trans (hb6.mono HB4.out.size))
              have hu6' : Strs w6 ua 1 [tB] := by
                have := hu6
                simp only [List.length_singleton, List.map_cons, List.map_nil, S_of] at this
                exact this
              have hY6 : Below w6.heap.size w6 (w6.alloc (.cells #[.string tB] 9)) := (Below.refl _ _).alloc (Nat.le_refl _) _
              have hSt6 : Strs (w6.alloc (.cells #[.string tB] 9)) (some ⟨w6.heap.size, 0, none⟩) 1 [tB] := by
                refine ⟨rfl, .inr ⟨w6.heap.size, 0, rfl, by simp, fun j hj => ?_⟩⟩
                obtain rfl : j = 0 := by simp at hj; omega
                have h0 := heap_alloc_new w6 (.cells #[.string tB] 9)
                rw [Lib.cell_of_heap h0]
                rfl
              have HU6 := Lib.hid (hu6'.below hY6)
              have HS6 := Lib.hid hSt6
              have HY6 := Lib.hid hY6
              clear hb6 hu6 hu6' hSt6 hszU
              go_wp2_with (fail)
              refine (keepTexts_any ua (some ⟨w6.heap.size, 0, none⟩) 1 uc 1 [tB] _ HU6.out HS6.out (by omega)).mono ?_
              rintro e w7 ⟨rfl, hb7⟩
              have HB7 := Lib.hid (HB6.out.trans ((HY6.out.trans (hb7.mono HY6.out.size)).mono HB6.out.size))
              clear hb7 hY6
              go_wp2_with (fail)
              refine (known_walk w7).mono ?_
              rintro e w8 ⟨rfl, hb8⟩
              have HB8 := Lib.hid (HB7.out.trans (hb8.mono HB7.out.size))
              clear hb8
              go_wp2_with (fail)
              go_ret
              exact ⟨rfl, HB8.out⟩
      · have hkB : decide ((k : Int) < (s.size : Int)) = false := by simp; omega
        have hX := heap_alloc_new w (.cells wlCells 9)
        have HX := Lib.hid hX
        have hbX : Below w.heap.size w (w.alloc (.cells wlCells 9)) := (Below.refl _ _).alloc (Nat.le_refl _) _
        have HBX := Lib.hid hbX
        clear hX hbX
        go_wp2_with (fail)
        go_loopw [43] (fun iv w2 => ∃ k2 : Nat, iv = .int .i64 k2 ∧ k2 ≤ 16 ∧ Hid (∀ j, j < k2 → tB.toList ≠ wlL.getD j []) ∧ Hid (w2.heap[w.heap.size]? = some (.cells wlCells 9 (0, 0))) ∧ Hid (Below w.heap.size w w2)) (fun iv _ => 16 - (intOf iv).toNat)
        case atStart => exact ⟨0, rfl, by omega, Lib.hid (fun j hj => absurd hj (Nat.not_lt_zero _)), HX, HBX⟩
        case round =>
          obtain ⟨k2, rfl, hk2, HNe, HX2, HB2⟩ := hrel
          by_cases hk16 : k2 < 16
          · have cw : wr.cell? ⟨w.heap.size, k2, none⟩ = some (.string (S (wlL.getD k2 []))) := by rw [Lib.cell_of_heap HX2.out]; exact wl_at hk16
            have hnf := wl_name k2 hk16
            have hsz := wl_size k2 hk16
            obtain ⟨x, hx⟩ : ∃ x, wlL.getD k2 [] = x := ⟨_, rfl⟩
            rw [hx] at cw hnf hsz
            have Hx := Lib.hid hx
            clear hx
            go_wp2_with (fail)
            refine (name_any (S x) wr (by rw [S_size]; omega)).mono ?_
            rintro e w3 ⟨rfl, rfl⟩
            rw [S_toList, hnf]
            clear hnf
            by_cases he : tB = S x
            · subst he
              go_wp2_with (fail)
              refine (known_walk wr).mono ?_
              rintro e w4 ⟨rfl, hb4⟩
              have HB4 := Lib.hid (HB2.out.trans (hb4.mono HB2.out.size))
              clear hb4
              go_wp2_with (fail)
              go_ret
              exact ⟨rfl, HB4.out⟩
            · have hne : tB.toList ≠ x := fun e => he (S_inj (by rw [S_toList]; exact e))
              have HNe2 := Lib.hid hne
              have heL : (tB.toList == x) = false := by simpa using hne
              clear hne he
              go_wp2_with (fail)
              go_roundw
              case rel =>
                refine ⟨k2 + 1, by simp, by omega, Lib.hid (fun j hj => ?_), HX2, HB2⟩
                by_cases e : j = k2
                · subst e; rw [Hx.out]; exact HNe2.out
                · exact HNe.out j (by omega)
              case measure => simp [intOf]; omega
          · obtain rfl : k2 = 16 := by omega
            obtain ⟨hres, hne0⟩ := wl_res HNe.out
            have HRes := Lib.hid hres
            have HNe0 := Lib.hid hne0
            have ht1 : 1 ≤ tB.size := by
              rw [← bytes_len]
              exact List.length_pos_iff.2 hne0
            have htB1 : decide ((1 : Int) ≤ (tB.size : Int)) = true := by simp; omega
            clear hres hne0 HX2
            obtain ⟨fine, hfine⟩ : ∃ q, decide ((tB.size : Int) ≤ 12) = q := ⟨_, rfl⟩
            have HFi := Lib.hid hfine
            have hnm : nameB tB.toList = fine := by
              rw [name_t HLow.out HRes.out, ← hfine, bytes_len]
              apply decide_eq_decide.2
              omega
            have HNm := Lib.hid hnm
            clear hnm
            have hfd : fine = true → tB.size ≤ 12 := fun h => by rw [← hfine] at h; have := of_decide_eq_true h; omega
            have hfn : fine = false → ¬ tB.size ≤ 12 := fun h => by rw [← hfine] at h; have := of_decide_eq_false h; omega
            have HFd := Lib.hid (And.intro hfd hfn)
            clear hfd hfn hfine htB1
            go_upto_region 16 with (fail)
            go_cut [9, 64] (fun v b wx => v = .bool fine ∧ b = .bool (decide ((5 : Int) < (n : Int))) ∧ wr = wx)
            case first =>
              cases fine with
              | true =>
                have h12 := HFd.out.1 rfl
                have h12B : decide ((tB.size : Int) ≤ 12) = true := decide_eq_true (by omega)
                go_wp2_with (fail)
                go_meet
                exact ⟨rfl, rfl, rfl⟩
              | false =>
                have h12 := HFd.out.2 rfl
                have h12B : decide ((tB.size : Int) ≤ 12) = false := decide_eq_false (by omega)
                go_wp2_with (fail)
                go_meet
                exact ⟨rfl, rfl, rfl⟩
            case rest =>
            obtain ⟨rfl, rfl, rfl⟩ := hcut
            go_upto_if 64 with (fail)
            go_cut [1] (fun v wx => v = .slice a l.length c ∧ wr = wx)
            case first =>
              by_cases h : 5 < n
              · have HL5 := Lib.hid (HN.out.2 h)
                have h5B : decide ((5 : Int) < (n : Int)) = true := decide_eq_true (by omega)
                have h5c : 5 ≤ c := by omega
                go_wp2_with (fail)
                go_meet
                exact ⟨by rw [HL5.out], rfl⟩
              · have HL5 := Lib.hid (HN.out.1 (by omega))
                have h5B : decide ((5 : Int) < (n : Int)) = false := decide_eq_false (by omega)
                go_wp2_with (fail)
                go_meet
                exact ⟨by rw [HL5.out], rfl⟩
            case rest =>
            obtain ⟨rfl, rfl⟩ := hcut
            have hSw := HS.out.below HB2.out
            have bE : Below wr.heap.size wr (wr.alloc (.cells #[] 9)) := (Below.refl _ _).alloc (Nat.le_refl _) _
            have o1 : (wr.alloc (.cells #[] 9)).ownsRow wr.heap.size 9 1 (.slice (some ⟨wr.heap.size, 0, none⟩) 0 0) 0 [] := ⟨rfl, .inr ⟨wr.heap.size, 0, #[], rfl, Nat.le_refl _, heap_alloc_new wr _, Nat.le_refl _, by unfold maxLen; omega, rfl, rfl⟩⟩
            have hs0 : wr.heap.size ≤ (wr.alloc (.cells #[] 9)).heap.size := bE.size
            have hsrc : (l.length = 0 ∧ a = none) ∨ ∃ ad, a = some ad ∧ ∀ j u, (l.map Value.string)[j]? = some u → (wr.alloc (.cells #[] 9)).cell? (ad.add j) = some u := strs_src (hSw.below bE)
            have HO1 := Lib.hid o1
            have HBE := Lib.hid bE
            have HSrc := Lib.hid hsrc
            clear hSw bE o1 hsrc
            go_wp2_with (at_builtin; refine wpList_append_any _ rfl _ _ 23 rfl 9 i0 _ 1 16 Tryd.underlying23 hi0 hz0 hz1 hz2 rfl (by omega) wr.heap.size (.slice (some ⟨wr.heap.size, 0, none⟩) 0 0) 0 [] rfl HO1.out a l.length c (l.map Value.string) rfl ?c1 ?c2 HSrc.out ?c3 ?c4 ?c5 ?_)
            case c1 => simp
            case c2 =>
              intro u hu
              obtain ⟨x, _, rfl⟩ := List.mem_map.1 hu
              rfl
            case c3 => unfold maxLen; omega
            case c4 => omega
            case c5 => exact hs0
            intro v1 w1 ho1 hg1
            have HB1 := Lib.hid (HBE.out.grown hg1 hs0 (fun g hg => (HO1.out.lt g hg).1))
            have hs1 := HB1.out.size
            have hown1 : w1.ownsRow wr.heap.size 9 1 v1 l.length (l.map Value.string) := by simpa using ho1
            have hAl : Below w1.heap.size w1 (w1.alloc (.cells #[.string tB] 9)) := (Below.refl _ _).alloc (Nat.le_refl _) _
            have HAl := Lib.hid hAl
            have HOwn1 := Lib.hid (hown1.alloc (.cells #[.string tB] 9))
            have hs2 : wr.heap.size ≤ (w1.alloc (.cells #[.string tB] 9)).heap.size := by simp; omega
            have HNew := Lib.hid (World.news_of_block (cs := #[.string tB]) (t := 9) (fr := (0, 0)) (heap_alloc_new w1 _))
            clear ho1 hg1 hown1 hAl
            go_wp2_with (at_builtin; refine wpList_append_any _ rfl _ _ 23 rfl 9 i0 _ 1 16 Tryd.underlying23 hi0 hz0 hz1 hz2 rfl (by omega) wr.heap.size v1 l.length (l.map Value.string) rfl HOwn1.out (some ⟨w1.heap.size, 0, none⟩) 1 1 [.string tB] rfl rfl ?c1 (.inr ⟨_, rfl, HNew.out⟩) ?c3 ?c4 ?c5 ?_)
            case c1 => simp [Value.oneCell']
            case c3 => unfold maxLen; omega
            case c4 => omega
            case c5 => first | exact hs2 | omega
            intro v2 w2 ho2 hg2
            have HB2' := Lib.hid ((HB1.out.trans (HAl.out.mono hs1)).grown hg2 hs2 (fun g hg => (HOwn1.out.lt g hg).1))
            have HBW := Lib.hid (HB2.out.trans (HB2'.out.mono HB2.out.size))
            obtain ⟨xa, xc, rfl, hst⟩ := strs_own (l := l ++ [tB]) (n := l.length + 1) (by simp) (by rw [List.map_append]; exact ho2) (by omega)
            have HSt := Lib.hid hst
            clear ho2 hg2 hst
            go_wp2_with (fail)
            refine (check_any tB xa (l.length + 1) xc (l ++ [tB]) w2 (by omega) HSt.out).mono ?_
            rintro e w3 ⟨rfl, hb3⟩
            have HB3 := Lib.hid (HBW.out.trans (hb3.mono HBW.out.size))
            have hck : ((checkP (l ++ [tB]) tB.toList).1 = 0 ↔ fine = true) := by
              rw [check_t HLow.out HRes.out HNe0.out (by rw [bytes_len]; omega) (has_last l tB), HNm.out]
            obtain ⟨ce, hce⟩ : ∃ ce, (checkP (l ++ [tB]) tB.toList).1 = ce := ⟨_, rfl⟩
            obtain ⟨cf, hcf⟩ : ∃ cf, (checkP (l ++ [tB]) tB.toList).2 = cf := ⟨_, rfl⟩
            rw [hce] at hck
            rw [hce, hcf]
            have HCk := Lib.hid hck
            clear hb3 hck hce hcf
            go_wp2_with (fail)
            have hY1 : Below w3.heap.size w3 ((w3.alloc (.cells #[.string tB] 9)).alloc (.cells #[.int .i64 41] 3)) := ((Below.refl _ _).alloc (Nat.le_refl _) _).alloc (by simp) _
            have hSt3 : Strs ((w3.alloc (.cells #[.string tB] 9)).alloc (.cells #[.int .i64 41] 3)) (some ⟨w3.heap.size, 0, none⟩) 1 [tB] := by
              refine ⟨rfl, .inr ⟨w3.heap.size, 0, rfl, by simp; omega, fun j hj => ?_⟩⟩
              obtain rfl : j = 0 := by simp at hj; omega
              have h0 := heap_alloc_new w3 (.cells #[.string tB] 9)
              have h1 := (((Below.refl (w3.alloc (.cells #[.string tB] 9)).heap.size _).alloc (Nat.le_refl _) (.cells #[.int .i64 41] 3)).block w3.heap.size (by simp)).trans h0
              rw [Lib.cell_of_heap h1]
              rfl
            have hIn3 : Ints ((w3.alloc (.cells #[.string tB] 9)).alloc (.cells #[.int .i64 41] 3)) (some ⟨w3.heap.size + 1, 0, none⟩) 1 [41] := by
              refine ⟨rfl, .inr ⟨w3.heap.size + 1, 0, rfl, by simp, fun j hj => ?_⟩⟩
              obtain rfl : j = 0 := by simp at hj; omega
              have h0 := heap_alloc_new (w3.alloc (.cells #[.string tB] 9)) (.cells #[.int .i64 41] 3)
              rw [World.size_alloc] at h0
              rw [Lib.cell_of_heap h0]
              rfl
            refine (eval_any _ (some ⟨w3.heap.size, 0, none⟩) 1 1 [tB] (some ⟨w3.heap.size + 1, 0, none⟩) 1 1 [41] _ (by omega) (by omega) hSt3 hIn3).mono ?_
            rintro e w4 ⟨rfl, hb4⟩
            have HB4 := Lib.hid (HB3.out.trans ((hY1.trans (hb4.mono hY1.size)).mono HB3.out.size))
            have htl : ((⟨#[97, 100, 100, 32]⟩ : ByteArray) ++ tB ++ ⟨#[32, 49]⟩).toList = addL ++ tB.toList ++ oneL := by
              rw [toList_app, toList_app]
              rw [ByteArray.toList_eq ⟨#[97, 100, 100, 32]⟩, ByteArray.toList_eq ⟨#[32, 49]⟩]
              rfl
            have hev : fine = true → evalP [tB] [41] ((⟨#[97, 100, 100, 32]⟩ : ByteArray) ++ tB ++ ⟨#[32, 49]⟩).toList = (42, 0) := fun h => by
              rw [htl]
              have := eval_t HLow.out HRes.out HNe0.out (by rw [HNm.out, h])
              rw [S_of] at this
              exact this
            have hus : fine = true → usesL ((⟨#[97, 100, 100, 32]⟩ : ByteArray) ++ tB ++ ⟨#[32, 49]⟩).toList = [tB.toList] := fun h => by
              rw [htl]
              exact uses_t HLow.out HNe0.out (by rw [HNm.out, h])
            obtain ⟨ev, hevv⟩ : ∃ ev, evalP [tB] [41] ((⟨#[97, 100, 100, 32]⟩ : ByteArray) ++ tB ++ ⟨#[32, 49]⟩).toList = ev := ⟨_, rfl⟩
            rw [hevv] at hev ⊢
            have HEv := Lib.hid hev
            have HUs := Lib.hid hus
            clear hY1 hSt3 hIn3 hb4 htl hev hus hevv
            go_wp2_with (fail)
            refine (name_any tB w4 (by omega)).mono ?_
            rintro e w5 ⟨rfl, rfl⟩
            rw [HNm.out]
            cases fine with
            | false =>
              have hce0 : ¬ ce = 0 := fun e => by have := HCk.out.1 e; cases this
              have hceB : (ce == 0) = false := by simpa using hce0
              go_wp2_with (fail)
              refine (known_walk w4).mono ?_
              rintro e w6 ⟨rfl, hb6⟩
              have HB6 := Lib.hid (HB4.out.trans (hb6.mono HB4.out.size))
              clear hb6
              go_wp2_with (fail)
              go_ret
              exact ⟨rfl, HB6.out⟩
            | true =>
              have hce0 := HCk.out.2 rfl
              subst hce0
              have hev := HEv.out rfl
              subst hev
              go_wp2_with (fail)
              have hlen' := bytes_len (⟨#[97, 100, 100, 32]⟩ ++ tB ++ ⟨#[32, 49]⟩)
              have hszU : ((⟨#[97, 100, 100, 32]⟩ : ByteArray) ++ tB ++ ⟨#[32, 49]⟩).size ≤ 4294967296 := by
                rw [ByteArray.size_append, ByteArray.size_append]
                show 4 + tB.size + 2 ≤ _
                omega
              clear hlen'
              refine (uses_any _ w4 hszU).mono ?_
              rintro e w6 ⟨⟨ua, uc, rfl, hu6⟩, hb6⟩
              rw [HUs.out (by simp)] at hu6 ⊢
              have HB6 := Lib.hid (HB4.out.trans (hb6.mono HB4.out.size))
              have hu6' : Strs w6 ua 1 [tB] := by
                have := hu6
                simp only [List.length_singleton, List.map_cons, List.map_nil, S_of] at this
                exact this
              have hY6 : Below w6.heap.size w6 (w6.alloc (.cells #[.string tB] 9)) := (Below.refl _ _).alloc (Nat.le_refl _) _
              have hSt6 : Strs (w6.alloc (.cells #[.string tB] 9)) (some ⟨w6.heap.size, 0, none⟩) 1 [tB] := by
                refine ⟨rfl, .inr ⟨w6.heap.size, 0, rfl, by simp, fun j hj => ?_⟩⟩
                obtain rfl : j = 0 := by simp at hj; omega
                have h0 := heap_alloc_new w6 (.cells #[.string tB] 9)
                rw [Lib.cell_of_heap h0]
                rfl
              have HU6 := Lib.hid (hu6'.below hY6)
              have HS6 := Lib.hid hSt6
              have HY6 := Lib.hid hY6
              clear hb6 hu6 hu6' hSt6 hszU
              go_wp2_with (fail)
              refine (keepTexts_any ua (some ⟨w6.heap.size, 0, none⟩) 1 uc 1 [tB] _ HU6.out HS6.out (by omega)).mono ?_
              rintro e w7 ⟨rfl, hb7⟩
              have HB7 := Lib.hid (HB6.out.trans ((HY6.out.trans (hb7.mono HY6.out.size)).mono HB6.out.size))
              clear hb7 hY6
              go_wp2_with (fail)
              refine (known_walk w7).mono ?_
              rintro e w8 ⟨rfl, hb8⟩
              have HB8 := Lib.hid (HB7.out.trans (hb8.mono HB7.out.size))
              clear hb8
              go_wp2_with (fail)
              go_ret
              exact ⟨rfl, HB8.out⟩

theorem guardNames_row (s : ByteArray) (a : Option Addr) (n c : Nat) (l : List ByteArray) (w : World) (hnc : n ≤ c) (hS : Strs w a n l) :
    Calls Tryd.prog 8 #[.string s, .slice a n c] w fun e w' => e = .returned (.bool true) ∧ Below w.heap.size w w' := by
  refine guardNames_cut s a n c (l.take 5) w (fun h => ?_) (fun h => ?_) hnc ?_
  · rw [List.length_take, ← hS.1]; omega
  · rw [List.length_take, ← hS.1]; omega
  · obtain ⟨hn, h⟩ := hS
    refine ⟨rfl, ?_⟩
    by_cases h0 : (l.take 5).length = 0
    · exact .inl h0
    refine .inr ?_
    rcases h with h | ⟨b, o, ha, hlt, hs⟩
    · rw [List.length_take] at h0; omega
    refine ⟨b, o, ha, hlt, fun j hj => ?_⟩
    rw [List.length_take] at hj
    rw [hs j (by omega)]
    simp only [List.getD, List.getElem?_take]
    rw [if_pos (by omega)]
#print axioms guardNames_row
end Go.Proofs.YtkmncmceheggjaaDoor
