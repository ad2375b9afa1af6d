/- ShellTexts: the law, for any events. -/
import Derived.Test.YtdedklofngjlkaaGreatDoorSd
import Derived.Test.YtdedklofngjlkaaGreatDoorSk
import Derived.Deep.RegionLaw
import Derived.Deep.CutBlock
import Derived.Deep.DeepCutAuto
set_option linter.unusedVariables false
set_option linter.unusedSimpArgs false
namespace Go.Proofs.YtdedklofngjlkaaGreatDoor
open Go.RowKit Go.Ev

def headT (x : EvT) : List UInt8 := (if x.kind = 1 then cCall else if x.kind = 2 then cDone else cBusy) ++ Lib.itoa x.who
def CutL (X : World) (l : List UInt8) (v : Value) (wx : World) : Prop := v = .string (S l) ∧ Below X.heap.size X wx
theorem EvtsAt.below {w w' : World} {v : Value} {l : List EvT} (h : EvtsAt w v l) (hb : Below w.heap.size w w') : EvtsAt w' v l := by
  obtain ⟨a, c, rfl, h⟩ := h
  refine ⟨a, c, rfl, h.imp id ?_⟩
  rintro ⟨b, o, rfl, hlt, hs⟩
  refine ⟨b, o, rfl, Nat.lt_of_lt_of_le hlt hb.size, fun j x hj => ?_⟩
  obtain ⟨d0, d1, ⟨po, no, co, d2⟩, d3, ⟨vt, d4, d7⟩, d5, d6, i⟩ := hs j x hj
  have t : ∀ k, w'.cell? ⟨b, k, none⟩ = w.cell? ⟨b, k, none⟩ := fun k => hb.cell (p := ⟨b, k, none⟩) hlt
  exact ⟨(t _).trans d0, (t _).trans d1, ⟨po, no, co, (t _).trans d2⟩, (t _).trans d3, ⟨vt, (t _).trans d4, StrsAt.below d7 hb⟩, (t _).trans d5, (t _).trans d6, i⟩

set_option maxHeartbeats 4000000 in
set_option maxRecDepth 100000 in
theorem shellTexts_cut (a : Option Addr) (n c : Nat) (l : List EvT) (w : World) (hn1 : n ≤ 30 → l.length = n) (hn2 : 30 < n → l.length = 30) (hnc : n ≤ c) (hE0 : EvtsAt w (.slice a l.length c) l) (htab : Lib.TabIs Tryz.prog w tabName .u64 Lib.pow10Tab) (hsz : (textT l).length ≤ 1099511627776) :
    Calls Tryz.prog 3 #[.slice a n c] w fun e w' => e = .returned (.bool true) ∧ Below w.heap.size w w' := by
  have h30 : l.length ≤ 30 := by
    by_cases h : n ≤ 30
    · rw [hn1 h]; exact h
    · rw [hn2 (by omega)]; exact Nat.le_refl _
  have hE1 := hE0
  obtain ⟨a', c', hv, hE⟩ := hE1
  cases hv
  have HE := Lib.hid hE; clear hE
  have HE0 := Lib.hid hE0; clear hE0
  have HTab := Lib.hid htab; clear htab
  have HN := Lib.hid (And.intro hn1 hn2); clear hn1 hn2
  have h30' : (l.length : Int) ≤ 30 := by omega
  go_enter Tryz.func3, Tryz.ntmps3
  go_upto_if 9 with (fail)
  go_cut [0] (fun v wx => v = .slice a l.length c ∧ w = wx)
  case first =>
    by_cases h : 30 < n
    · have HL := Lib.hid (HN.out.2 h)
      have h30c : 30 ≤ c := by omega
      go_wp2_with (fail)
      go_meet
      exact ⟨by rw [HL.out], rfl⟩
    · have HL := Lib.hid (HN.out.1 (by omega))
      go_wp2_with (fail)
      go_meet
      exact ⟨by rw [HL.out], rfl⟩
  case rest =>
  obtain ⟨rfl, rfl⟩ := hcut
  go_wp2_with (fail)
  go_loopw [3, 4] (fun s i wr => ∃ k : Nat, i = .int .i64 k ∧ k ≤ l.length ∧ s = .string (S (textT (l.take k))) ∧ Below w.heap.size w wr)
    (fun _ i _ => (l.length - (intOf i).toNat))
  case atStart => exact ⟨0, rfl, by omega, rfl, Below.refl _ _⟩
  case round =>
    obtain ⟨k, rfl, hk, rfl, hbw⟩ := hrel
    by_cases hlt : k < l.length
    · have hp : ∃ p, l[k]? = some p := ⟨_, List.getElem?_eq_getElem hlt⟩
      obtain ⟨x, hp⟩ := hp
      rcases HE.out with h0 | ⟨b, o, rfl, hb, hs⟩
      · omega
      obtain ⟨d0, d1, ⟨po, no, co, d2⟩, d3, ⟨vt, d4, pt, ct, rfl, d7⟩, d5, d6, i1, i2, i3⟩ := hs k x hp
      have c0 := (hbw.cell (p := ⟨b, o + k * 7, none⟩) hb).trans d0
      have c1 := (hbw.cell (p := ⟨b, o + k * 7 + 1, none⟩) hb).trans d1
      have c2 := (hbw.cell (p := ⟨b, o + k * 7 + 2, none⟩) hb).trans d2
      have c3 := (hbw.cell (p := ⟨b, o + k * 7 + 3, none⟩) hb).trans d3
      have c4 := (hbw.cell (p := ⟨b, o + k * 7 + 4, none⟩) hb).trans d4
      have c5 := (hbw.cell (p := ⟨b, o + k * 7 + 5, none⟩) hb).trans d5
      have c6 := (hbw.cell (p := ⟨b, o + k * 7 + 6, none⟩) hb).trans d6
      have hz1 := textT_le hp
      have H7 := Lib.hid d7
      have HI := Lib.hid (And.intro i1 (And.intro i2 i3))
      have HS := Lib.hid hs
      clear hs d0 d1 d2 d3 d4 d5 d6 d7 i1 i2 i3
      by_cases hk1 : x.kind < 1
      · have hfin : lineT x = [] := by unfold lineT; rw [if_neg (by omega), if_neg (by omega), if_neg (by omega)]
        go_wp2_with (fail)
        go_roundw
        case rel => exact ⟨k + 1, by simp, by omega, by rw [textT_at hp, hfin, List.append_nil], hbw.alloc hbw.size _⟩
        case measure => simp [intOf]; omega
      by_cases hk3 : 3 < x.kind
      · have hfin : lineT x = [] := by unfold lineT; rw [if_neg (by omega), if_neg (by omega), if_neg (by omega)]
        go_wp2_with (fail)
        go_roundw
        case rel => exact ⟨k + 1, by simp, by omega, by rw [textT_at hp, hfin, List.append_nil], hbw.alloc hbw.size _⟩
        case measure => simp [intOf]; omega
      · have hX1 : Below wr.heap.size wr (wr.alloc (.cells #[.int .i64 x.kind, .int .i64 x.who, .slice po no co, .int .i64 x.out, .slice pt x.texts.length ct, .int .i64 x.place, .int .i64 x.why] 29)) := (Below.refl _ _).alloc (Nat.le_refl _) _
        have hXs : wr.heap.size < (wr.alloc (.cells #[.int .i64 x.kind, .int .i64 x.who, .slice po no co, .int .i64 x.out, .slice pt x.texts.length ct, .int .i64 x.place, .int .i64 x.why] 29)).heap.size := by simp
        have hXb : (wr.alloc (.cells #[.int .i64 x.kind, .int .i64 x.who, .slice po no co, .int .i64 x.out, .slice pt x.texts.length ct, .int .i64 x.place, .int .i64 x.why] 29)).heap[wr.heap.size]? = some (.cells #[.int .i64 x.kind, .int .i64 x.who, .slice po no co, .int .i64 x.out, .slice pt x.texts.length ct, .int .i64 x.place, .int .i64 x.why] 29) := heap_alloc_new wr _
        go_wp2_with (fail)
        generalize wr.alloc (.cells #[.int .i64 x.kind, .int .i64 x.who, .slice po no co, .int .i64 x.out, .slice pt x.texts.length ct, .int .i64 x.place, .int .i64 x.why] 29) = X at *
        have hbX2 := below_step hbw hX1
        generalize wr.heap.size = bx at *
        have e0 : X.cell? ⟨bx, 0, none⟩ = some (.int .i64 x.kind) := by rw [Lib.cell_of_heap hXb]; rfl
        have e1 : X.cell? ⟨bx, 1, none⟩ = some (.int .i64 x.who) := by rw [Lib.cell_of_heap hXb]; rfl
        clear c0 c1 c2 c3 c4 c5 c6
        have hk0 : (0 : Int) ≤ x.kind - 1 := by omega
        have hk2 : x.kind - 1 < 3 := by omega
        have hln := itoa_len HI.out.1
        have hz2 : (S (textT (l.take k))).size ≤ 1099511627776 := by rw [S_size]; omega
        have hXw := Nat.le_refl X.heap.size
        go_cut [3] (fun v wx => CutL X (textT (l.take k) ++ headT x) v wx)
        case first =>
          rcases (show x.kind = 1 ∨ x.kind = 2 ∨ x.kind = 3 by omega) with hx | hx | hx
          all_goals
            have hq1 : ¬ 9223372036854775807 < (S (textT (l.take k))).size + 5 := by omega
            rw [hx] at e0
            have hw0 : IntKind.i64.wrap 0 = 0 := by decide
            have hw1 : IntKind.i64.wrap 1 = 1 := by decide
            have hw2 : IntKind.i64.wrap 2 = 2 := by decide
            go_region_law (first | (go_simp; go_at_call 4; refine (digits_any x.who HI.out.1 _).mono ?_; rintro e w' ⟨⟨s, rfl, hs⟩, rfl⟩; have hs2 : s.size ≤ 21 := (by rw [size_of hs]; exact hln); have hq2 : ¬ 9223372036854775807 < (S (textT (l.take k))).size + 5 + s.size := (by omega)))
            all_goals
              go_wp2_with (fail)
              go_meet
              refine ⟨?_, ?_⟩
              · congr 1
                apply ba_ext
                rw [S_data]
                simp [S, ByteArray.data_append, headT, hx, cCall, cDone, cBusy, hs]
              · first | exact ((Below.refl _ _).alloc (Nat.le_refl _) _) | exact ((Below.refl X.heap.size X).drew.alloc (Nat.le_refl _) _) | exact (((Below.refl X.heap.size X).alloc (Nat.le_refl _) _).drew)
        case rest =>
          obtain ⟨rfl, hbX⟩ := hcut
          have hYb := (hbX.block _ hXs).trans hXb
          have f0 : wc.cell? ⟨bx, 0, none⟩ = some (.int .i64 x.kind) := by rw [Lib.cell_of_heap hYb]; rfl
          have f3 : wc.cell? ⟨bx, 3, none⟩ = some (.int .i64 x.out) := by rw [Lib.cell_of_heap hYb]; rfl
          have f4 : wc.cell? ⟨bx, 4, none⟩ = some (.slice pt x.texts.length ct) := by rw [Lib.cell_of_heap hYb]; rfl
          have f5 : wc.cell? ⟨bx, 5, none⟩ = some (.int .i64 x.place) := by rw [Lib.cell_of_heap hYb]; rfl
          have f6 : wc.cell? ⟨bx, 6, none⟩ = some (.int .i64 x.why) := by rw [Lib.cell_of_heap hYb]; rfl
          clear e0 e1 hYb hXb
          have hbw2 : Below w.heap.size w wc := below_step hbX2 hbX
          by_cases hx2 : x.kind = 2
          · have hfin : lineT x = headT x ++ (replyT x ++ [10]) := by unfold lineT headT; rw [if_neg (by omega), if_pos hx2, if_neg (by omega), if_pos hx2]; simp
            have hszr : (textT (l.take k) ++ headT x).length + (replyT x).length + 1 ≤ 1099511627776 := by
              rw [List.length_append]
              rw [hfin, List.length_append, List.length_append] at hz1
              simp at hz1
              omega
            by_cases o1 : x.out = 1
            · have hrep : replyT x = cComm ++ textsT x.texts := by unfold replyT; rw [if_pos o1]
              have hnt : x.texts.length ≤ 1099511627776 := by
                have := textsT_le x.texts
                rw [hrep] at hszr
                simp only [List.length_append] at hszr
                omega
              have hsz4 : (S (textT (l.take k) ++ headT x)).size + 10 ≤ 1099511627776 := by
                rw [S_size]
                rw [hrep] at hszr
                simp only [List.length_append, cComm, List.length_cons, List.length_nil] at hszr ⊢
                omega
              go_wp2_with (fail)
              go_loopw [3, 6] (fun s i wr2 => ∃ j : Nat, i = .int .i64 j ∧ j ≤ x.texts.length ∧ s = .string (S (textT (l.take k) ++ headT x ++ (cComm ++ textsT (x.texts.take j)))) ∧ wr2 = wc)
                (fun _ i _ => (x.texts.length - (intOf i).toNat))
              case atStart =>
                exact ⟨0, rfl, by omega, congrArg Value.string (ba_ext (by rw [S_data]; simp [S, ByteArray.data_append, cComm, textsT])), rfl⟩
              case round =>
                obtain ⟨j, rfl, hj, rfl, rfl⟩ := hrel
                by_cases hjl : j < x.texts.length
                · have hq : ∃ q, x.texts[j]? = some q := ⟨_, List.getElem?_eq_getElem hjl⟩
                  obtain ⟨q, hq⟩ := hq
                  rcases H7.out with h0 | ⟨tb, tq, rfl, htb, hts⟩
                  · omega
                  have hc := (hbw2.cell (p := ⟨tb, tq + j, none⟩) htb).trans (hts j q hq)
                  have hz5 := textsT_at hq
                  have hsz5 : (S (textT (l.take k) ++ headT x ++ (cComm ++ textsT (x.texts.take j)))).size + 2 + q.size + 1 ≤ 1099511627776 := by
                    rw [S_size]
                    rw [hrep] at hszr
                    simp only [List.length_append] at hszr ⊢
                    omega
                  obtain ⟨G, hG⟩ : ∃ G, S (textT (l.take k) ++ headT x ++ (cComm ++ textsT (x.texts.take j))) = G := ⟨_, rfl⟩
                  rw [hG] at hsz5 ⊢
                  have HG := Lib.hid hG; clear hG
                  go_wp2_with (fail)
                  go_roundw
                  case rel =>
                    refine ⟨j + 1, by simp, by omega, ?_, trivial⟩
                    rw [← HG.out]
                    congr 1
                    apply ba_ext
                    rw [S_data, List.take_add_one, hq]
                    simp [textsT, S, List.flatMap_append, ByteArray.data_append]
                  case measure => simp [intOf]; omega
                · have hjj : j = x.texts.length := by omega
                  subst hjj
                  have hsz6 : (S (textT (l.take k) ++ headT x ++ (cComm ++ textsT (x.texts.take x.texts.length)))).size + 1 ≤ 1099511627776 := by
                    rw [S_size, List.take_length]
                    rw [hrep] at hszr
                    simp only [List.length_append] at hszr ⊢
                    omega
                  obtain ⟨G, hG⟩ : ∃ G, S (textT (l.take k) ++ headT x ++ (cComm ++ textsT (x.texts.take x.texts.length))) = G := ⟨_, rfl⟩
                  rw [hG] at hsz6 ⊢
                  have HG := Lib.hid hG; clear hG
                  go_wp2_with (fail)
                  go_roundw
                  case rel =>
                    refine ⟨k + 1, by simp, by omega, ?_, hbw2⟩
                    rw [← HG.out]
                    congr 1
                    apply ba_ext
                    rw [S_data, textT_at hp, hfin, hrep, List.take_length]
                    simp [S, ByteArray.data_append]
                  case measure => simp [intOf]; omega
            have hsz7 : (S (textT (l.take k) ++ headT x)).size + (replyT x).length + 1 ≤ 1099511627776 := by rw [S_size]; exact hszr
            by_cases o2 : x.out = 2
            · have hrep : replyT x = cAbort := by unfold replyT; rw [if_neg o1, if_pos o2]
              have hsz8 : (S (textT (l.take k) ++ headT x)).size + 8 + 1 ≤ 1099511627776 := by rw [hrep] at hsz7; simpa [cAbort] using hsz7
              go_wp2_with (fail)
              go_roundw
              case rel =>
                refine ⟨k + 1, by simp, by omega, ?_, hbw2⟩
                congr 1
                apply ba_ext
                rw [S_data, textT_at hp, hfin, hrep]
                simp [S, ByteArray.data_append, cAbort]
              case measure => simp [intOf]; omega
            by_cases o3 : x.out = 3
            · have hrep : replyT x = cRej ++ (Lib.itoa x.place ++ (32 :: Lib.itoa x.why)) := by unfold replyT; rw [if_neg o1, if_neg o2, if_pos o3]
              have hp1 := itoa_len HI.out.2.1
              have hp2 := itoa_len HI.out.2.2
              have hsz8 : (S (textT (l.take k) ++ headT x)).size ≤ 1099511627776 := by omega
              obtain ⟨G, hG⟩ : ∃ G, S (textT (l.take k) ++ headT x) = G := ⟨_, rfl⟩
              rw [hG] at hsz8 ⊢
              have HG := Lib.hid hG; clear hG
              have hq1 : ¬ 9223372036854775807 < G.size + 10 := by omega
              go_wp2_with (fail)
              go_region_law (first
                | (go_simp; go_at_call_of 4 x.place; refine (digits_any x.place HI.out.2.1 _).mono ?_; rintro e w' ⟨⟨s1, rfl, hs1⟩, rfl⟩; have hl1 : s1.size ≤ 21 := (by rw [size_of hs1]; exact hp1); have hq2 : ¬ 9223372036854775807 < G.size + 10 + s1.size := (by omega); have hq3 : ¬ 9223372036854775807 < G.size + 10 + s1.size + 1 := (by omega))
                | (go_simp; go_at_call_of 4 x.why; refine (digits_any x.why HI.out.2.2 _).mono ?_; rintro e w' ⟨⟨s2, rfl, hs2⟩, rfl⟩; have hl2 : s2.size ≤ 21 := (by rw [size_of hs2]; exact hp2); have hq4 : ¬ 9223372036854775807 < G.size + 10 + s1.size + 1 + s2.size := (by omega); have hq5 : ¬ 9223372036854775807 < G.size + 10 + s1.size + 1 + s2.size + 1 := (by omega)))
              all_goals
                go_wp2_with (fail)
                go_roundw
                case rel =>
                  refine ⟨k + 1, by simp, by omega, ?_, hbw2.drew⟩
                  rw [← HG.out]
                  congr 1
                  apply ba_ext
                  rw [S_data, textT_at hp, hfin, hrep]
                  simp [S, ByteArray.data_append, cRej, hs1, hs2]
                case measure => simp [intOf]; omega
            · have hrep : replyT x = [] := by unfold replyT; rw [if_neg o1, if_neg o2, if_neg o3]
              have hsz8 : (S (textT (l.take k) ++ headT x)).size + 1 ≤ 1099511627776 := by omega
              go_wp2_with (fail)
              go_roundw
              case rel =>
                refine ⟨k + 1, by simp, by omega, ?_, hbw2⟩
                congr 1
                apply ba_ext
                rw [S_data, textT_at hp, hfin, hrep]
                simp [S, ByteArray.data_append]
              case measure => simp [intOf]; omega
          · have hfin : lineT x = headT x ++ [10] := by
              unfold lineT headT
              rcases (show x.kind = 1 ∨ x.kind = 3 by omega) with hx | hx
              · rw [if_pos hx, if_pos hx]; simp
              · rw [if_neg (by omega), if_neg (by omega), if_pos hx, if_neg (by omega), if_neg (by omega)]; simp
            have hsz3 : (S (textT (l.take k) ++ headT x)).size + 1 ≤ 1099511627776 := by
              rw [S_size, List.length_append]
              rw [hfin, List.length_append] at hz1
              simp at hz1
              omega
            go_wp2_with (fail)
            go_roundw
            case rel =>
              refine ⟨k + 1, by simp, by omega, ?_, hbw2⟩
              congr 1
              apply ba_ext
              rw [S_data, textT_at hp, hfin]
              simp [S, ByteArray.data_append]
            case measure => simp [intOf]; omega
    · have hkl : k = l.length := by omega
      subst hkl
      rw [List.take_length]
      have hE1 := EvtsAt.below HE0.out hbw
      go_wp2_with (fail)
      refine (text_any _ l wr hE1 (tab_below HTab.out hbw) hsz (by omega)).mono ?_
      rintro e Y ⟨rfl, hbY⟩
      have hwY := below_step hbw (hbY.mono (Nat.le_refl _))
      go_wp2_with (fail)
      refine (known_tab Y (tab_below HTab.out hwY)).mono ?_
      rintro e Z ⟨rfl, hbZ⟩
      have hwZ := below_step hwY hbZ
      go_wp2_with (fail)
      go_ret
      exact ⟨rfl, hwZ⟩

theorem shellTexts_row (a : Option Addr) (n c : Nat) (l : List EvT) (W : World) (hnc : n ≤ c) (hln : l.length = n) (hat : n = 0 ∨ ∃ b o, a = some ⟨b, o, none⟩ ∧ b < W.heap.size ∧ ∀ j z, l[j]? = some z → EvtAt W b (o + j * 7) z)
    (htab : Lib.TabIs Tryz.prog W tabName .u64 Lib.pow10Tab) (hb : (∀ x ∈ l, in64 x.who ∧ in64 x.place ∧ in64 x.why) → (textT l).length ≤ 1099511627776) :
    Calls Tryz.prog 3 #[.slice a n c] W fun e w' => e = .returned (.bool true) ∧ Below W.heap.size W w' := by
  have hi : ∀ x ∈ l, in64 x.who ∧ in64 x.place ∧ in64 x.why := fun x hx => by
    obtain ⟨j, hj⟩ := List.getElem?_of_mem hx
    rcases hat with h0 | ⟨b, o, _, _, hs⟩
    · have := (List.getElem?_eq_some_iff.1 hj).1
      omega
    · obtain ⟨_, _, _, _, _, _, _, i1, i2, i3⟩ := hs j x hj
      exact ⟨i1, i2, i3⟩
  have hz := hb hi
  have ht : (textT (l.take 30)).length ≤ (textT l).length := by
    have : textT l = textT (l.take 30) ++ textT (l.drop 30) := by
      unfold textT
      rw [← List.flatMap_append, List.take_append_drop]
    rw [this, List.length_append]
    omega
  refine shellTexts_cut a n c (l.take 30) W (fun h => by rw [List.length_take]; omega) (fun h => by rw [List.length_take]; omega) hnc ⟨a, c, rfl, ?_⟩ htab (by omega)
  rcases hat with h0 | ⟨b, o, rfl, hlt, hs⟩
  · exact .inl (by rw [List.length_take]; omega)
  · refine .inr ⟨b, o, rfl, hlt, fun j x hj => hs j x ?_⟩
    rw [List.getElem?_take] at hj
    split at hj
    · exact hj
    · cases hj
end Go.Proofs.YtdedklofngjlkaaGreatDoor
