/- append in the abstract machine. -/
import Derived.Test.YtcpmgjnlnaigbaaGreatDoorEvM
set_option linter.unusedVariables false
set_option linter.unusedSimpArgs false
namespace Go.Ev
open Go

variable {P : Program} {E : Ren} {ρ : Env} {f : Operand → Value} {v : AV} {A A' : AH} {w : World}

theorem newA_ok (hM : MR E A w) {zb : Bool} {i : TypeInfo} {z : AV} {z' x' : Value} {x : AV} {n : Nat} {new : List AV} (h : newA zb A i.size (cellsA z) x = some (n, new)) (hz : VRL E (cellsA z) z'.cells.toList) (hzl : (cellsA z).length = i.size) (h0 : i.size ≠ 0) (hx : VR E x x') :
    ∃ new' : List Value, VRL E new new' ∧ new.length = n * i.size ∧ AppIn P zb i z' x' n new' w := by
  cases zb with
  | true =>
    have h' : (ob (natArg x) fun n => og (Nat.ble n 16777216) (some (n, repeatL (cellsA z) n))) = some (n, new) := h
    simp only [ob_some, og_some] at h'
    obtain ⟨m, hm, hle, h'⟩ := h'
    cases h'
    obtain ⟨k, rfl⟩ := natArg_some hm
    simp only [VR] at hx
    subst hx
    have hmade := made_ok hz (by omega) n
    have hzs : z'.cells.size = (cellsA z).length := by have := hz.length; simpa using this
    exact ⟨_, by rw [← hzs] at hmade; exact hmade, by rw [repeatL_len, hzl], .inl ⟨rfl, ⟨k, rfl⟩, Nat.le_of_ble_eq_true hle, rfl⟩⟩
  | false =>
    have h' : (ob (srcLen x) fun n => ob (srcCells A i.size x n) fun new => og (Nat.beq (lenN new) (n * i.size)) (some (n, new))) = some (n, new) := h
    simp only [ob_some, og_some] at h'
    obtain ⟨m, hm, l, hl, hb, h'⟩ := h'
    cases h'
    rw [Nat.beq_eq, lenN_eq] at hb
    obtain ⟨l', h1, h2⟩ := srcCells_ok (P := P) hM hl hx (fun e => by subst e; have h3 : some 0 = some n := hm; cases h3; rfl)
    exact ⟨l', h1, hb, .inr ⟨rfl, srcLen_ok hm hx, h2⟩⟩

theorem appNew_ok (hM : MR E A w) {size len κ : Nat} {l : List AV} {olds new : List Value} {z' : Value} {el : TypeId} (h : appNew A size len l = some (v, A')) (hn : E A.next = none) (hl : VRL E l (olds ++ new)) (hlen : l.length = len * size) (hzs : z'.cells.size = size) (hκ : len ≤ κ) (hs0 : size ≠ 0) :
    VR (E.put A.next w.heap.size κ) v (.slice (some ⟨w.heap.size, 0, none⟩) len κ) ∧ Stp E A w (E.put A.next w.heap.size κ) A' (w.drew.alloc (.cells (olds.toArray ++ new.toArray ++ Builtin.zeroCells z'.cells (κ - len)) el)) := by
  simp only [appNew, og_some] at h
  obtain ⟨htop, h⟩ := h
  cases h
  refine ⟨by simp only [VR]; exact ⟨_, κ, Ren.put_self _ _ _ _, Nat.le_refl _, by omega, rfl⟩, Stp.push hM hn htop ⟨_, _, _, rfl, fun i u hu => ?_, fun _ i _ h => by omega, fun sz top hg => ?_⟩ rfl rfl rfl rfl⟩
  · rw [mkCells_get l] at hu
    have hu2 := VRL.mono (Ren.le_put hn w.heap.size κ) _ _ hl
    obtain ⟨u', h1, h2⟩ := hu2.get hu
    have hi := (List.getElem?_eq_some_iff.1 h1).1
    refine ⟨u', ?_, h2⟩
    rw [Array.getElem?_append_left (by simpa using hi)]
    simpa using h1
  · cases hg
    have hlo := hl.length
    refine ⟨?_, fun i u hu => ?_⟩
    · rw [Array.size_append, size_zeroCells, hzs]
      have : (olds.toArray ++ new.toArray).size = len * size := by simpa [hlen] using hlo
      rw [this, ← Nat.add_mul]
      refine ⟨?_, fun h => absurd h hs0⟩
      apply Nat.mul_le_mul_right
      omega
    · rw [mkCells_get l] at hu
      have := (List.getElem?_eq_some_iff.1 hu).1
      omega

theorem rd_of_has {cs : Cs} {o k : Nat} (h : hasCells cs o k = true) : ∃ l, rdCells cs o k = some l := by
  have h1 := hasCells_spec k cs o h
  refine ⟨(List.range k).map fun i => (cs.get (o + i)).getD .eslice, (rdCells_spec k cs o _).2 ⟨by simp, fun i hi => ?_⟩⟩
  obtain ⟨u, hu⟩ := Option.isSome_iff_exists.1 (h1 i hi)
  simp [hi, hu]

theorem growCs_spec {cs cs' : Cs} {k : Nat} {new : List AV} (h : growCs cs k new = some cs') {i : Nat} {u : AV} (hu : cs'.get i = some u) :
    (i < k ∧ cs.get i = some u) ∨ (k ≤ i ∧ i < k + new.length ∧ new[i - k]? = some u) ∨ (k + new.length ≤ i ∧ cs.get i = some u) := by
  unfold growCs at h
  rw [lenN_eq] at h
  cases hb : Nat.ble (k + new.length) cs.room with
  | true =>
    rw [hb, bc_true] at h
    cases h
    rw [wrCells_get new cs k i (Nat.le_of_ble_eq_true hb)] at hu
    split at hu
    · rename_i hc; exact .inr (.inl ⟨hc.1, hc.2, hu⟩)
    · rename_i hc
      rcases Nat.lt_or_ge i k with h1 | h1
      · exact .inl ⟨h1, hu⟩
      · exact .inr (.inr ⟨by omega, hu⟩)
  | false =>
    rw [hb, bc_false] at h
    simp only [om_some] at h
    obtain ⟨old, hold, h⟩ := h
    cases h
    obtain ⟨h1, h2⟩ := (rdCells_spec k cs 0 old).1 hold
    rw [mkCells_get _] at hu
    rcases Nat.lt_or_ge i k with h3 | h3
    · rw [List.getElem?_append_left (by omega)] at hu
      have := h2 i h3
      rw [Nat.zero_add] at this
      exact .inl ⟨h3, by rw [← hu, ← this]⟩
    · rw [List.getElem?_append_right (by omega), h1] at hu
      have := (List.getElem?_eq_some_iff.1 hu).1
      exact .inr (.inl ⟨h3, by omega, hu⟩)

/-- what an append comes to -/
def AppRes (P : Program) (E : Ren) (A : AH) (w : World) (at' : Array TypeId) (ty : TypeId) (args : Array Value) (v : AV) (A' : AH) : Prop :=
  ∃ E' v' w', (Builtin.append_ at' ty args).run P w = .ok v' w' ∧ VR E' v v' ∧ Stp E A w E' A' w'

theorem kAppend_ok (hM : MR E A w) {at' : Array TypeId} {xs : List Operand} {args : Array Value} {ty t xT : TypeId} {d : TypeDesc} {call : CallFn} (h : kAppend (some t) (isIntD d) xs P call ρ A = some (v, A')) (ha0 : at'[0]? = some t) (ha1 : at'[1]? = some xT) (hxT : P.underlying xT = some d)
    (hargs : ∀ (j : Nat) (x : Operand) (u : AV), xs[j]? = some x → ρ x = some u → ∃ u', args[j]? = some u' ∧ VR E u u') (hF : Fresh E A A') : AppRes P E A w at' ty args v A' := by
  simp only [kAppend, ob_some] at h
  obtain ⟨s, hs, x, hx, sv, hsv, xv, hxv, t', ht', e, he, nn, hnn, h⟩ := h
  cases ht'
  rw [og_some, Nat.ble_eq] at h
  obtain ⟨hnb, h⟩ := h
  rw [getN_eq] at hs hx
  obtain ⟨s', hs1, hs2⟩ := hargs 0 s sv hs hsv
  obtain ⟨x', hx1, hx2⟩ := hargs 1 x xv hx hxv
  obtain ⟨el, z, i, ht, hi, hsz, hbt, hz, hzc, hzl, h0, hb0⟩ := elemInfo_some he
  have hs0 : i.size ≠ 0 := by rw [hsz]; exact h0
  obtain ⟨z', hz1, hz2⟩ := zeroA_ok (E := E) hz
  have hcz := VRL.cells hz1
  rw [hzc] at hcz
  have hzs : z'.cells.size = i.size := by have := hcz.length; rw [hzl] at this; rw [hsz]; simpa using this
  obtain ⟨n, new⟩ := nn
  rw [← hsz, ← hzc] at hnn
  obtain ⟨new', hnew, hnl, hin⟩ := newA_ok (P := P) hM hnn (by rw [hzc]; exact hcz) (by rw [hzc, hzl, hsz]) (by omega) hx2
  simp only at hnb h
  rw [← hsz] at h h0
  rw [← hbt] at hnb hb0 h
  have nofresh : A.next < A'.next → E A.next = none := fun hlt => hF _ (Nat.le_refl _) hlt
  cases sv with
  | slice p len cap =>
    have h' : og (Nat.ble (len * i.bytes) 16777216 && Nat.ble (cap * i.bytes) 16777216) (appSl A i.size n new p len cap) = some (v, A') := h
    rw [og_some, Bool.and_eq_true, Nat.ble_eq, Nat.ble_eq] at h'
    obtain ⟨⟨hlb, hcb⟩, h'⟩ := h'
    cases p with
    | none =>
      have h2 : og (bc (Nat.beq len 0) (Nat.beq cap 0) false) (bc (Nat.beq n 0) (some (.slice none 0 0, A)) (appNew A i.size n new)) = some (v, A') := h'
      rw [og_some, bc_and, Nat.beq_eq, Nat.beq_eq] at h2
      obtain ⟨⟨rfl, rfl⟩, h2⟩ := h2
      simp only [VR] at hs2
      subst hs2
      cases hn0 : Nat.beq n 0 with
      | true =>
        rw [hn0, bc_true] at h2
        cases h2
        rw [Nat.beq_eq] at hn0
        subst hn0
        refine ⟨E, .slice none 0 0, w, ?_, by simp [VR], Stp.refl hM⟩
        rw [app_room ha0 ha1 hs1 hx1 hxT ht hi hz2 hzs hin hnb (Nat.le_refl _)]
        rfl
      | false =>
        rw [hn0, bc_false] at h2
        have hn1 : n ≠ 0 := by intro e; subst e; simp at hn0
        have hnx : A'.next = A.next + 1 := by
          simp only [appNew, og_some] at h2
          obtain ⟨_, h2⟩ := h2
          cases h2; rfl
        have hg := app_grow (P := P) (w := w) (ty := ty) ha0 ha1 hs1 hx1 hxT ht hi hz2 hzs hin hnb hlb hb0 (by omega) (olds := []) (fun w' _ => by simp [Builtin.firstCells])
        rw [Nat.zero_add] at hg
        obtain ⟨h3, h4⟩ := appNew_ok (κ := grownCap w n 0 el) (el := el) hM h2 (nofresh (by omega)) (olds := []) (by simpa using hnew) hnl hzs (grownCap_ge w n 0 el) hs0
        exact ⟨_, _, _, hg, h3, h4⟩
    | some q =>
      have h2 : bc (Nat.ble (len + n) cap) (om (storeA A q.1 (q.2 + len * i.size) new) fun h' => (.slice (some q) (len + n) cap, h'))
        (ob (srcCells A i.size (.slice (some q) len cap) len) fun old => appNew A i.size (len + n) (old ++ new)) = some (v, A') := h'
      have hs3 := hs2
      simp only [VR] at hs2
      obtain ⟨b, κ, heq, rfl⟩ := hs2
      cases hn0 : Nat.ble (len + n) cap with
      | true =>
        rw [hn0, bc_true, om_some] at h2
        obtain ⟨h1, hst, h2⟩ := h2
        cases h2
        obtain ⟨w', hr, hs'⟩ := store_ok (P := P) hM hst heq hnew
        refine ⟨E, .slice (some ⟨b, q.2, none⟩) (len + n) cap, w', ?_, by simp only [VR]; exact ⟨b, κ, heq, rfl⟩, hs'⟩
        rw [app_room ha0 ha1 hs1 hx1 hxT ht hi hz2 hzs hin hnb (Nat.le_of_ble_eq_true hn0)]
        show ((storeCells ((⟨b, q.2, none⟩ : Addr).add (len * i.size)) new').run P w).andThen _ = _
        rw [add_addr, hr]
        rfl
      | false =>
        rw [hn0, bc_false, ob_some] at h2
        obtain ⟨old, hold, h2⟩ := h2
        have hn1 : cap < len + n := by
          rcases Nat.lt_or_ge cap (len + n) with h | h
          · exact h
          · have := Nat.ble_eq_true_of_le h; rw [hn0] at this; cases this
        have hnx : A'.next = A.next + 1 := by
          simp only [appNew, og_some] at h2
          obtain ⟨_, h2⟩ := h2
          cases h2; rfl
        obtain ⟨olds, ho1, ho2⟩ := srcCells_ok (P := P) hM hold hs3 (fun e => by cases e)
        have hol : old.length = len * i.size := by
          obtain ⟨cs, g, r, hg, hrd⟩ := rdAt_cells (show (ob (A.get q.1) fun ob1 => onCells ob1 fun cs _ _ => rdCells cs q.2 (len * i.size)) = some old from hold)
          exact ((rdCells_spec _ cs _ old).1 hrd).1
        have hg := app_grow (P := P) (w := w) (ty := ty) ha0 ha1 hs1 hx1 hxT ht hi hz2 hzs hin hnb hlb hb0 hn1 ho2
        obtain ⟨h3, h4⟩ := appNew_ok (κ := grownCap w (len + n) cap el) (el := el) hM h2 (nofresh (by omega)) (VRL.app ho1 hnew) (by rw [List.length_append, hol, hnl, Nat.add_mul]) hzs (grownCap_ge w (len + n) cap el) hs0
        exact ⟨_, _, _, hg, h3, h4⟩
  | gslice m o len eo mc =>
    have h' : og (Nat.ble (len * i.bytes) 16777216) (appG A i.size n new m o len eo mc) = some (v, A') := h
    rw [og_some, Nat.ble_eq] at h'
    obtain ⟨hlb, h'⟩ := h'
    have h2 : bc (Nat.ble (len + n) mc) (om (storeA A m (o + len * i.size) new) fun h' => (.gslice m o (len + n) eo mc, h'))
      (ob (A.get m) fun ob1 => onCells ob1 fun cs g ro => ob g fun sz =>
      og (!ro && allOne new && A.has && Nat.beq sz.1 i.size && Nat.beq o 0 && Nat.beq eo 0 && Nat.ble (len * i.size) sz.2 && Nat.ble sz.2 ((len + n) * i.size) && hasCells cs 0 (len * i.size))
        (ob (growCs cs (len * i.size) new) fun cs' => some (.gslice A.next 0 (len + n) 0 (len + n), (A.set m .dead).push (.cells cs' (some (i.size, (len + n) * i.size)) false)))) = some (v, A') := h'
    have hs3 := hs2
    simp only [VR] at hs2
    obtain ⟨b, κ, heq, hlm, hmk, rfl⟩ := hs2
    cases hn0 : Nat.ble (len + n) mc with
    | true =>
      rw [hn0, bc_true, om_some] at h2
      obtain ⟨h1, hst, h2⟩ := h2
      cases h2
      have hle := Nat.le_of_ble_eq_true hn0
      obtain ⟨w', hr, hs'⟩ := store_ok (P := P) hM hst heq hnew
      refine ⟨E, .slice (some ⟨b, o, none⟩) (len + n) (κ - eo), w', ?_, by simp only [VR]; exact ⟨b, κ, heq, hle, hmk, rfl⟩, hs'⟩
      rw [app_room ha0 ha1 hs1 hx1 hxT ht hi hz2 hzs hin hnb (by omega)]
      show ((storeCells ((⟨b, o, none⟩ : Addr).add (len * i.size)) new').run P w).andThen _ = _
      rw [add_addr, hr]
      rfl
    | false =>
      rw [hn0, bc_false] at h2
      simp only [ob_some, onCells_some, og_some, Bool.and_eq_true, Nat.ble_eq, Nat.beq_eq, Bool.not_eq_true'] at h2
      obtain ⟨_, hg, cs, g, ro, rfl, sz, rfl, ⟨⟨⟨⟨⟨⟨⟨⟨rfl, hone⟩, hnext⟩, hsz1⟩, rfl⟩, rfl⟩, hk1⟩, hk2⟩, hhas⟩, cs', hcs', h2⟩ := h2
      cases h2
      have hEn := nofresh (show A.next < A.next + 1 by omega)
      obtain ⟨arr, e', fr, hb, hc1, hc2, hc3⟩ := hM.cells hg heq
      obtain ⟨htop1, htop2⟩ := hc3 sz.1 sz.2 rfl
      rw [hsz1] at htop1
      have hn1 : mc < len + n := by
        rcases Nat.lt_or_ge mc (len + n) with h | h
        · exact h
        · have := Nat.ble_eq_true_of_le h; rw [hn0] at this; cases this
      rw [Nat.sub_zero] at hs1 hs3
      have hspec := fun {i' : Nat} {u : AV} (hu : cs'.get i' = some u) => growCs_spec hcs' hu
      have hnlen : new'.length = n * i.size := by rw [hnew.length, hnl]
      rcases Nat.lt_or_ge κ (len + n) with hgr | hpl
      · -- the block is left
        obtain ⟨old, hrd⟩ := rd_of_has hhas
        obtain ⟨ho1, ho2⟩ := (rdCells_spec _ cs 0 old).1 hrd
        obtain ⟨olds, ho3, ho4, ho5⟩ := rd_cells (P := P) hM hg heq hrd
        have hg2 := app_grow (P := P) (w := w) (ty := ty) ha0 ha1 hs1 hx1 hxT ht hi hz2 hzs hin hnb hlb hb0 hgr (olds := olds) (fun w' hw => by simp only [Builtin.firstCells]; exact ho5 w' hw)
        have hκ := grownCap_ge w (len + n) κ el
        have s1 := Stp.kill hM hg rfl
        have hle := Ren.le_put hEn w.heap.size (grownCap w (len + n) κ el)
        refine ⟨E.put A.next w.heap.size (grownCap w (len + n) κ el), _, _, hg2, by simp only [VR]; exact ⟨_, _, Ren.put_self _ _ _ _, Nat.le_refl _, by omega, by simp⟩, s1.trans (Stp.push (A := A.set m .dead) s1.mr hEn (by rw [AH.has_set]; exact hnext) ⟨_, _, _, rfl, fun j u hu => ?_, fun _ j _ h => by omega, fun sz' top hg' => ?_⟩ rfl rfl rfl rfl) hF⟩
        · rcases hspec hu with ⟨h3, h4⟩ | ⟨h3, h4, h5⟩ | ⟨h3, h4⟩
          · have h6 := ho2 j h3
            rw [Nat.zero_add, h4] at h6
            obtain ⟨u', h7, h8⟩ := ho3.get h6.symm
            refine ⟨u', ?_, VR.mono hle _ _ h8⟩
            rw [Array.getElem?_append_left (by simp; omega), Array.getElem?_append_left (by simp; omega)]
            simpa using h7
          · obtain ⟨u', h7, h8⟩ := hnew.get h5
            refine ⟨u', ?_, VR.mono hle _ _ h8⟩
            rw [Array.getElem?_append_left (by simp; omega), Array.getElem?_append_right (by simp; omega)]
            simpa [ho4] using h7
          · have := htop2 _ _ h4
            rw [hnl, ← Nat.add_mul] at h3
            omega
        · cases hg'
          refine ⟨?_, fun j u hu => ?_⟩
          · rw [Array.size_append, size_zeroCells, hzs, Array.size_append]
            simp only [List.size_toArray, ho4, hnlen, ← Nat.add_mul]
            refine ⟨?_, fun h => absurd h hs0⟩
            apply Nat.mul_le_mul_right
            omega
          · rcases hspec hu with ⟨h3, h4⟩ | ⟨h3, h4, h5⟩ | ⟨h3, h4⟩
            · rw [Nat.add_mul]; omega
            · rw [Nat.add_mul]; omega
            · have := htop2 _ _ h4
              omega
      · -- in place
        have hfit : (len + n) * i.size ≤ arr.size := Nat.le_trans (Nat.mul_le_mul_right _ hpl) htop1.1
        rw [Nat.add_mul] at hfit
        have hrun := run_storeCells (P := P) (len * i.size) new' 0 arr w hb (by omega) (hc2 rfl) (allOne_ok hone hnew)
        rw [Nat.add_zero] at hrun
        have hle := Ren.le_put hEn b κ
        refine ⟨E.put A.next b κ, .slice (some ⟨b, 0, none⟩) (len + n) κ, _, ?_, by simp only [VR]; exact ⟨_, _, Ren.put_self _ _ _ _, Nat.le_refl _, by omega, by simp⟩,
          Stp.retire (w' := { w with heap := w.heap.setIfInBounds b (.cells (setAll arr (len * i.size) new') e' fr) }) hM hg rfl rfl heq hEn hnext ⟨_, _, _, rfl, fun j u hu => ?_, fun _ j hj => hc2 rfl j (by rwa [setAll_size] at hj), fun sz' top hg' => ?_⟩ rfl rfl rfl rfl⟩
        · rw [app_room ha0 ha1 hs1 hx1 hxT ht hi hz2 hzs hin hnb hpl]
          show ((storeCells ((⟨b, 0, none⟩ : Addr).add (len * i.size)) new').run P w).andThen _ = _
          rw [add_addr, Nat.zero_add, hrun]
          rfl
        · rw [setAll_get]
          rcases hspec hu with ⟨h3, h4⟩ | ⟨h3, h4, h5⟩ | ⟨h3, h4⟩
          · rw [if_neg (by omega)]
            obtain ⟨u', h6, h7⟩ := hc1 _ _ h4
            exact ⟨u', h6, VR.mono hle _ _ h7⟩
          · rw [if_pos ⟨h3, by omega, by omega⟩]
            obtain ⟨u', h6, h7⟩ := hnew.get h5
            exact ⟨u', h6, VR.mono hle _ _ h7⟩
          · rw [if_neg (by omega)]
            obtain ⟨u', h6, h7⟩ := hc1 _ _ h4
            exact ⟨u', h6, VR.mono hle _ _ h7⟩
        · cases hg'
          refine ⟨⟨by rw [setAll_size]; exact htop1.1, fun h => absurd h hs0⟩, fun j u hu => ?_⟩
          rcases hspec hu with ⟨h3, h4⟩ | ⟨h3, h4, h5⟩ | ⟨h3, h4⟩
          · rw [Nat.add_mul]; omega
          · rw [Nat.add_mul]; omega
          · have := htop2 _ _ h4
            omega
  | eslice => cases h
  | _ => cases h
end Go.Ev
