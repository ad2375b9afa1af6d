/- copy, delete, clear, calls; all that acts. -/
import Derived.Test.YtcpmgjnlnaigbaaGreatDoorEvN
set_option linter.unusedVariables false
set_option linter.unusedSimpArgs false
namespace Go.Ev
open Go

variable {P : Program} {E : Ren} {ρ : Env} {f : Operand → Value} {v : AV} {A A' : AH} {w : World}

theorem args_good (hG : Good E ρ f) (c : Call) : ∀ (j : Nat) (x : Operand) (u : AV), c.args.toList[j]? = some x → ρ x = some u → ∃ u', (c.args.map f)[j]? = some u' ∧ VR E u u' := by
  intro j x u hx hu
  have : c.args[j]? = some x := by simpa using hx
  exact ⟨f x, by simp [this], hG x u hu⟩

theorem kAppendC_ok {call : CallFn} {a : Act} {o : Oper} {c : Call} (ho : o.op = .call c) (hc : c.callee = .builtin .append) (h : kAppendC c P call ρ A = some (v, A')) (hG : Good E ρ a.eval) (hM : MR E A w) (hF : Fresh E A A') : ActOk P E A w a o v A' := by
  simp only [kAppendC, og_some] at h
  obtain ⟨hx, h⟩ := h
  obtain ⟨d, hd⟩ := Option.isSome_iff_exists.1 hx
  rw [Option.bind_eq_some_iff] at hd
  obtain ⟨xT, hxT, hd⟩ := hd
  have hz : isIntT P c.argTypes[1]? = isIntD d := by
    rw [hxT]; unfold isIntT isIntD; simp only [Option.bind_some, hd]; cases d <;> rfl
  rw [hz] at h
  cases ht : c.argTypes[0]? with
  | none =>
    rw [ht] at h
    simp only [kAppend, ob_some] at h
    obtain ⟨_, _, _, _, _, _, _, _, _, h, _⟩ := h
    cases h
  | some t =>
    rw [ht] at h
    obtain ⟨E', v', w', hr, hv, hs⟩ := kAppend_ok (ty := o.type) hM h ht hxT hd (args_good hG c) hF
    exact ActOk.value (by simp [execOp, ho, resolve, hc, invoke, Go.builtin, hr]) hs hv

theorem kCopy_ok {call : CallFn} {a : Act} {o : Oper} {c : Call} (ho : o.op = .call c) (hc : c.callee = .builtin .copy) (h : kCopy c.argTypes[0]? c.args.toList P call ρ A = some (v, A')) (hG : Good E ρ a.eval) (hM : MR E A w) : ActOk P E A w a o v A' := by
  simp only [kCopy, ob_some] at h
  obtain ⟨d, hd, x, hx, dv, hdv, xv, hxv, t, ht, e, he, dl, hdl, xl, hxl, cs, hcs, h⟩ := h
  rw [getN_eq] at hd hx
  obtain ⟨d', hd1, hd2⟩ := args_good hG c 0 d dv hd hdv
  obtain ⟨x', hx1, hx2⟩ := args_good hG c 1 x xv hx hxv
  obtain ⟨el, z, i, hu, hi, hsz, _, _, _, _, h0, _⟩ := elemInfo_some he
  have hes : xv = .eslice → Nat.min xl dl = 0 := fun e => by subst e; have h3 : some 0 = some xl := hxl; cases h3; exact Nat.zero_min _
  obtain ⟨cs', h1, h2⟩ := srcCells_ok (P := P) hM hcs hx2 hes
  have h2 := h2 w rfl
  have hl := srcLen_ok (P := P) hxl hx2
  have hsize : ∀ w, (sizeOf el).run P w = .ok e.1 w := fun w => by simp [sizeOf, typeInfo, hi, hsz]
  cases dv with
  | slice p len cap =>
    cases p with
    | none =>
      have h' : some (intN 0, A) = some (v, A') := h
      cases h'
      have hdl' : og (Nat.beq len 0) (some 0) = some dl := hdl
      rw [og_some, Nat.beq_eq] at hdl'
      obtain ⟨rfl, h3⟩ := hdl'
      cases h3
      simp only [VR] at hd2
      subst hd2
      refine ActOk.value (v' := goInt 0) ?_ (Stp.refl hM) (by simp only [intN, VR]; rfl)
      have hmin : xl.min 0 = 0 := Nat.min_zero _
      rw [hmin] at h2
      simp [execOp, ho, resolve, hc, invoke, Go.builtin, Builtin.copy_, ht, hd1, hx1, run_und hu, hl, hsize, hmin, h2]
    | some q =>
      have h' : om (storeA A q.1 q.2 cs) (fun h' => (intN (Nat.min xl dl), h')) = some (v, A') := h
      rw [om_some] at h'
      obtain ⟨h3, hst, h'⟩ := h'
      cases h'
      have hdl' : some len = some dl := hdl
      rw [Option.some.injEq] at hdl'
      subst hdl'
      simp only [VR] at hd2
      obtain ⟨b, κ, heq, rfl⟩ := hd2
      obtain ⟨w', hr, hs'⟩ := store_ok (P := P) hM hst heq h1
      refine ActOk.value (v' := goInt (Nat.min xl len)) ?_ hs' (by simp only [intN, VR]; rfl)
      simp [execOp, ho, resolve, hc, invoke, Go.builtin, Builtin.copy_, ht, hd1, hx1, run_und hu, hl, hsize, h2, hr]
  | gslice m o' len eo mc =>
    have h' : om (storeA A m o' cs) (fun h' => (intN (Nat.min xl dl), h')) = some (v, A') := h
    rw [om_some] at h'
    obtain ⟨h3, hst, h'⟩ := h'
    cases h'
    have hdl' : some len = some dl := hdl
    rw [Option.some.injEq] at hdl'
    subst hdl'
    simp only [VR] at hd2
    obtain ⟨b, κ, heq, _, _, rfl⟩ := hd2
    obtain ⟨w', hr, hs'⟩ := store_ok (P := P) hM hst heq h1
    refine ActOk.value (v' := goInt (Nat.min xl len)) ?_ hs' (by simp only [intN, VR]; rfl)
    simp [execOp, ho, resolve, hc, invoke, Go.builtin, Builtin.copy_, ht, hd1, hx1, run_und hu, hl, hsize, h2, hr]
  | _ => cases h

theorem kClear_ok {call : CallFn} {a : Act} {o : Oper} {c : Call} (ho : o.op = .call c) (hc : c.callee = .builtin .clear) (h : kClear c.argTypes[0]? c.args.toList P call ρ A = some (v, A')) (hG : Good E ρ a.eval) (hM : MR E A w) : ActOk P E A w a o v A' := by
  simp only [kClear, ob_some] at h
  obtain ⟨x, hx, xv, hxv, t, ht, e, he, h⟩ := h
  rw [getN_eq] at hx
  obtain ⟨x', hx1, hx2⟩ := args_good hG c 0 x xv hx hxv
  obtain ⟨el, z, i, hu, hi, hsz, _, hz, hzc, hzl, h0, _⟩ := elemInfo_some he
  obtain ⟨z', hz1, hz2⟩ := zeroA_ok (E := E) hz
  have hcz := VRL.cells hz1
  rw [hzc] at hcz
  have hzs : z'.cells.size = e.1 := by have := hcz.length; rw [hzl] at this; simpa using this
  have hund : VR E undefA (Value.tuple #[]) := by simp only [undefA, VR]; exact ⟨_, rfl, by simp [VRL]⟩
  have fin : ∀ (m o' b κ n cap : Nat) (h' : AH), n ≠ 0 → E m = some (b, κ) → storeA A m o' (repeatL e.2.2 n) = some h' → x' = .slice (some ⟨b, o', none⟩) n cap → A' = h' → v = undefA → ActOk P E A w a o v A' := by
    intro m o' b κ n cap h' hn heq hst hxe hA hv
    subst hxe hA hv
    have hmade := made_ok hcz (by omega) n
    rw [hzl] at hmade
    obtain ⟨w', hr, hs'⟩ := store_ok (P := P) hM hst heq hmade
    refine ActOk.value (v' := .tuple #[]) (w' := w') ?_ hs' hund
    have hzz : Builtin.zeroCells z'.cells n = (Array.range (n * e.1)).map (z'.cells[· % z'.cells.size]!) := by unfold Builtin.zeroCells; rw [hzs]
    obtain ⟨k, rfl⟩ := Nat.exists_eq_succ_of_ne_zero hn
    rw [← hzz] at hr
    simp [execOp, ho, resolve, hc, invoke, Go.builtin, Builtin.clear_, ht, hx1, run_und hu, hz2, hr]
  cases xv with
  | slice p len cap =>
    cases p with
    | none =>
      have h' : some (undefA, A) = some (v, A') := h
      cases h'
      simp only [VR] at hx2
      subst hx2
      exact ActOk.value (v' := .tuple #[]) (by simp [execOp, ho, resolve, hc, invoke, Go.builtin, Builtin.clear_, ht, hx1, run_und hu]) (Stp.refl hM) hund
    | some q =>
      have h' : bc (Nat.beq len 0) (some (undefA, A)) (om (storeA A q.1 q.2 (repeatL e.2.2 len)) fun h' => (undefA, h')) = some (v, A') := h
      simp only [VR] at hx2
      obtain ⟨b, κ, heq, hx2⟩ := hx2
      cases hb : Nat.beq len 0 with
      | true =>
        rw [hb, bc_true] at h'
        cases h'
        rw [Nat.beq_eq] at hb
        subst hb hx2
        exact ActOk.value (v' := .tuple #[]) (by simp [execOp, ho, resolve, hc, invoke, Go.builtin, Builtin.clear_, ht, hx1, run_und hu]) (Stp.refl hM) hund
      | false =>
        rw [hb, bc_false, om_some] at h'
        obtain ⟨h3, hst, h'⟩ := h'
        have hn : len ≠ 0 := by intro e; subst e; simp at hb
        cases h'
        exact fin _ _ _ _ _ _ _ hn heq hst hx2 rfl rfl
  | gslice m o' len eo mc =>
    have h' : bc (Nat.beq len 0) (some (undefA, A)) (om (storeA A m o' (repeatL e.2.2 len)) fun h' => (undefA, h')) = some (v, A') := h
    simp only [VR] at hx2
    obtain ⟨b, κ, heq, _, _, hx2⟩ := hx2
    cases hb : Nat.beq len 0 with
    | true =>
      rw [hb, bc_true] at h'
      cases h'
      rw [Nat.beq_eq] at hb
      subst hb hx2
      exact ActOk.value (v' := .tuple #[]) (by simp [execOp, ho, resolve, hc, invoke, Go.builtin, Builtin.clear_, ht, hx1, run_und hu]) (Stp.refl hM) hund
    | false =>
      rw [hb, bc_false, om_some] at h'
      obtain ⟨h3, hst, h'⟩ := h'
      have hn : len ≠ 0 := by intro e; subst e; simp at hb
      cases h'
      exact fin _ _ _ _ _ _ _ hn heq hst hx2 rfl rfl
  | eslice =>
    have h' : some (undefA, A) = some (v, A') := h
    cases h'
    simp only [VR] at hx2
    obtain ⟨a', c', rfl⟩ := hx2
    exact ActOk.value (v' := .tuple #[]) (by simp [execOp, ho, resolve, hc, invoke, Go.builtin, Builtin.clear_, ht, hx1, run_und hu]) (Stp.refl hM) hund
  | _ => cases h

theorem deleteA_split {kk : KeyK} {k : AV} (hk : keyOk kk k = true) (hs : Kd kk) : ∀ (es : List (AV × AV)) (bs : List Nat) (x : List (AV × AV) × List Nat), deleteA k es bs = some x →
    (findA k es = some none ∧ x = (es, bs)) ∨ ∃ (i : Nat) (p : AV × AV), es[i]? = some p ∧ keyEq k p.1 = some true ∧ findA k es = some (some p.2) ∧ x = (es.eraseIdx i, bs.eraseIdx i) ∧ ∀ j q, j < i → es[j]? = some q → keyEq k q.1 = some false := by
  intro es
  induction es with
  | nil => intro bs x h; have : some ([], bs) = some x := h; cases this; exact .inl ⟨rfl, rfl⟩
  | cons p s ih =>
    intro bs x h
    have h' : (ob (keyEq k p.1) fun e => bc e (some (s, bs.tail)) (List.casesOn (motive := fun _ => Option (List (AV × AV) × List Nat)) bs none fun b bs => om (deleteA k s bs) fun l => (p :: l.1, b :: l.2))) = some x := h
    rw [ob_some] at h'
    obtain ⟨e, he, h2⟩ := h'
    have hf : findA k (p :: s) = ob (keyEq k p.1) fun e => bc e (some (some p.2)) (findA k s) := rfl
    cases e with
    | true =>
      rw [bc_true] at h2
      cases h2
      refine .inr ⟨0, p, rfl, he, ?_, by cases bs <;> rfl, fun j q hj _ => by omega⟩
      rw [hf, he]; change bc true (some (some p.2)) (findA k s) = _; rw [bc_true]
    | false =>
      rw [bc_false] at h2
      cases bs with
      | nil => cases h2
      | cons b bs =>
        have h2' : om (deleteA k s bs) (fun l => (p :: l.1, b :: l.2)) = some x := h2
        rw [om_some] at h2'
        obtain ⟨l, hl, rfl⟩ := h2'
        have hff : findA k (p :: s) = findA k s := by rw [hf, he]; change bc false (some (some p.2)) (findA k s) = _; rw [bc_false]
        rcases ih bs l hl with ⟨h3, rfl⟩ | ⟨i, q, h3, h4, h5, rfl, h7⟩
        · exact .inl ⟨by rw [hff, h3], rfl⟩
        · refine .inr ⟨i + 1, q, by simpa using h3, h4, by rw [hff, h5], rfl, fun j q' hj hq => ?_⟩
          cases j with
          | zero => simp at hq; subst hq; exact he
          | succ j => exact h7 j q' (by omega) (by simpa using hq)

theorem map_erase {α β : Type} (f : α → β) : ∀ (l : List α) (i : Nat), (l.map f).eraseIdx i = (l.eraseIdx i).map f
  | [], i => by simp
  | x :: l, 0 => by simp
  | x :: l, i + 1 => by simp [map_erase f l i]

theorem erase_get {α β : Type} {R : α → β → Prop} {l : List α} {m : List β} (hl : m.length = l.length) (h : ∀ (i : Nat) (p : α) (e : β), l[i]? = some p → m[i]? = some e → R p e) (k : Nat) :
    ∀ (i : Nat) (p : α) (e : β), (l.eraseIdx k)[i]? = some p → (m.eraseIdx k)[i]? = some e → R p e := by
  intro i p e hp he
  rw [List.getElem?_eraseIdx] at hp he
  split at hp
  · rename_i hlt; rw [if_pos hlt] at he; exact h i p e hp he
  · rename_i hge; rw [if_neg hge] at he; exact h _ p e hp he

theorem kDelete_ok {call : CallFn} {a : Act} {o : Oper} {c : Call} (ho : o.op = .call c) (hc : c.callee = .builtin .delete) (h : kDelete c.argTypes[0]? c.args.toList P call ρ A = some (v, A')) (hG : Good E ρ a.eval) (hM : MR E A w) : ActOk P E A w a o v A' := by
  simp only [kDelete, ob_some] at h
  obtain ⟨m, hm, k, hk, mv, hmv, kv, hkv, t, ht, mi, hmi, h⟩ := h
  rw [og_some] at h
  obtain ⟨hok, h⟩ := h
  obtain ⟨r, rfl, h3⟩ := onMap_some.1 h
  clear h
  rw [getN_eq] at hm hk
  obtain ⟨m', hm1, hm2⟩ := args_good hG c 0 m _ hm hmv
  obtain ⟨k', hk1, hk2⟩ := args_good hG c 1 k kv hk hkv
  obtain ⟨kt, et, hu, rfl⟩ := mapInfo_some hmi
  simp only at hok
  have hund : VR E undefA (Value.tuple #[]) := by simp only [undefA, VR]; exact ⟨_, rfl, by simp [VRL]⟩
  cases r with
  | none =>
    have h' : some (undefA, A) = some (v, A') := h3
    cases h'
    simp only [VR] at hm2
    subst hm2
    exact ActOk.value (v' := .tuple #[]) (by simp [execOp, ho, resolve, hc, invoke, Go.builtin, Builtin.delete_, ht, hm1, hk1, run_und hu, checkKey_run hok hk2]) (Stp.refl hM) hund
  | some n =>
    have h' : (ob (A.get n) fun ob1 => onMapO ob1 fun es c => og (Nat.ble (lenN es) (lenN c.bs)) (om (deleteA kv es c.bs) fun x => (undefA, A.set n (.map x.1 ⟨c.clock, x.2⟩)))) = some (v, A') := h3
    obtain ⟨_, hg, h4⟩ := ob_some.1 h'
    obtain ⟨es, cl, rfl, h5⟩ := onMapO_some.1 h4
    rw [og_some, Nat.ble_eq, lenN_eq, lenN_eq, om_some] at h5
    obtain ⟨hlenb, ⟨es', bs'⟩, hdel, hres⟩ := h5
    clear h3 h' h4
    cases hres
    simp only [VR] at hm2
    obtain ⟨b, κ, he, rfl⟩ := hm2
    obtain ⟨arr, clk, hb, hbn, hclk, hmr⟩ := hM.map hg he
    obtain ⟨hd, hs⟩ := keyKind_desc hok
    have hbs := (Array.getElem?_eq_some_iff.1 hb).1
    have hset : ∀ (o' : Obj), (setObj b o').run P w = .ok () { w with heap := w.heap.setIfInBounds b o' } := fun o' => by simp [setObj, Sem.run, hb]
    have hmr0 := hmr
    obtain ⟨l0, hl01, hl02, hl03, hl04, hl05⟩ := hmr0
    have fin : ∀ arr', Born arr' clk → (bs'.length = es'.length → cl.bs.length = es.length) → MapR E es' bs' arr' → (Builtin.delete_ c.argTypes o.type (c.args.map a.eval)).run P w = .ok (.tuple #[]) { w with heap := w.heap.setIfInBounds b (.map arr' clk) } → ActOk P E A w a o undefA (A.set n (.map es' ⟨cl.clock, bs'⟩)) := by
      intro arr' hbn' hll hmr' hrun
      exact ActOk.value (v' := .tuple #[]) (w' := { w with heap := w.heap.setIfInBounds b (.map arr' clk) }) (by simp [execOp, ho, resolve, hc, invoke, Go.builtin, hrun]) (Stp.set hM hg rfl rfl he rfl ⟨_, clk, rfl, hbn', fun h => hclk (hll h), hmr'⟩ rfl rfl rfl rfl) hund
    rcases deleteA_split hok hs es cl.bs _ hdel with ⟨hfind, hxx⟩ | ⟨i0, p0, g1, g2, hfind, hxx, g4⟩ <;> cases hxx
    · rcases find_ok hok hk2 hmr hfind with ⟨hr, hf⟩ | ⟨_, _, _, _, _, _, hr, _⟩
      · exact fin arr hbn id hmr (by simp [Builtin.delete_, ht, hm1, hk1, run_und hu, run_getObj hb (by simp), checkKey_run hok hk2, hf, hset])
      · cases hr
    · rcases find_ok hok hk2 hmr hfind with ⟨hr, hf⟩ | ⟨i, p, l, j, e, h1, hr, h3, h4, h5, h6, h7, h8, h9, h10, hf⟩
      · cases hr
      · have hii : i0 = i := by
          rcases findA_split hok hs es _ hl04 hfind with ⟨hc, _⟩ | ⟨i3, p3, q1, q2, q3, q4⟩
          · cases hc
          · have e1 : i0 = i3 := by
              rcases Nat.lt_trichotomy i0 i3 with h | h | h
              · have := q4 i0 p0 g1 (by omega); rw [g2] at this; cases this
              · exact h
              · have := q4 i0 p0 g1 (by omega); rw [g2] at this; cases this
            have e2 : i = i3 := by
              rcases Nat.lt_trichotomy i i3 with h | h | h
              · have := q4 i p h1 (by omega); rw [h3] at this; cases this
              · exact h
              · have := q4 i p h1 (by omega); rw [h3] at this; cases this
            omega
        subst hii
        have hjl := (Array.getElem?_eq_some_iff.1 h8).1
        have hel := (List.getElem?_eq_some_iff.1 h1).1
        have hll : (cl.bs.eraseIdx i0).length = (es.eraseIdx i0).length → cl.bs.length = es.length := by
          rw [List.length_eraseIdx, List.length_eraseIdx, if_pos hel, if_pos (by omega)]; omega
        have hbn' : Born (arr.eraseIdxIfInBounds j) clk := by
          refine hbn.sub ?_
          unfold Array.eraseIdxIfInBounds
          rw [dif_pos hjl, Array.toList_eraseIdx]
          exact (List.eraseIdx_sublist _ _).map _
        refine fin (arr.eraseIdxIfInBounds j) hbn' hll ⟨l.eraseIdx i0, ?_, by rw [List.length_eraseIdx, List.length_eraseIdx, h5], erase_get h5 h6 i0, hl04.sublist (List.eraseIdx_sublist _ _), fun hx => by rw [h10 (hll hx)]; exact map_erase _ _ _⟩ (by simp [Builtin.delete_, ht, hm1, hk1, run_und hu, run_getObj hb (by simp), checkKey_run hok hk2, hf, hset])
        have : (arr.eraseIdxIfInBounds j).toList = arr.toList.eraseIdx j := by
          unfold Array.eraseIdxIfInBounds
          rw [dif_pos hjl, Array.toList_eraseIdx]
        rw [this]
        exact h9

theorem enters_run {g : FuncId} (h : Enters P g) (args : Array Value) (w : World) : (callFunc g args).run P w = .ok (.enter g args) w := by
  obtain ⟨fn, c, h1, h2, h3⟩ := h
  simp only [callFunc, Sem.run_bind, run_program, Result.andThen_ok, h1, h2, h3, Bool.false_eq_true, if_false, Option.isNone_some, Sem.run_pure]

theorem call_act {call : CallFn} (hC : CallOk P call) {a : Act} {o : Oper} {g : FuncId} {xs : List AV} {args : Array Value} (h : call g xs A = some (v, A')) (hx : VRL E xs args.toList) (hGl : Glb E) (hM : MR E A w) (hF : Fresh E A A')
    (hr : (execOp a.eval o).run P w = .ok (.enter g args) w) : ActOk P E A w a o v A' := by
  intro K Q hK
  unfold Oper.wp
  rw [hr, Oper.upon_enter]
  intro cs
  obtain ⟨e, w', fr, ⟨E', v', rfl, hv, hs⟩, h2⟩ := (hC g xs A v A' h).2 E w args hGl hM hx hF cs
  exact ⟨_, w', fr, hK E' v' w' hs hv, h2⟩

theorem kValue_ok {call : CallFn} (hC : CallOk P call) {a : Act} {o : Oper} {c : Call} {g : Operand} (ho : o.op = .call c) (hc : c.callee = .value g) (h : kValue g c.args.toList P call ρ A = some (v, A')) (hGl : Glb E) (hG : Good E ρ a.eval) (hM : MR E A w) (hF : Fresh E A A') : ActOk P E A w a o v A' := by
  simp only [kValue, ob_some] at h
  obtain ⟨l, hl, fv, hfv, h⟩ := h
  obtain ⟨fn, first, cap, rfl, h'⟩ := onFunc_some.1 h
  have hx := mapO_good hG hl
  have hf := hG g _ hfv
  simp only [VR] at hf
  obtain ⟨first', cap', hf, h1, h2⟩ := hf
  cases fn with
  | func k =>
    have h3 : call k (first ++ l ++ cap) A = some (v, A') := h'
    refine call_act hC h3 (args := first' ++ c.args.map a.eval ++ cap') ?_ hGl hM hF ?_
    · simp only [Array.toList_append, Array.toList_map]
      exact VRL.app (VRL.app h1 hx) h2
    · simp [execOp, ho, resolve, hc, hf, Deferred.ofValue, invoke, enters_run (hC k _ A v A' h3).1]
  | _ => cases h'

theorem methodOf_some {t : TypeId} {name : String} {k : FuncId} (h : methodOf P t name = some k) :
    ∃ i m e, P.info? t = some i ∧ i.methods.find? (·.name == name) = some m ∧ m.path.toList = [] ∧ m.func = some (k, true) ∧ P.underlying t = some (.pointer e) := by
  unfold methodOf at h
  split at h
  · rename_i i hi
    split at h
    · rename_i m hm
      split at h
      · rename_i h1 h2 h3
        cases h
        exact ⟨i, m, _, hi, hm, h1, h2, h3⟩
      · cases h
    · cases h
  · cases h

theorem kInvoke_ok {call : CallFn} (hC : CallOk P call) {a : Act} {o : Oper} {c : Call} {r : Operand} {name : String} (ho : o.op = .call c) (hc : c.callee = .invoke r name) (h : kInvoke r name c.args.toList P call ρ A = some (v, A')) (hGl : Glb E) (hG : Good E ρ a.eval) (hM : MR E A w) (hF : Fresh E A A') : ActOk P E A w a o v A' := by
  simp only [kInvoke, ob_some] at h
  obtain ⟨l, hl, fv, hfv, h⟩ := h
  obtain ⟨t, rv, rfl, h'⟩ := onIface_some.1 h
  obtain ⟨k, hk, h3⟩ := ob_some.1 h'
  have hx := mapO_good hG hl
  have hf := hG r _ hfv
  simp only [VR] at hf
  obtain ⟨rv', hf, h1⟩ := hf
  obtain ⟨i, m, e, hi, hm, hp, hfn, hu⟩ := methodOf_some hk
  refine call_act hC h3 (args := #[rv'] ++ c.args.map a.eval) ?_ hGl hM hF ?_
  · simp only [Array.toList_append, Array.toList_map, List.cons_append, List.nil_append, VRL]
    exact ⟨_, _, rfl, h1, hx⟩
  · have he := fun args w => enters_run (hC k _ A v A' h3).1 args w
    have hmeth : ∀ n, (method (n + 1) t rv' name).run P w = .ok (k, rv') w := fun n => by
      simp [method, typeInfo, hi, hm, hp, hfn, follow, receiverAt, run_und hu, Place.get]
    have hdep : ∃ n, P.types.size + Made.depth = n + 1 := by
      have : 0 < Made.depth := by decide
      exact ⟨P.types.size + (Made.depth - 1), by omega⟩
    obtain ⟨n, hn⟩ := hdep
    have hargs : ((#[Value.iface t rv'] ++ c.args.map a.eval).extract 1 (#[Value.iface t rv'] ++ c.args.map a.eval).size) = c.args.map a.eval := by
      apply Array.ext'
      simp [List.extract_eq_take_drop]
      exact List.take_of_length_le (by rw [List.length_map]; exact Nat.le_of_eq Array.length_toList)
    have h0 : (#[Value.iface t rv'] ++ c.args.map a.eval)[0]? = some (.iface t rv') := by rw [Array.getElem?_append_left (by show 0 < 1; omega)]; rfl
    simp only [execOp, ho, resolve, hc, hf, Sem.run_bind, Sem.run_pure, Result.andThen_ok, invoke, h0, hargs, callMethod, run_program, hn, hmeth, he]

theorem asIter_some {o : AObj} {c : IterV} : asIter o = some c ↔ o = .mapIter c.m c.since c.seen c.stepped := by cases o <;> cases c <;> simp [asIter]
theorem onIter_some {β : Type} {o : AObj} {g : Option Nat → Nat → List Nat → Nat → Option β} {y : β} : onIter o g = some y ↔ ∃ m s l t, o = .mapIter m s l t ∧ g m s l t = some y := by
  simp only [onIter, ob_some, asIter_some]
  constructor
  · rintro ⟨c, h1, h2⟩; exact ⟨_, _, _, _, h1, h2⟩
  · rintro ⟨m, s, l, t, h1, h2⟩; exact ⟨⟨m, s, l, t⟩, h1, h2⟩

theorem kRange_ok {call : CallFn} {a : Act} {o : Oper} {t : TypeId} {x : Operand} (ho : o.op = .range t x) (h : kRange t x P call ρ A = some (v, A')) (hG : Good E ρ a.eval) (hM : MR E A w) (hF : Fresh E A A') : ActOk P E A w a o v A' := by
  simp only [kRange, og_some, ob_some] at h
  obtain ⟨hmt, u, hu, h⟩ := h
  obtain ⟨r, rfl, h'⟩ := onMap_some.1 h
  obtain ⟨kt, et, ht⟩ := isMapT_true hmt
  have hx := hG x _ hu
  have fin : ∀ (m : Option Nat) (m' : Option Nat) (c : Nat), newIter A m c = some (v, A') → (match m with | none => m' = none | some n => ∃ b κ, E n = some (b, κ) ∧ m' = some b) → (Instr.range t (a.eval x)).run P w = .ok (.pointer (some ⟨w.heap.size, 0, none⟩)) (w.alloc (.mapIter m' c #[] c)) → ActOk P E A w a o v A' := by
    intro m m' c hn hm hr
    simp only [newIter, og_some] at hn
    obtain ⟨htop, hn⟩ := hn
    cases hn
    have hEn : E A.next = none := hF A.next (Nat.le_refl _) (by show A.next < A.next + 1; omega)
    refine ActOk.value (v' := .pointer (some ⟨w.heap.size, 0, none⟩)) (w' := w.alloc (.mapIter m' c #[] c)) (by simp [execOp, ho, hr]) (Stp.push (κ := 0) (ob' := .mapIter m' c #[] c) hM hEn htop ?_ rfl rfl rfl rfl) (vr_ptrTo (Ren.put_self _ _ _ _))
    cases m with
    | none => simp only at hm; subst hm; rfl
    | some n => obtain ⟨b, κ, he, rfl⟩ := hm; exact ⟨b, κ, Ren.le_put hEn _ _ _ _ he, rfl⟩
  have hnew : ∀ (o' : Obj) (w : World), (newObj o').run P w = .ok w.heap.size (w.alloc o') := fun o' w => rfl
  cases r with
  | none =>
    have h2 : newIter A none 0 = some (v, A') := h'
    simp only [VR] at hx
    exact fin none none 0 h2 rfl (by simp [Instr.range, run_und ht, hx, hnew])
  | some n =>
    have h2 : (ob (A.get n) fun ob1 => onMapO ob1 fun es c => og (Nat.beq (lenN c.bs) (lenN es)) (newIter A (some n) c.clock)) = some (v, A') := h'
    obtain ⟨_, hg, h3⟩ := ob_some.1 h2
    obtain ⟨es, c, rfl, h4⟩ := onMapO_some.1 h3
    rw [og_some, Nat.beq_eq, lenN_eq, lenN_eq] at h4
    obtain ⟨hlen, h4⟩ := h4
    simp only [VR] at hx
    obtain ⟨b, κ, he, hx⟩ := hx
    obtain ⟨arr, clk, hb, _, hclk, _⟩ := hM.map hg he
    obtain rfl := hclk hlen
    exact fin (some n) (some b) c.clock h4 ⟨b, κ, he, rfl⟩ (by simp [Instr.range, run_und ht, hx, run_getObj hb (by simp), hnew])

theorem keepB_ok {E : Ren} {f : Nat → Bool} : ∀ (es : List (AV × AV)) (l0 : List MapEntry) (r : List ((AV × AV) × Nat)), l0.length = es.length → (∀ (i : Nat) (p : AV × AV) (e : MapEntry), es[i]? = some p → l0[i]? = some e → VR E p.1 e.key ∧ VR E p.2 e.val) → keepB f es (l0.map (·.born)) = some r →
    (l0.filter fun e => f e.born).length = r.length ∧ ∀ (i : Nat) (p : (AV × AV) × Nat) (e : MapEntry), r[i]? = some p → (l0.filter fun e => f e.born)[i]? = some e → VR E p.1.1 e.key ∧ VR E p.1.2 e.val ∧ p.2 = e.born
  | [], l0, r, hl, _, h => by
    have : l0 = [] := by simpa using hl
    subst this
    have h' : some [] = some r := h
    cases h'
    exact ⟨rfl, fun i p e h => by simp at h⟩
  | p :: es, [], r, hl, _, h => by simp at hl
  | p :: es, e :: l0, r, hl, hv, h => by
    have h' : bc (f e.born) (om (keepB f es (l0.map (·.born))) fun l => (p, e.born) :: l) (keepB f es (l0.map (·.born))) = some r := h
    have hv' : ∀ (i : Nat) (p : AV × AV) (e : MapEntry), es[i]? = some p → l0[i]? = some e → VR E p.1 e.key ∧ VR E p.2 e.val := fun i q f h1 h2 => hv (i + 1) q f (by simpa using h1) (by simpa using h2)
    have hl' : l0.length = es.length := by simpa using hl
    cases hc : f e.born with
    | false =>
      rw [hc, bc_false] at h'
      have := keepB_ok es l0 r hl' hv' h'
      rw [List.filter_cons_of_neg (by rw [hc]; decide)]
      exact this
    | true =>
      rw [hc, bc_true, om_some] at h'
      obtain ⟨l, hl2, rfl⟩ := h'
      obtain ⟨h1, h2⟩ := keepB_ok es l0 l hl' hv' hl2
      rw [List.filter_cons_of_pos (p := fun e : MapEntry => f e.born) hc]
      refine ⟨by rw [List.length_cons, List.length_cons, h1], fun i q f hq hf => ?_⟩
      cases i with
      | zero =>
        simp only [List.getElem?_cons_zero, Option.some.injEq] at hq hf
        subst hq hf
        obtain ⟨h3, h4⟩ := hv 0 p e (by simp) (by simp)
        exact ⟨h3, h4, rfl⟩
      | succ i => exact h2 i q f (by rw [List.getElem?_cons_succ] at hq; exact hq) (by rw [List.getElem?_cons_succ] at hf; exact hf)

theorem MR.iter (h : MR E A w) {n b κ : Nat} {m : Option Nat} {since st : Nat} {seen : List Nat} (hg : A.get n = some (.mapIter m since seen st)) (he : E n = some (b, κ)) :
    ∃ m', w.heap[b]? = some (.mapIter m' since seen.toArray st) ∧ (match m with | none => m' = none | some k => ∃ b' κ', E k = some (b', κ') ∧ m' = some b') := by
  obtain ⟨_, b', κ', he', ob', hb, ho⟩ := h.blk n _ hg
  rw [he] at he'
  cases he'
  cases m with
  | none => have ho' : ob' = _ := ho
            subst ho'
            exact ⟨none, hb, rfl⟩
  | some k => obtain ⟨b1, κ1, h1, rfl⟩ := ho
              exact ⟨some b1, hb, b1, κ1, h1, rfl⟩

theorem filter_of_perm {l m : List MapEntry} (h : l.Perm m) (p : MapEntry → Bool) : (l.filter p).Perm (m.filter p) := h.filter p

theorem kNext_ok {call : CallFn} {a : Act} {o : Oper} {it : Operand} (ho : o.op = .next it false) (h : kNext it P call ρ A = some (v, A')) (hG : Good E ρ a.eval) (hM : MR E A w) : ActOk P E A w a o v A' := by
  simp only [kNext, ob_some] at h
  obtain ⟨p, hp, h⟩ := h
  obtain ⟨i, off, rfl, h'⟩ := onPtr_some.1 h
  rw [og_some, Nat.beq_eq] at h'
  obtain ⟨rfl, h'⟩ := h'
  obtain ⟨_, hgi, h2⟩ := ob_some.1 h'
  obtain ⟨m, since, seen, last, rfl, h3⟩ := onIter_some.1 h2
  clear h h' h2
  have hx := hG it _ hp
  simp only [VR] at hx
  obtain ⟨bi, κi, hei, hx⟩ := hx
  obtain ⟨m', hbi, hm'⟩ := hM.iter hgi hei
  have hover : VR E (.tuple [.bool false]) (.tuple #[.bool false]) := by simp only [VR]; exact ⟨_, rfl, by simp [VRL, VR]⟩
  cases m with
  | none =>
    have h4 : some (AV.tuple [.bool false], A) = some (v, A') := h3
    cases h4
    simp only at hm'
    subst hm'
    exact ActOk.value (v' := .tuple #[.bool false]) (w' := w) (by simp [execOp, ho, hx, Instr.next, run_getObj hbi (by simp)]) (Stp.refl hM) hover
  | some n =>
    obtain ⟨b, κ, he, rfl⟩ := hm'
    have h4 : (ob (A.get n) fun ob2 => onMapO ob2 fun es c => og (bc (c.bs.all fun b => Nat.ble (b + 1) since) (Nat.beq c.bs.length es.length) false) (ob (keepB (fun b => !seen.contains b) es c.bs) fun l =>
      List.casesOn (motive := fun _ => Option (AV × AH)) l (og (bc (seen.isEmpty) true (bc (es.isEmpty) true (c.bs.any fun b => Nat.ble (b + 1) last))) (some (.tuple [.bool false], A))) fun p r => og (bc (r.isEmpty) (bc (seen.isEmpty) true (c.bs.any fun b => Nat.ble (b + 1) last)) false) (some (.tuple [.bool true, p.1.1, p.1.2], A.set i (.mapIter (some n) since (seen ++ [p.2]) c.clock))))) = some (v, A') := h3
    obtain ⟨_, hg, h5⟩ := ob_some.1 h4
    obtain ⟨es, c, rfl, h6⟩ := onMapO_some.1 h5
    rw [og_some, bc_and, ob_some] at h6
    obtain ⟨⟨hall, hlen⟩, l, hun, h7⟩ := h6
    rw [Nat.beq_eq] at hlen
    clear h3 h4 h5
    obtain ⟨arr, clk, hb, _, hclk, l0, hl1, hl2, hl3, hl4, hl5⟩ := hM.map hg he
    obtain rfl := hclk hlen
    have hl5 := hl5 hlen
    rw [hl5] at hun hall
    obtain ⟨h8, h9⟩ := keepB_ok es l0 l hl2 hl3 hun
    have hf1 : ((arr.filter fun e => !seen.toArray.contains e.born)).toList.Perm (l0.filter fun e => !seen.contains e.born) := by
      rw [Array.toList_filter]
      have := filter_of_perm hl1 (fun e => !seen.contains e.born)
      simpa using this.symm
    have hborn : ∀ e ∈ arr.toList, e.born < since := fun e he => by
      have he' := hl1.symm.subset he
      rw [List.all_eq_true] at hall
      have := hall e.born (List.mem_map.2 ⟨e, he', rfl⟩)
      rw [Nat.ble_eq] at this; omega
    obtain ⟨left, hleft⟩ : ∃ left, left = arr.filter fun e => !seen.toArray.contains e.born := ⟨_, rfl⟩
    have hold : left.filter (fun e => decide (e.born < since)) = left := by
      rw [hleft]
      apply Array.toList_inj.1
      rw [Array.toList_filter, List.filter_eq_self]
      intro e he
      rw [Array.toList_filter] at he
      simp [hborn e (List.mem_filter.1 he).1]
    have hnew : left.filter (fun e => decide (e.born ≥ since)) = #[] := by
      rw [hleft]
      apply Array.toList_inj.1
      rw [Array.toList_filter, Array.toList_filter]
      simp only [Array.toList_empty]
      rw [List.filter_eq_nil_iff]
      intro e he
      have := hborn e (List.mem_filter.1 he).1
      simp; omega
    have hcheck : (seen.isEmpty = true ∨ es.isEmpty = true ∨ (c.bs.any fun b => Nat.ble (b + 1) last) = true) → (!seen.toArray.isEmpty && !arr.isEmpty && arr.all (fun e => decide (e.born ≥ last))) = false := by
      rintro (h | h | h)
      · have : seen = [] := by simpa using h
        subst this; rfl
      · have h0 : es = [] := by simpa using h
        subst h0
        have : l0 = [] := by simpa using hl2
        subst this
        have : arr = #[] := by apply Array.toList_inj.1; simpa using hl1
        subst this
        simp
      · rw [hl5, List.any_eq_true] at h
        obtain ⟨b', hb', hlt⟩ := h
        obtain ⟨e, he, rfl⟩ := List.mem_map.1 hb'
        rw [Nat.ble_eq] at hlt
        have he' := hl1.subset he
        have : arr.all (fun e => decide (e.born ≥ last)) = false := by
          rw [Array.all_eq_false']
          exact ⟨e, by simpa using he', by simp; omega⟩
        rw [this]; simp
    cases l with
    | nil =>
      have h10 : og (bc (seen.isEmpty) true (bc (es.isEmpty) true (c.bs.any fun b => Nat.ble (b + 1) last))) (some (AV.tuple [.bool false], A)) = some (v, A') := h7
      rw [og_some] at h10
      obtain ⟨h11, h12⟩ := h10
      cases h12
      have hck := hcheck (by cases h1 : seen.isEmpty; right; rw [h1, bc_false] at h11; cases h2 : es.isEmpty; right; rw [h2, bc_false] at h11; exact h11; left; rfl; left; rfl)
      have hl0 : left = #[] := by
        apply Array.toList_inj.1
        rw [hleft]
        have : (l0.filter fun e => !seen.contains e.born) = [] := by simpa using h8
        rw [this] at hf1
        simpa using hf1
      refine ActOk.value (v' := .tuple #[.bool false]) (w' := w) ?_ (Stp.refl hM) hover
      have hch : (choose (.mapNext 1)).run P w = .ok 0 w := by rw [run_choose, if_pos (by simp [Question.forced])]
      simp only [execOp, ho, hx, Instr.next, Sem.run_bind, run_getObj hbi (by simp), run_getObj hb (by simp), Result.andThen_ok, hck, Bool.false_eq_true, if_false, ← hleft, hl0, Sem.run_pure]
      simp [hch]
    | cons q r =>
      have h10 : og (bc (r.isEmpty) (bc (seen.isEmpty) true (c.bs.any fun b => Nat.ble (b + 1) last)) false) (some (AV.tuple [.bool true, q.1.1, q.1.2], A.set i (.mapIter (some n) since (seen ++ [q.2]) c.clock))) = some (v, A') := h7
      rw [og_some, bc_and] at h10
      obtain ⟨⟨hre, h11⟩, h12⟩ := h10
      cases h12
      have hr0 : r = [] := by simpa using hre
      subst hr0
      have hck := hcheck (by cases h1 : seen.isEmpty; right; rw [h1, bc_false] at h11; right; exact h11; left; rfl)
      obtain ⟨e, hle⟩ : ∃ e, (l0.filter fun e => !seen.contains e.born) = [e] := List.length_eq_one_iff.1 h8
      obtain ⟨hk1, hk2, hk3⟩ := h9 0 q e (by simp) (by rw [hle]; rfl)
      have hl0 : left = #[e] := by
        apply Array.toList_inj.1
        rw [hleft]
        rw [hle] at hf1
        exact List.perm_singleton.1 hf1
      rw [hl0] at hold hnew
      have hbis := (Array.getElem?_eq_some_iff.1 hbi).1
      have hset : ∀ (o' : Obj), (setObj bi o').run P w = .ok () { w with heap := w.heap.setIfInBounds bi o' } := fun o' => by simp [setObj, Sem.run, hbi]
      refine ActOk.value (v' := .tuple #[.bool true, e.key, e.val]) (w' := { w with heap := w.heap.setIfInBounds bi (.mapIter (some b) since (seen.toArray.push e.born) c.clock) }) ?_ (Stp.set hM hgi rfl rfl hei rfl ⟨b, κ, he, by rw [hk3]; simp⟩ rfl rfl rfl rfl) (by simp only [VR]; exact ⟨_, rfl, by simp only [VRL]; exact ⟨_, _, rfl, by simp [VR], _, _, rfl, hk1, _, _, rfl, hk2, rfl⟩⟩)
      have hch : (choose (.mapNext 1)).run P w = .ok 0 w := by rw [run_choose, if_pos (by simp [Question.forced])]
      simp only [execOp, ho, hx, Instr.next, Sem.run_bind, run_getObj hbi (by simp), run_getObj hb (by simp), Result.andThen_ok, hck, Bool.false_eq_true, if_false, ← hleft, hl0, hold, hnew, Sem.run_pure]
      simp [hch, hset]

theorem kEntry_ok {call : CallFn} {a : Act} {o : Oper} {it : Operand} (ho : o.op = .entry it) (h : kEntry it P call ρ A = some (v, A')) (hG : Good E ρ a.eval) (hM : MR E A w) : ActOk P E A w a o v A' := by
  simp only [kEntry, ob_some] at h
  obtain ⟨p, hp, h⟩ := h
  obtain ⟨i, off, rfl, h'⟩ := onPtr_some.1 h
  rw [og_some, Nat.beq_eq] at h'
  obtain ⟨rfl, h'⟩ := h'
  obtain ⟨_, hgi, h2⟩ := ob_some.1 h'
  obtain ⟨m, since, seen, stepped, rfl, h3⟩ := onIter_some.1 h2
  obtain ⟨n, hmn, h3a⟩ := ob_some.1 h3
  subst hmn
  obtain ⟨b0, hb0, h3b⟩ := ob_some.1 h3a
  obtain ⟨_, hg, h5⟩ := ob_some.1 h3b
  obtain ⟨es, c, rfl, h6⟩ := onMapO_some.1 h5
  rw [og_some, bc_and, Nat.beq_eq, Nat.beq_eq, lenN_eq, lenN_eq, ob_some] at h6
  obtain ⟨⟨hclk, hlen⟩, l, hun, h7⟩ := h6
  clear h h' h2 h5
  have hx := hG it _ hp
  simp only [VR] at hx
  obtain ⟨bi, κi, hei, hx⟩ := hx
  obtain ⟨m', hbi, b, κ, he, rfl⟩ := hM.iter hgi hei
  obtain ⟨arr, clk, hb, _, hclk0, l0, hl1, hl2, hl3, hl4, hl5⟩ := hM.map hg he
  obtain rfl := hclk0 hlen
  have hl5 := hl5 hlen
  rw [hl5] at hun
  obtain ⟨h8, h9⟩ := keepB_ok es l0 l hl2 hl3 hun
  cases l with
  | nil => cases h7
  | cons q r =>
    have h10 : og r.isEmpty (some (AV.tuple [q.1.1, q.1.2], A)) = some (v, A') := h7
    rw [og_some] at h10
    obtain ⟨hre, h12⟩ := h10
    cases h12
    have hr0 : r = [] := by simpa using hre
    subst hr0
    obtain ⟨e, hle⟩ : ∃ e, (l0.filter fun e => Nat.beq e.born b0) = [e] := List.length_eq_one_iff.1 h8
    obtain ⟨hk1, hk2, hk3⟩ := h9 0 q e (by simp) (by rw [hle]; rfl)
    have hf := filter_of_perm hl1 (fun e => Nat.beq e.born b0)
    rw [hle] at hf
    have hf' := List.singleton_perm.1 hf
    have hfind : arr.find? (fun e => e.born == b0) = some e := by
      rw [← Array.find?_toList, ← List.head?_filter]
      have : (fun e : MapEntry => e.born == b0) = fun e => Nat.beq e.born b0 := by funext e; rw [Bool.eq_iff_iff, beq_iff_eq, Nat.beq_eq]
      rw [this, ← hf']; rfl
    have hback : seen.toArray.back? = some b0 := by simpa [List.getLast?_eq_getElem?] using hb0
    refine ActOk.value (v' := .tuple #[e.key, e.val]) (w' := w) ?_ (Stp.refl hM) (by simp only [VR]; exact ⟨_, rfl, by simp only [VRL]; exact ⟨_, _, rfl, hk1, _, _, rfl, hk2, rfl⟩⟩)
    simp [execOp, ho, hx, Instr.entry, run_getObj hbi (by simp), run_getObj hb (by simp), hback, hclk, hfind]

theorem act_ok {call : CallFn} (hC : CallOk P call) {a : Act} {o : Oper} (h : actA o.op P call ρ A = some (v, A')) (hGl : Glb E) (hG : Good E ρ a.eval) (hM : MR E A w) (hF : Fresh E A A') : ActOk P E A w a o v A' := by
  cases ho : o.op <;> rw [ho] at h <;> first | (cases h; done) | skip
  case store => exact kStore_ok (call := call) ho h hG hM
  case mapUpdate => exact kUpdate_ok (call := call) (.inl ho) h hG hM
  case insert => exact kUpdate_ok (call := call) (.inr ho) h hG hM
  case range => exact kRange_ok (call := call) ho h hG hM hF
  case entry => exact kEntry_ok (call := call) ho h hG hM
  case next it s =>
    cases s with
    | true => cases h
    | false => exact kNext_ok (call := call) ho h hG hM
  case call c =>
    have h' : kActCall c P call ρ A = some (v, A') := h
    unfold kActCall at h'
    cases hcc : c.callee with
    | value g => rw [hcc] at h'; exact kValue_ok hC ho hcc h' hGl hG hM hF
    | invoke r name => rw [hcc] at h'; exact kInvoke_ok hC ho hcc h' hGl hG hM hF
    | builtin b =>
      rw [hcc] at h'
      cases b <;> simp only at h' <;> first | (cases h'; done) | skip
      case append => exact kAppendC_ok (call := call) ho hcc h' hG hM hF
      case copy => exact kCopy_ok (call := call) ho hcc h' hG hM
      case delete => exact kDelete_ok (call := call) ho hcc h' hG hM
      case clear => exact kClear_ok (call := call) ho hcc h' hG hM
end Go.Ev
