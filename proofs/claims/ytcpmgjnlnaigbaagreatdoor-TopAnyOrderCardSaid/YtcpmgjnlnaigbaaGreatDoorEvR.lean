/- Calls; the whole; but for regions whose order is drawn. -/
import Derived.Test.YtcpmgjnlnaigbaaGreatDoorEvX
import Derived.RangeFuncLeaves
set_option linter.unusedVariables false
set_option linter.unusedSimpArgs false
namespace Go.Ev
open Go Go.RowKit

variable {P : Program} {E : Ren} {ρ : Env} {v : AV} {A A' : AH} {w : World} {t t' : Tp} {n : Nat} {a : Act}

/-- a result, read -/
def resS (tmps : Array Value) : ResultVar → Sem Value
  | .tmp t => pure (tmps.getD t undef)
  | .cell a t => do loadVar t (← asAddr (tmps.getD a undef))

theorem resA_ok (hM : MR E A w) (hT : TR E t n a) {r : ResultVar} (h : resA P t A r = some v) : ∃ v', VR E v v' ∧ (resS a.tmps r).run P w = .ok v' w := by
  cases r with
  | tmp i =>
    have h' : get3 t i = some v := h
    obtain ⟨v', h1, h2⟩ := hT.val i v h'
    exact ⟨v', h2, by simp [resS, Array.getD_eq_getD_getElem?, h1]⟩
  | cell b ty =>
    have h' : (ob (get3 t b) fun p => onPtr p fun n o => ob (aggSize P ty) fun sz => rdAt sz A n o) = some v := h
    simp only [ob_some] at h'
    obtain ⟨p, hp, h'⟩ := h'
    obtain ⟨m, o, rfl, h2⟩ := onPtr_some.1 h'
    obtain ⟨sz, hsz, h3⟩ := ob_some.1 h2
    obtain ⟨p', h4, h5⟩ := hT.val b _ hp
    simp only [VR] at h5
    obtain ⟨blk, κ, he, rfl⟩ := h5
    obtain ⟨v', h6, h7⟩ := rdAt_ok (P := P) hM h3 he hsz
    exact ⟨v', h6, by simp [resS, Array.getD_eq_getD_getElem?, h4, asAddr, h7]⟩

theorem resL_ok (hM : MR E A w) (hT : TR E t n a) : ∀ {l : List ResultVar} {vs : List AV}, mapO (resA P t A) l = some vs → ∃ vs' : List Value, VRL E vs vs' ∧ (l.mapM (resS a.tmps)).run P w = .ok vs' w
  | [], vs, h => by
    rw [mapO_nil] at h
    cases h
    exact ⟨[], by simp [VRL], by simp⟩
  | r :: l, vs, h => by
    simp only [mapO_cons, ob_some, om_some] at h
    obtain ⟨y, hy, r', hr, rfl⟩ := h
    obtain ⟨v', h1, h2⟩ := resA_ok (P := P) hM hT hy
    obtain ⟨vs', h3, h4⟩ := resL_ok hM hT hr
    exact ⟨v' :: vs', by simp only [VRL]; exact ⟨_, _, rfl, h1, h3⟩, by simp [List.mapM_cons, h2, h4]⟩

theorem results_ok (hM : MR E A w) (hT : TR E t n a) {fn : Func} {vs : List AV} (h : mapO (resA P t A) fn.results.toList = some vs) : ∃ v', VR E (resOf vs) v' ∧ (results fn a.tmps).run P w = .ok v' w := by
  obtain ⟨vs', h1, h2⟩ := resL_ok (P := P) hM hT h
  have hres : results fn a.tmps = (do let vs ← fn.results.mapM (resS a.tmps); pure (if h : vs.size = 1 then vs[0] else .tuple vs)) := by
    unfold results
    congr 1
    first | done | (congr 1; funext r; cases r <;> rfl)
  have hm : (fn.results.mapM (resS a.tmps)).run P w = .ok vs'.toArray w := by
    have : fn.results.mapM (resS a.tmps) = List.toArray <$> fn.results.toList.mapM (resS a.tmps) := by
      rw [← List.mapM_toArray, Array.toArray_toList]
    rw [this, map_eq_pure_bind]
    simp [h2]
  rw [hres]
  simp only [Sem.run_bind, hm, Result.andThen_ok, Sem.run_pure]
  have hl := h1.length
  unfold resOf
  split
  · rename_i u
    simp only [VRL] at h1
    obtain ⟨y, s, rfl, h3, rfl⟩ := h1
    exact ⟨y, h3, rfl⟩
  · rename_i hne
    refine ⟨.tuple vs'.toArray, by simp only [VR]; exact ⟨_, rfl, h1⟩, ?_⟩
    rw [dif_neg]
    intro h1'
    simp only [List.size_toArray] at h1'
    rw [hl] at h1'
    obtain ⟨u, hu⟩ := List.length_eq_one_iff.1 h1'
    exact hne u hu

theorem putArgs_get : ∀ (l : List AV) (i : Nat) (t : Tp) (j : Nat), i + l.length ≤ 512 → get3 (putArgs l i t) j = if i ≤ j ∧ j < i + l.length then l[j - i]? else get3 t j
  | [], i, t, j, _ => by rw [if_neg (by intro h; simp only [List.length_nil] at h; omega)]; rfl
  | v :: l, i, t, j, h => by
    simp only [List.length_cons] at h
    show get3 (putArgs l (i + 1) (put3 t i v)) j = _
    rw [putArgs_get l (i + 1) _ j (by omega)]
    simp only [List.length_cons]
    by_cases h1 : i + 1 ≤ j ∧ j < i + 1 + l.length
    · rw [if_pos h1, if_pos (by omega)]
      obtain ⟨m, hm⟩ : ∃ m, j = i + 1 + m := ⟨j - (i + 1), by omega⟩
      rw [hm, show i + 1 + m - (i + 1) = m by omega, show i + 1 + m - i = m + 1 by omega]
      simp
    · rw [if_neg h1, get3_put3 _ _ _ _ (by omega)]
      by_cases h2 : j = i
      · subst h2; rw [if_pos rfl, if_pos (by omega)]; simp
      · rw [if_neg h2, if_neg (by omega)]

/-- the functions that are taken as they are known -/
structure PrimsOk (P : Program) (prims : Prims) : Prop where
  fn : ∀ f p, prims.fn f = some p → CallOk P fun g xs A => bc (Nat.beq g f) (p xs A) none
  back : BacksOk P prims.back

theorem funcOf_some {f : FuncId} {x : Nat × List ResultVar × Code} (h : funcOf P f = some x) : ∃ fn, P.funcs[f]? = some fn ∧ fn.body = some x.2.2 ∧ fn.ntmps ≤ 512 ∧ x.1 = fn.ntmps ∧ x.2.1 = fn.results.toList := by
  unfold funcOf at h
  split at h
  · rename_i fn hfn
    split at h
    · rename_i b hb
      cases hle : Nat.ble fn.ntmps 512 with
      | true =>
        rw [hle, bc_true] at h
        cases h
        exact ⟨fn, hfn, hb, Nat.le_of_ble_eq_true hle, rfl, rfl⟩
      | false => rw [hle, bc_false] at h; cases h
    · cases h
  · cases h

/-- what is no part of the heap may turn -/
theorem stp_mark {X : AH} {E1 : Ren} {W : World} (s : Stp E A w E1 X W) {m : Nat} (hm : w.heap.size ≤ m) (h : W.heap[m]? = some (.deferred (some []))) : Stp E A w E1 X (W.putObj m (.deferred none)) := by
  have hg := grownBy_putObj' W m (.deferred none)
  refine ⟨s.le, s.dom, ⟨hg.os.trans s.frm.os, hg.tape.trans s.frm.tape, hg.output.trans s.frm.output, Nat.le_trans s.frm.size hg.size, fun b hb hn => ?_⟩, ⟨fun n o ho => ?_, s.mr.inj⟩, s.nxt, s.old⟩
  · exact (hg.block b (Nat.lt_of_lt_of_le hb s.frm.size) fun e => by cases e; omega).trans (s.frm.block b hb hn)
  · obtain ⟨h1, b, κ, h2, o', h3, h4⟩ := s.mr.blk n o ho
    refine ⟨h1, b, κ, h2, ?_⟩
    have hlt := (Array.getElem?_eq_some_iff.1 h3).1
    by_cases e : b = m
    · subst e
      rw [h] at h3
      cases h3
      have hlt' : b < (W.putObj b (.deferred none)).heap.size := Nat.lt_of_lt_of_le hlt hg.size
      refine ⟨_, Array.getElem?_eq_getElem hlt', ?_⟩
      cases o with
      | dead => trivial
      | cells cs g ro => obtain ⟨arr, e, fr, h, _⟩ := h4; cases h
      | map es c => obtain ⟨arr, _, h, _⟩ := h4; cases h
      | mapIter mm _ _ _ =>
        cases mm with
        | none => have : Obj.deferred (some []) = Obj.mapIter none _ _ _ := h4; cases this
        | some n => obtain ⟨_, _, _, h⟩ := h4; cases h
    · exact ⟨o', (hg.block b hlt fun e' => by cases e'; exact e rfl).trans h3, h4⟩

theorem leaves_marks {fn : Func} {tmps : Array Value} {X : AH} {E1 : Ren} {R : Ending → World → Prop} {F : Fence} {k : Nat} (hfin : ∀ W, Stp E A w E1 X W → LeavesInM F k P fn tmps R [] .returning W) :
    ∀ (ms : List Nat) (W : World), ms.Nodup → (∀ m ∈ ms, w.heap.size ≤ m ∧ W.heap[m]? = some (.deferred (some []))) → Stp E A w E1 X W → LeavesInM F k P fn tmps R (ms.map mk) .returning W
  | [], W, _, _, s => hfin W s
  | m :: ms, W, hn, hm, s => by
    obtain ⟨h1, h2⟩ := hm m (by simp)
    rw [List.nodup_cons] at hn
    refine ⟨by simp, .inl ⟨m, _, rfl, run_takeDeferred h2, ?_⟩⟩
    refine leaves_marks hfin ms _ hn.2 (fun j hj => ?_) (stp_mark s h1 h2)
    obtain ⟨h3, h4⟩ := hm j (by simp [hj])
    exact ⟨h3, (World.putObj_heap_other (fun e => hn.1 (by rw [← e]; exact hj))).trans h4⟩

theorem call_ok {code : CodeFn} {prims : Prims} (hN : P.funcs.all (fun fn => !(fn.name == "runtime.NumGoroutine")) = true) (hp : PrimsOk P prims) (hcode : CodeOk P code) : CallOk P (callA P prims code) := by
  intro g xs A v A' h
  have h' : (Option.casesOn (motive := fun _ => Option (AV × AH)) (prims.fn g)
    (ob (funcOf P g) fun x => og (Nat.ble (lenN xs) x.1) (atEnd (code x.1 x.2.2 (putArgs xs 0 (n3 AV)) A) fun t h' => om (mapO (resA P t h') x.2.1) fun l => (resOf l, h')))
    (fun p => p xs A)) = some (v, A') := h
  cases hpr : prims.fn g with
  | some p =>
    rw [hpr] at h'
    have h2 : p xs A = some (v, A') := h'
    exact hp.fn g p hpr g xs A v A' (by simp only [Nat.beq_refl, bc_true]; exact h2)
  | none =>
    rw [hpr] at h'
    have h2 : (ob (funcOf P g) fun x => og (Nat.ble (lenN xs) x.1) (atEnd (code x.1 x.2.2 (putArgs xs 0 (n3 AV)) A) fun t h' => om (mapO (resA P t h') x.2.1) fun l => (resOf l, h'))) = some (v, A') := h'
    rw [ob_some] at h2
    obtain ⟨x, hx, h2⟩ := h2
    rw [og_some, Nat.ble_eq, lenN_eq] at h2
    obtain ⟨hlen, h2⟩ := h2
    obtain ⟨fn, hfn, hb, hnt, hx1, hx2⟩ := funcOf_some hx
    rw [hx1] at hlen h2
    rw [hx2] at h2
    have hname : (fn.name == "runtime.NumGoroutine") = false := by
      have := (Array.all_eq_true_iff_forall_mem.1 hN) fn (Array.mem_of_getElem? hfn)
      simpa using this
    refine ⟨⟨fn, _, hfn, hname, hb⟩, fun E w args hGl hM hargs hF => callsIn_wide.1 (callsIn_of_wp_marks (n := 0) hfn hb trivial ?_ rfl)⟩
    unfold atEnd at h2
    rw [ob_some] at h2
    obtain ⟨⟨e, t1, A1⟩, hcd, h3⟩ := h2
    have hl := hargs.length
    have hT : TR E (putArgs xs 0 (n3 AV)) fn.ntmps { tmps := args ++ Array.replicate (fn.ntmps - args.size) undef, defers := [] } := by
      have hsz : args.size = xs.length := by simpa using hl
      refine ⟨by simp; omega, hnt, fun i u hu => ?_⟩
      rw [putArgs_get xs 0 _ i (by omega)] at hu
      split at hu
      · obtain ⟨u', h1, h2⟩ := hargs.get hu
        refine ⟨u', ?_, h2⟩
        have hi := (List.getElem?_eq_some_iff.1 h1).1
        rw [Array.getElem?_append_left (by simpa using hi)]
        simpa using h1
      · rw [get3_n3] at hu; cases hu
    have fin : (e = .normal ∨ e = .ret) → (om (mapO (resA P t1 A1) fn.results.toList) fun l => (resOf l, A1)) = some (v, A') → x.2.2.wpIn Fence.wide 0 P (bodyPostM Fence.wide 0 P fn fun e w' => ∃ E' v', e = .returned v' ∧ VR E' v v' ∧ Stp E A w E' A' w') { tmps := args ++ Array.replicate (fn.ntmps - args.size) undef, defers := [] } w := by
      intro he h4
      rw [om_some] at h4
      obtain ⟨vs, hvs, h4⟩ := h4
      cases h4
      obtain ⟨hn, hp⟩ := hcode fn.ntmps x.2.2 _ _ _ _ _ hcd
      refine hp none E _ w _ 0 (.inl rfl) hGl hM hT hF fun E1 a1 w1 s1 hT1 x1 => ?_
      obtain ⟨ms, hd, hnd, hms⟩ := x1
      have hd' : a1.defers = ms.map mk := by simpa using hd
      have key : LeavesInM Fence.wide 0 P fn a1.tmps (fun e w' => ∃ E' v', e = .returned v' ∧ VR E' (resOf vs) v' ∧ Stp E A w E' A' w') a1.defers .returning w1 := by
        rw [hd']
        refine leaves_marks (fun W s => ?_) ms w1 hnd hms s1
        obtain ⟨v', h5, h6⟩ := results_ok (P := P) s.mr hT1 hvs
        exact ⟨v', h6, E1, v', rfl, h5, s⟩
      rcases he with rfl | rfl
      · exact key
      · exact key
    cases e with
    | normal => exact fin (.inl rfl) h3
    | ret => exact fin (.inr rfl) h3
    | exit _ => cases h3
    | goto _ => cases h3

theorem ev_ok {prims : Prims} (hN : P.funcs.all (fun fn => !(fn.name == "runtime.NumGoroutine")) = true) (hm : P.follows .mixedOrders = true) (hp : PrimsOk P prims) (hdraw : ∀ call, CallOk P call → DrawOk P call) (d : Nat) : ∀ k, CodeOk P (evS P prims d k).code ∧ CallOk P (evS P prims d k).call
  | 0 => ⟨fun n c t A e t' A' h => (by cases h), fun g xs A v A' h => (by cases h)⟩
  | k + 1 => by
    obtain ⟨h1, h2⟩ := ev_ok hN hm hp hdraw d k
    exact ⟨code_ok d hm hp.back h1 h2 (hdraw _ h2), call_ok hN hp h1⟩

/-- the empty heap -/
def heap0 : AH := { objs := .t (n5 AObj), next := 1000 }
theorem heap0_get (n : Nat) : heap0.get n = none := by
  have : ∀ n, get5 (n5 AObj) n = none := fun n => get5_n5 n
  exact this n
def ren0 : Ren := fun n => if n < 1000 then some (n, 0) else none

/-- a closed run: what the abstract machine answers, the call answers, and it leaves what was there -/
theorem closed_run {prims : Prims} (hN : P.funcs.all (fun fn => !(fn.name == "runtime.NumGoroutine")) = true) (hm : P.follows .mixedOrders = true) (hp : PrimsOk P prims) (hdraw : ∀ call, CallOk P call → DrawOk P call) {d k : Nat} {f : FuncId} {v : AV} {A' : AH}
    (h : (evS P prims d k).call f [] heap0 = some (v, A')) (w : World) :
    Calls P f #[] w fun e w' => ∃ E' v', e = .returned v' ∧ VR E' v v' ∧ w'.os = w.os ∧ w'.tape = w.tape ∧ w'.output = w.output ∧ w.heap.size ≤ w'.heap.size ∧ ∀ b, b < w.heap.size → w'.heap[b]? = w.heap[b]? := by
  have hM : MR ren0 heap0 w := ⟨fun n o h => (by rw [heap0_get] at h; cases h), fun n m o p b κ κ' h => (by rw [heap0_get] at h; cases h)⟩
  have hF : Fresh ren0 heap0 A' := fun n h1 h2 => by
    have h3 : 1000 ≤ n := h1
    unfold ren0
    rw [if_neg (by omega)]
  refine (((ev_ok hN hm hp hdraw d k).2 f [] heap0 v A' h).2 ren0 w #[] (fun g hg => ⟨0, by unfold ren0; rw [if_pos hg]⟩) hM (by simp [VRL]) hF).mono ?_
  rintro e w' ⟨E', v', rfl, h1, h2⟩
  refine ⟨E', v', rfl, h1, h2.frm.os, h2.frm.tape, h2.frm.output, h2.frm.size, fun b hb => h2.frm.block b hb ?_⟩
  rintro ⟨n, o, κ, h3, _⟩
  rw [heap0_get] at h3
  cases h3
end Go.Ev
