/- A law with an argument that comes in by one number out of few: the run is cut behind the place where that number is reckoned. No program in sight. -/
import Derived.Test.YtcpmgjnlnaigbaaGreatDoorEvV
set_option linter.unusedVariables false
set_option linter.unusedSimpArgs false
noncomputable section
namespace Go.Ev
open Go Go.RowKit

variable {P : Program} {E : Ren} {ρ : Env} {v : AV} {A A' : AH} {w : World} {t t' : Tp} {n : Nat} {a : Act}

/-- behind so many steps of a row of steps -/
def tailN (j : Nat) (c : Code) : Option Code :=
  Nat.rec (motive := fun _ => Code → Option Code) some (fun _ ih c => match c with | .seq _ b => ih b | _ => none) j c
def preRun (code : CodeFn) (n j : Nat) (c : Code) : Tp → AH → Option (Code × Tp × AH) :=
  Nat.rec (motive := fun _ => Code → Tp → AH → Option (Code × Tp × AH)) (fun c t h => some (c, t, h)) (fun _ ih c t h => match c with
    | .seq a b => (match code n a t h with | some (.normal, t1, h1) => ih b t1 h1 | _ => none)
    | _ => none) j c

theorem preRun_ok {code : CodeFn} (hcode : CodeOk P code) : ∀ (j : Nat) (c : Code) (t : Tp) (A : AH) (r : Code × Tp × AH), preRun code n j c t A = some r → A.next ≤ r.2.2.next ∧
    ∀ E a w Q m, Glb E → MR E A w → TR E t n a → Fresh E A r.2.2 → From E A w r.2.2 r.2.1 n a.defers (r.1.wpIn Fence.wide m P Q) → c.wpIn Fence.wide m P Q a w
  | 0, c, t, A, r, h => by
    have h' : some (c, t, A) = some r := h
    cases h'
    exact ⟨Nat.le_refl _, fun E a w Q m hGl hM hT hF hQ => hQ E a w (Stp.refl hM) hT (Ext.same _ _ _)⟩
  | j + 1, c, t, A, r, h => by
    cases c with
    | seq x y =>
      have h' : (match code n x t A with | some (.normal, t1, h1) => preRun code n j y t1 h1 | _ => none) = some r := h
      cases hx : code n x t A with
      | none => rw [hx] at h'; cases h'
      | some z =>
        obtain ⟨e1, t1, A1⟩ := z
        rw [hx] at h'
        cases e1 with
        | normal =>
          obtain ⟨hn1, hp1⟩ := hcode n x t A _ _ _ hx
          obtain ⟨hn2, hp2⟩ := preRun_ok hcode j y t1 A1 r h'
          refine ⟨Nat.le_trans hn1 hn2, fun E a w Q m hGl hM hT hF hQ => ?_⟩
          refine wpIn_seq (hp1 none E a w _ m (.inl rfl) hGl hM hT (hF.left hn2) fun E1 a1 w1 s1 hT1 x1 => ?_)
          exact hp2 E1 a1 w1 Q m (hGl.mono s1.le) s1.mr hT1 (hF.right s1) (hQ.then hF s1 x1)
        | _ => cases h'
    | _ => (have h' : none = some r := h); cases h'

/-- the end of a function that answers true -/
def okEnd (P : Program) (res : List ResultVar) (r : Out) : Bool :=
  match r with
  | some (.normal, t, h) => (match mapO (resA P t h) res with | some [.bool true] => true | _ => false)
  | some (.ret, t, h) => (match mapO (resA P t h) res with | some [.bool true] => true | _ => false)
  | _ => false
theorem okEnd_some {res : List ResultVar} {r : Out} (h : okEnd P res r = true) : ∃ e t A, r = some (e, t, A) ∧ (e = .normal ∨ e = .ret) ∧ mapO (resA P t A) res = some [.bool true] := by
  unfold okEnd at h
  split at h
  · rename_i t A
    split at h
    · rename_i hr; exact ⟨_, t, A, rfl, .inl rfl, hr⟩
    · cases h
  · rename_i t A
    split at h
    · rename_i hr; exact ⟨_, t, A, rfl, .inr rfl, hr⟩
    · cases h
  · cases h

/-- the run up to the cut, and its end, with another word for what was reckoned there -/
def cutRun (P : Program) (prims : Prims) (d k j slot : Nat) (f : FuncId) (args : List AV) (m : AV) : Bool :=
  match funcOf P f with
  | some x => (match preRun (evS P prims d k).code x.1 j x.2.2 (putArgs args 0 (n3 AV)) heap0 with
    | some r => bc (Nat.ble (slot + 1) x.1) (okEnd P x.2.1 ((evS P prims d k).code x.1 r.1 (put3 r.2.1 slot m) r.2.2)) false
    | none => false)
  | none => false
def cutAt (P : Program) (prims : Prims) (d k j slot : Nat) (f : FuncId) (args : List AV) : Option AV :=
  match funcOf P f with
  | some x => (match preRun (evS P prims d k).code x.1 j x.2.2 (putArgs args 0 (n3 AV)) heap0 with | some r => get3 r.2.1 slot | none => none)
  | none => none

theorem cut_law {prims : Prims} (hN : P.funcs.all (fun fn => !(fn.name == "runtime.NumGoroutine")) = true) (hm : P.follows .mixedOrders = true) (hp : PrimsOk P prims) {d k j slot : Nat} {f : FuncId} {args : List AV} {m : AV}
    (hfn : prims.fn f = none) (hslot : slot < 512) (h : cutRun P prims d k j slot f args m = true) (hat : cutAt P prims d k j slot f args = some m) {as : Array Value} (hargs : ∀ E, VRL E args as.toList) (hlen : ∀ x, funcOf P f = some x → args.length ≤ x.1) (w : World) :
    Calls P f as w fun e w' => e = .returned (.bool true) ∧ Below w.heap.size w w' := by
  unfold cutRun at h
  unfold cutAt at hat
  split at h
  case h_2 => cases h
  rename_i x hx
  rw [hx] at hat
  simp only at hat
  split at h
  case h_2 => cases h
  rename_i r hr
  rw [hr] at hat
  simp only at hat
  rw [bc_and] at h
  obtain ⟨hsl, h⟩ := h
  obtain ⟨e, t1, A1, hrun, he, hres⟩ := okEnd_some h
  obtain ⟨fn, hf, hb, hnt, hx1, hx2⟩ := funcOf_some hx
  rw [hx1] at hr hrun
  rw [hx2] at hres
  obtain ⟨hcode, _⟩ := ev_ok hN hm hp (fun _ hC => draw_ok hC) d k
  obtain ⟨hn1, hp1⟩ := preRun_ok (n := fn.ntmps) hcode j x.2.2 _ _ r hr
  obtain ⟨hn2, hp2⟩ := hcode fn.ntmps r.1 _ _ _ _ _ hrun
  have hM : MR ren0 heap0 w := ⟨fun n o h => (by rw [heap0_get] at h; cases h), fun n m o p b κ κ' h => (by rw [heap0_get] at h; cases h)⟩
  have hF : Fresh ren0 heap0 A1 := fun n h1 h2 => by
    have h3 : 1000 ≤ n := h1
    unfold ren0
    rw [if_neg (by omega)]
  have hGl : Glb ren0 := fun g hg => ⟨0, by unfold ren0; rw [if_pos hg]⟩
  have hlenA := hlen x hx
  rw [hx1] at hlenA
  have hl := (hargs ren0).length
  have hsz : as.size = args.length := by simpa using hl
  have hT : TR ren0 (putArgs args 0 (n3 AV)) fn.ntmps { tmps := as ++ Array.replicate (fn.ntmps - as.size) undef, defers := [] } := by
    refine ⟨by simp; omega, hnt, fun i u hu => ?_⟩
    rw [putArgs_get args 0 _ i (by omega)] at hu
    split at hu
    · obtain ⟨u', h1, h2⟩ := (hargs ren0).get hu
      refine ⟨u', ?_, h2⟩
      have hi := (List.getElem?_eq_some_iff.1 h1).1
      rw [Array.getElem?_append_left (by simpa using hi)]
      simpa using h1
    · rw [get3_n3] at hu; cases hu
  have key : Calls P f as w fun e w' => ∃ E' v', e = .returned v' ∧ VR E' (.bool true) v' ∧ Stp ren0 heap0 w E' A1 w' := by
    refine callsIn_wide.1 (callsIn_of_wp_marks (n := 0) hf hb trivial ?_ rfl)
    refine hp1 ren0 _ w _ 0 hGl hM hT (hF.left hn2) fun E1 a1 w1 s1 hT1 x1 => ?_
    have hT2 : TR E1 (put3 r.2.1 slot m) fn.ntmps a1 := ⟨hT1.size, hT1.lim, fun i u hu => by
      rw [get3_put3 _ _ _ _ hslot] at hu
      split at hu
      · rename_i hi; subst hi; cases hu; exact hT1.val i _ hat
      · exact hT1.val i u hu⟩
    refine hp2 none E1 a1 w1 _ 0 (.inl rfl) (hGl.mono s1.le) s1.mr hT2 (hF.right s1) fun E2 a2 w2 s2 hT3 x2 => ?_
    have s12 := s1.trans s2 hF
    have x12 := x1.trans s1.frm.size s1.mr s2 x2
    obtain ⟨ms, hd, hnd, hms⟩ := x12
    have hd' : a2.defers = ms.map mk := by simpa using hd
    have fin : LeavesInM Fence.wide 0 P fn a2.tmps (fun e w' => ∃ E' v', e = .returned v' ∧ VR E' (.bool true) v' ∧ Stp ren0 heap0 w E' A1 w') a2.defers .returning w2 := by
      rw [hd']
      refine leaves_marks (fun W s => ?_) ms w2 hnd hms s12
      obtain ⟨v', h5, h6⟩ := results_ok (P := P) s.mr hT3 hres
      exact ⟨v', h6, E2, v', rfl, h5, s⟩
    rcases he with rfl | rfl
    · exact fin
    · exact fin
  refine key.mono ?_
  rintro e w' ⟨E', v', rfl, hv, s⟩
  simp only [VR] at hv
  subst hv
  refine ⟨rfl, s.frm.os, s.frm.tape, s.frm.output, s.frm.size, fun b hb => s.frm.block b hb ?_⟩
  rintro ⟨n, o, κ, h3, _⟩
  rw [heap0_get] at h3
  cases h3
end Go.Ev
