/- Chapter 12: what is open. -/
import Derived.Test.YtkmncmceheggjaaDoorGc
import Derived.Maps.AppendAt
import Derived.Laws.OwnMore
import Derived.BigQuiet
namespace Go.Proofs.YtkmncmceheggjaaDoor
open Go.RowKit
set_option linter.unusedVariables false
set_option linter.unusedSimpArgs false

/-- what is open, the innermost first, as cells -/
def icells (k : List Int) : List Value := k.reverse.map (.int .i64)
theorem icells_len (k : List Int) : (icells k).length = k.length := by simp [icells]
theorem icells_cons (a : Int) (k : List Int) : icells (a :: k) = icells k ++ [.int .i64 a] := by simp [icells]
theorem icells_top (a : Int) (k : List Int) : (icells (a :: k))[k.length]? = some (.int .i64 a) := by
  rw [icells_cons, List.getElem?_append_right (by rw [icells_len]; omega)]; simp [icells_len]
theorem icells_set (a b : Int) (k : List Int) : (icells (a :: k)).set k.length (.int .i64 b) = icells (b :: k) := by
  rw [icells_cons, icells_cons, List.set_append_right _ _ (by rw [icells_len]; omega)]; simp [icells_len]

def closeL : List Int → List Int
  | [] => []
  | a :: k => if 0 < a - 1 then (a - 1) :: k else closeL k

theorem ownsRow_pop {w : World} {base : Nat} {e : TypeId} {g cap : Nat} {p : Int} {rest : List Int} (h : w.ownsRow base e 1 (.slice (some ⟨g, 0, none⟩) (rest.length + 1) cap) (rest.length + 1) (icells (p :: rest))) :
    w.ownsRow base e 1 (.slice (some ⟨g, 0, none⟩) rest.length cap) rest.length (icells rest) := by
  obtain ⟨h1, h2⟩ := h
  rcases h2 with ⟨h0, _⟩ | ⟨g', cap', cur, hv, hg, hh, hn, hcap, hsz, htake⟩
  · cases h0
  · cases hv
    refine ⟨by rw [icells_len]; omega, .inr ⟨g, cap, cur, rfl, hg, hh, by omega, hcap, hsz, ?_⟩⟩
    have h3 : (cur.toList.take ((rest.length + 1) * 1)).take (rest.length * 1) = (icells (p :: rest)).take (rest.length * 1) := by rw [htake]
    rw [List.take_take, Nat.min_eq_left (by omega)] at h3
    rw [h3, icells_cons]
    have := icells_len rest
    rw [show rest.length * 1 = (icells rest).length by omega]
    simp

def lenV : Value → Nat | .slice _ n _ => n | _ => 0

set_option maxRecDepth 100000 in
set_option maxHeartbeats 2000000 in
theorem close_any (g cap base : Nat) (k : List Int) (w : World) (hown : w.ownsRow base 3 1 (.slice (some ⟨g, 0, none⟩) k.length cap) k.length (icells k)) (hk : ∀ a ∈ k, 1 ≤ a ∧ a ≤ 2) :
    Calls Tryd.prog 29 #[.slice (some ⟨g, 0, none⟩) k.length cap] w fun e w' => e = .returned (.slice (some ⟨g, 0, none⟩) (closeL k).length cap) ∧ w'.ownsRow base 3 1 (.slice (some ⟨g, 0, none⟩) (closeL k).length cap) (closeL k).length (icells (closeL k)) ∧ w.grownBy w' (some g) := by
  have HK := Lib.hid hk; clear hk
  go_enter Tryd.func29, Tryd.ntmps29
  go_wp2_with (fail)
  go_loopw [0] (fun v wr => ∃ l : List Int, v = .slice (some ⟨g, 0, none⟩) l.length cap ∧ wr.ownsRow base 3 1 (.slice (some ⟨g, 0, none⟩) l.length cap) l.length (icells l) ∧ w.grownBy wr (some g) ∧ Hid (closeL l = closeL k) ∧ Hid (∀ a ∈ l, 1 ≤ a ∧ a ≤ 2)) (fun v wr => lenV v)
  case atStart => exact ⟨k, rfl, hown, ⟨rfl, rfl, rfl, Nat.le_refl _, fun _ _ _ => rfl⟩, Lib.hid rfl, HK⟩
  case round =>
    obtain ⟨l, rfl, hl, hgr, HC, HL⟩ := hrel
    have hcap : l.length ≤ cap ∧ cap ≤ 9223372036854775807 := by
      rcases hl.2 with ⟨h0, _⟩ | ⟨g', cap', cur, hv, _, _, hn, hc, _⟩
      · cases h0
      · cases hv; exact ⟨hn, hc⟩
    obtain ⟨hcap1, hcap2⟩ := hcap
    cases l with
    | nil =>
      have e : closeL k = [] := by rw [← HC.out]; rfl
      simp only [List.length_nil] at hl ⊢
      go_wp2
      go_ret
      rw [e]
      exact ⟨rfl, hl, hgr⟩
    | cons a rest =>
      obtain ⟨ha1, ha2⟩ := HL.out a (by simp)
      have HL2 := Lib.hid (fun b hb => HL.out b (List.mem_cons_of_mem _ hb))
      clear HL
      simp only [List.length_cons] at hl hcap1 ⊢
      have ct := (hl.cellAt rest.length (by omega)).trans (icells_top a rest)
      have cf := hl.frozenAt rest.length
      obtain ⟨hs1, hs2⟩ := hl.stored rest.length (.int .i64 (a - 1))
      rw [icells_set] at hs1
      have ct2 := (hs1.cellAt rest.length (by omega)).trans (icells_top (a - 1) rest)
      have cf2 := hs1.frozenAt rest.length
      have hgr2 := hgr.trans hs2
      obtain ⟨W, hW⟩ : ∃ W, W = wr.setCell ⟨g, rest.length, none⟩ (.int .i64 (a - 1)) := ⟨_, rfl⟩
      rw [← hW] at hs1 ct2 cf2 hgr2
      clear hs2
      have hwr : IntKind.i64.wrap (rest.length : Int) = (rest.length : Int) := by rw [IntKind.wrap_i64]; omega
      have hwa : IntKind.i64.wrap (a - 1) = a - 1 := by rw [IntKind.wrap_i64]; omega
      have hix2 : (rest.length : Int) < ((rest.length + 1 : Nat) : Int) := by omega
      have hix3 : rest.length < rest.length + 1 := by omega
      go_wp2
      · rename_i h1
        have e : closeL k = (a - 1) :: rest := by rw [← HC.out]; simp [closeL]; omega
        rw [← hW]
        go_ret
        rw [e]
        exact ⟨rfl, hs1, hgr2⟩
      · rename_i h1
        have e : closeL rest = closeL k := by rw [← HC.out]; simp [closeL]; omega
        rw [← hW]
        exact ⟨⟨rest, rfl, ownsRow_pop hs1, hgr2, Lib.hid e, HL2⟩, by simp [lenV]⟩

end Go.Proofs.YtkmncmceheggjaaDoor
