/- Chapter 11: the granters' calls, whatever they are asked; and that both granters stand alike. -/
import Derived.Test.YtjokjbihkejagaaLc
import Derived.Deep.RegionHeld3
namespace Go.Proofs.Ytjokjbihkejagaa
open Go.RowKit

def okN (now l : Int) : Prop := (0 ≤ now ∧ now ≤ 1073741824) ∧ (0 ≤ l ∧ l ≤ 1073741824)
noncomputable def okNB (now l : Int) : Bool := @decide (okN now l) (Classical.propDecidable _)
theorem okNB_yes {now l : Int} (h : okN now l) : okNB now l = true := by unfold okNB; exact @decide_eq_true _ (Classical.propDecidable _) h
theorem okNB_no {now l : Int} (h : ¬ okN now l) : okNB now l = false := by unfold okNB; exact @decide_eq_false _ (Classical.propDecidable _) h
theorem okN_not {now l : Int} (h : ¬ okN now l) : (now < 0 ∨ 1073741824 < now) ∨ (l < 0 ∨ 1073741824 < l) := by unfold okN at h; omega

noncomputable def askB (whom gn till node now l : Int) : Bool := decide (0 ≤ node) && okNB now l && !barB whom gn till node now

theorem ask_any (g : Nat) (whom gn till node now l : Int) (w : World) (hg : g < w.heap.size) (h : Gr w g whom gn till) :
    Calls Try.prog 13 #[.pointer (some ⟨g, 0, none⟩), .int .i64 node, .int .i64 now, .int .i64 l] w fun e w' => e = .returned (.bool (askB whom gn till node now l)) ∧
      Gr w' g (if askB whom gn till node now l then 1 else whom) (if askB whom gn till node now l then node else gn) (if askB whom gn till node now l then max till (now + l) else till) ∧ w.grownBy w' (some g) := by
  by_cases hn : 0 ≤ node
  · by_cases ho : okN now l
    · cases hb : barB whom gn till node now
      · have e : askB whom gn till node now l = true := by simp [askB, hn, okNB_yes ho, hb]
        rw [e]
        obtain ⟨⟨p1, p2⟩, p3, p4⟩ := ho
        exact ask_yes g whom gn till node now l w hg h hn p1 p2 p3 p4 hb
      · have e : askB whom gn till node now l = false := by simp [askB, hb]
        rw [e]
        exact (ask_no g whom gn till node now l w hg h (.inr (.inr hb))).mono fun _ _ ⟨he, hw⟩ => ⟨he, h.below hw hg, grownBy_below hw _⟩
    · have e : askB whom gn till node now l = false := by simp [askB, okNB_no ho]
      rw [e]
      exact (ask_no g whom gn till node now l w hg h (.inr (.inl (okN_not ho)))).mono fun _ _ ⟨he, hw⟩ => ⟨he, h.below hw hg, grownBy_below hw _⟩
  · have e : askB whom gn till node now l = false := by simp [askB, hn]
    rw [e]
    exact (ask_no g whom gn till node now l w hg h (.inl (by omega))).mono fun _ _ ⟨he, hw⟩ => ⟨he, h.below hw hg, grownBy_below hw _⟩

noncomputable def raskB (a b : Bool) (c d node now l : Int) : Bool := decide (0 ≤ node) && okNB now l && !rbarB a b c d node now

theorem rask_any (g : Nat) (a b : Bool) (c d node now l : Int) (w : World) (h : Rr w g a b c d) :
    Calls Try.prog 17 #[.pointer (some ⟨g, 0, none⟩), .int .i64 node, .int .i64 now, .int .i64 l] w fun e w' => e = .returned (.bool (raskB a b c d node now l)) ∧
      Rr w' g (if raskB a b c d node now l then true else a) (if raskB a b c d node now l then false else b) (if raskB a b c d node now l then node else c) (if raskB a b c d node now l then max d (now + l) else d) ∧ w.grownBy w' (some g) := by
  have no (hb : node < 0 ∨ ((now < 0 ∨ 1073741824 < now) ∨ (l < 0 ∨ 1073741824 < l)) ∨ rbarB a b c d node now = true) :
      Calls Try.prog 17 #[.pointer (some ⟨g, 0, none⟩), .int .i64 node, .int .i64 now, .int .i64 l] w fun e w' => e = .returned (.bool false) ∧ Rr w' g a b c d ∧ w.grownBy w' (some g) :=
    (rask_no g a b c d node now l w h hb).mono fun _ _ ⟨he, hw⟩ => ⟨he, hw ▸ h, hw ▸ World.grownBy.refl _ _⟩
  by_cases hn : 0 ≤ node
  · by_cases ho : okN now l
    · cases hb : rbarB a b c d node now
      · have e : raskB a b c d node now l = true := by simp [raskB, hn, okNB_yes ho, hb]
        rw [e]
        obtain ⟨⟨p1, p2⟩, p3, p4⟩ := ho
        exact rask_yes g a b c d node now l w h hn p1 p2 p3 p4 hb
      · have e : raskB a b c d node now l = false := by simp [raskB, hb]
        rw [e]
        exact no (.inr (.inr hb))
    · have e : raskB a b c d node now l = false := by simp [raskB, okNB_no ho]
      rw [e]
      exact no (.inr (.inl (okN_not ho)))
  · have e : raskB a b c d node now l = false := by simp [raskB, hn]
    rw [e]
    exact no (.inl (by omega))

theorem lost_any (g : Nat) (whom gn till now l : Int) (w : World) (hg : g < w.heap.size) (h : Gr w g whom gn till) :
    Calls Try.prog 18 #[.pointer (some ⟨g, 0, none⟩), .int .i64 now, .int .i64 l] w fun e w' => e = .returned (.tuple #[]) ∧
      Gr w' g (if okNB now l then 2 else whom) gn (if okNB now l then max till (now + l) else till) ∧ w.grownBy w' (some g) := by
  by_cases ho : okN now l
  · rw [okNB_yes ho]
    obtain ⟨⟨p1, p2⟩, p3, p4⟩ := ho
    exact lost_yes g whom gn till now l w hg h p1 p2 p3 p4
  · rw [okNB_no ho]
    exact (lost_no g now l w (okN_not ho)).mono fun _ _ ⟨he, hw⟩ => ⟨he, h.below hw hg, grownBy_below hw _⟩

theorem rlost_any (g : Nat) (a b : Bool) (c d now l : Int) (w : World) (h : Rr w g a b c d) :
    Calls Try.prog 19 #[.pointer (some ⟨g, 0, none⟩), .int .i64 now, .int .i64 l] w fun e w' => e = .returned (.tuple #[]) ∧
      Rr w' g (if okNB now l then true else a) (if okNB now l then true else b) c (if okNB now l then max d (now + l) else d) ∧ w.grownBy w' (some g) := by
  by_cases ho : okN now l
  · rw [okNB_yes ho]
    obtain ⟨⟨p1, p2⟩, p3, p4⟩ := ho
    exact rlost_yes g a b c d now l w h p1 p2 p3 p4
  · rw [okNB_no ho]
    exact (rlost_no g now l w (okN_not ho)).mono fun _ _ ⟨he, hw⟩ => ⟨he, hw ▸ h, hw ▸ World.grownBy.refl _ _⟩

/-- Both granters stand alike. -/
def Alike (whom gn till : Int) (a b : Bool) (c d : Int) : Prop :=
  till = d ∧ ((whom = 0 ∧ a = false) ∨ (whom = 1 ∧ a = true ∧ b = false ∧ c = gn) ∨ (whom = 2 ∧ a = true ∧ b = true))

theorem alike_bar {whom gn till : Int} {a b : Bool} {c d : Int} (h : Alike whom gn till a b c d) (node now : Int) : barB whom gn till node now = rbarB a b c d node now := by
  obtain ⟨rfl, ⟨rfl, rfl⟩ | ⟨rfl, rfl, rfl, rfl⟩ | ⟨rfl, rfl, rfl⟩⟩ := h
  · simp [barB, rbarB]
  · rw [Bool.eq_iff_iff]; simp [barB, rbarB]; omega
  · simp [barB, rbarB]

theorem alike_ask {whom gn till : Int} {a b : Bool} {c d : Int} (h : Alike whom gn till a b c d) (node now l : Int) : askB whom gn till node now l = raskB a b c d node now l := by
  unfold askB raskB; rw [alike_bar h]

theorem alike_asked {whom gn till : Int} {a b : Bool} {c d : Int} (h : Alike whom gn till a b c d) (node now l : Int) (x : Bool) :
    Alike (if x then 1 else whom) (if x then node else gn) (if x then max till (now + l) else till) (if x then true else a) (if x then false else b) (if x then node else c) (if x then max d (now + l) else d) := by
  cases x
  · exact h
  · exact ⟨by simp [h.1], .inr (.inl ⟨rfl, rfl, rfl, rfl⟩)⟩

theorem alike_lost {whom gn till : Int} {a b : Bool} {c d : Int} (h : Alike whom gn till a b c d) (now l : Int) (x : Bool) :
    Alike (if x then 2 else whom) gn (if x then max till (now + l) else till) (if x then true else a) (if x then true else b) c (if x then max d (now + l) else d) := by
  cases x
  · exact h
  · exact ⟨by simp [h.1], .inr (.inr ⟨rfl, rfl, rfl⟩)⟩

end Go.Proofs.Ytjokjbihkejagaa
