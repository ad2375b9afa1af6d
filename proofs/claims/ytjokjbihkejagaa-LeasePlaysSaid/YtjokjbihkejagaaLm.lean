/- Chapter 11: LeasePlays over what came in. -/
import Derived.Test.YtjokjbihkejagaaLl
import Derived.Test.YtjokjbihkejagaaLj
namespace Go.Proofs.Ytjokjbihkejagaa
open Go.RowKit Go.ChangeShapes Go.WideShapes

theorem plays_row {H : Type} {enc : TypeId × Value → H} {base : Nat} {spare : Nat → Bool} {held : Bool} {d : DataW H} {p : List MemPlace} (rho : Int) (a : Option Addr) (len cap : Nat) (w : World) (_w0 : (Lit.int .i64 rho).wf = true)
    (h : DataW.Trod enc Try.prog w base spare held 34 (.slice a len cap) d p) :
    Calls Try.prog 5 #[.int .i64 rho, .slice a len cap] w fun e w' => e = .returned (.bool true) ∧ Below w.heap.size w w' := by
  by_cases hr : 0 ≤ rho ∧ rho ≤ 500
  · obtain ⟨hl, hc, hx⟩ := open_recs Try.underlying34 Try.underlying39 (by kernel_rfl) (by kernel_rfl) (by decide) (fun j f hj => by
      have hj' : j < 4 := (Array.getElem?_eq_some_iff.1 hj).1
      obtain rfl | rfl | rfl | rfl : j = 0 ∨ j = 1 ∨ j = 2 ∨ j = 3 := by omega
      all_goals (simp at hj; subst hj; exact Try.underlying3)) h
    by_cases h0 : len = 0
    · subst h0
      exact plays_none a cap rho w hr.1 hr.2
    · rcases hx with ⟨_, hz, _⟩ | ⟨x, rfl, hsp, xs, hxs⟩
      · omega
      · obtain ⟨sp, hb⟩ := hsp (by omega)
        obtain ⟨b, o, s⟩ := x
        simp only at sp hb hxs
        subst sp
        exact plays_walk b o len cap xs rho w hb (by unfold maxLen at hc; omega) hxs hr.1 hr.2
  · exact plays_no a len cap rho w (by omega)

end Go.Proofs.Ytjokjbihkejagaa
