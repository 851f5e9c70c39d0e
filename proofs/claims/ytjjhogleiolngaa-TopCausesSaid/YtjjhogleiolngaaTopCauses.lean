/- TopCauses: the law as a call. -/
import Derived.Test.YtjjhogleiolngaaJd
import Derived.Test.YtjjhogleiolngaaN2
namespace Go.Proofs.Ytjjhogleiolngaa
open Go.RowKit
theorem TopCauses_walk (W : World) (A : Option Addr) (n c : Nat) (he : Fit W [.slice [.int .i64, .int .i64, .int .i64]] (Value.slice A n c).cells.toList) :
    Calls Try.prog 9 #[.slice A n c] W fun e w' => e = .returned (.bool true) ∧ Below W.heap.size W w' := by
  obtain ⟨u, us, e, h1, _⟩ := Fit.cons_inv he
  have e : [Value.slice A n c] = u :: us := e
  cases e
  obtain ⟨xs, L, blk, a, hI⟩ := in_evs h1
  have hown : ∀ p ∈ [(L, blk)], ¬p.2.isOwn ∧ ∀ ρ, holds ρ W p.1 p.2 := fun p hp => by
    simp at hp; subst hp; exact ⟨hI.own, hI.hold⟩
  have hl := hI.len
  exact calls_law (causes_law (H := [blk]) (gsl_of elen (by omega) hI (id := 0) rfl) (by simp only [maxLen] at hl; omega) rfl) (relArgs_list (vs := [.slice A n c]) ⟨hI.rel _ 0 rfl, trivial⟩) (rel_args [(L, blk)] hown) (own_args fun p hp => (hown p hp).1)
end Go.Proofs.Ytjjhogleiolngaa
