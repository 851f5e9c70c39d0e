/- VectSays: the law as a call. -/
import Derived.Test.YtjjhogleiolngaaVj
import Derived.Test.YtjjhogleiolngaaN2
namespace Go.Proofs.Ytjjhogleiolngaa
open Go.RowKit
theorem VectSays_walk (W : World) (cs : Array Value) (h : Fit W [.int .i64, .int .i64, .int .i64, .int .i64, .int .i64, .int .i64] cs.toList) (ds : Array Value) (k : Fit W [.int .i64, .int .i64, .int .i64, .int .i64, .int .i64, .int .i64] ds.toList)
    (A : Option Addr) (n c : Nat) (he : Fit W [.slice [.int .i64, .int .i64, .int .i64]] (Value.slice A n c).cells.toList) :
    Calls Try.prog 3 #[.agg cs, .agg ds, .slice A n c] W fun e w' => e = .returned (.bool true) ∧ Below W.heap.size W w' := by
  obtain ⟨f, hf⟩ := fit_vs h
  obtain ⟨g, hg⟩ := fit_vs k
  obtain ⟨u, us, e, h1, _⟩ := Fit.cons_inv he
  have e : [Value.slice A n c] = u :: us := e
  cases e
  obtain ⟨xs, L, blk, a, hI⟩ := in_evs h1
  have hown : ∀ p ∈ [(L, blk)], ¬p.2.isOwn ∧ ∀ ρ, holds ρ W p.1 p.2 := fun p hp => by
    simp at hp; subst hp; exact ⟨hI.own, hI.hold⟩
  exact calls_law (vect_law (H := [blk]) (f := f) (g := g) (gsl_of elen (by omega) hI (id := 0) rfl) rfl) (relArgs_list (vs := [.agg cs, .agg ds, .slice A n c]) ⟨hf _, hg _, hI.rel _ 0 rfl, trivial⟩) (rel_args [(L, blk)] hown) (own_args fun p hp => (hown p hp).1)
end Go.Proofs.Ytjjhogleiolngaa
