/- CutSays: the law as a call. -/
import Derived.Test.YtjjhogleiolngaaKg
import Derived.Test.YtjjhogleiolngaaN2
namespace Go.Proofs.Ytjjhogleiolngaa
open Go.RowKit
theorem vs_nrm (f : Nat → Int) : Mt.vs f = Mt.vs (fun q => if q < 6 then f q else 0) := Mt.vs_ext fun j hj => by rw [if_pos hj]
theorem CutSays_walk (W : World) (A : Option Addr) (n c : Nat) (he : Fit W [.slice [.int .i64, .int .i64, .int .i64]] (Value.slice A n c).cells.toList) (cs : Array Value) (h : Fit W [.int .i64, .int .i64, .int .i64, .int .i64, .int .i64, .int .i64] cs.toList) :
    Calls Try.prog 8 #[.slice A n c, .agg cs] W fun e w' => e = .returned (.bool true) ∧ Below W.heap.size W w' := by
  obtain ⟨f, hf⟩ := fit_vs h
  rw [vs_nrm] at hf
  obtain ⟨u, us, e, h1, _⟩ := Fit.cons_inv he
  have e : [Value.slice A n c] = u :: us := e
  cases e
  obtain ⟨xs, L, blk, a, hI⟩ := in_evs h1
  have hown : ∀ p ∈ [(L, blk)], ¬p.2.isOwn ∧ ∀ ρ, holds ρ W p.1 p.2 := fun p hp => by
    simp at hp; subst hp; exact ⟨hI.own, hI.hold⟩
  exact calls_law (cut_law (H := [blk]) (c := fun q => if q < 6 then f q else 0) (gsl_of elen (by omega) hI (id := 0) rfl) (fun q hq => if_neg (by omega)) rfl) (relArgs_list (vs := [.slice A n c, .agg cs]) ⟨hI.rel _ 0 rfl, hf _, trivial⟩) (rel_args [(L, blk)] hown) (own_args fun p hp => (hown p hp).1)
end Go.Proofs.Ytjjhogleiolngaa
