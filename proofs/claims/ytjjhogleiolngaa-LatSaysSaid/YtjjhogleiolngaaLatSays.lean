/- LatSays: the law as a call. -/
import Derived.Test.YtjjhogleiolngaaUk
import Derived.Test.YtjjhogleiolngaaLatMaps
namespace Go.Proofs.Ytjjhogleiolngaa
open Go.RowKit
theorem LatSays_walk (W : World) (A : Option Addr) (n c : Nat) (hs : Fit W [.slice [.int .u16]] (Value.slice A n c).cells.toList) (i : Int) (_ : (Lit.int .i64 i).wf = true) (j : Int) (_ : (Lit.int .i64 j).wf = true) :
    Calls Try.prog 6 #[.slice A n c, .int .i64 i, .int .i64 j] W fun e w' => e = .returned (.bool true) ∧ Below W.heap.size W w' := by
  obtain ⟨u, us, e, h1, _⟩ := Fit.cons_inv hs
  have e : [Value.slice A n c] = u :: us := e
  cases e
  obtain ⟨xs, L, blk, a, hI, hw⟩ := in_u16 h1
  have hown : ∀ p ∈ [(L, blk)], ¬p.2.isOwn ∧ ∀ ρ, holds ρ W p.1 p.2 := fun p hp => by
    simp at hp; subst hp; exact ⟨hI.own, hI.hold⟩
  exact calls_law (lat_law (H := [blk]) (gsl_of ulen (by omega) hI (id := 0) rfl) hw rfl) (relArgs_list (vs := [.slice A n c, .int .i64 i, .int .i64 j]) ⟨hI.rel _ 0 rfl, rfl, rfl, trivial⟩) (rel_args [(L, blk)] hown) (own_args fun p hp => (hown p hp).1)
end Go.Proofs.Ytjjhogleiolngaa
