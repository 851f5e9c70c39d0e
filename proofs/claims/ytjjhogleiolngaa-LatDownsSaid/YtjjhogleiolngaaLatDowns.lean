/- LatDowns: the law as a call. -/
import Derived.Test.YtjjhogleiolngaaLg
import Derived.Test.YtjjhogleiolngaaN2
namespace Go.Proofs.Ytjjhogleiolngaa
open Go.RowKit
theorem fit_pa {w : World} {cs : List Value} (h : Fit w [.int .i64, .int .i64] cs) : ∃ x : Pa, scsB x.enc cs = true ∧ True := by
  rcases h with _ | ⟨⟨⟩, h⟩
  rcases h with _ | ⟨⟨⟩, h⟩
  rcases h with _ | _
  rename_i a _ b _
  exact ⟨⟨a, b⟩, by simp [Pa.enc, scsB, scB], trivial⟩
theorem LatDowns_walk (W : World) (cs : Array Value) (h : Fit W [.int .i64, .slice [.int .i64, .int .i64]] cs.toList) :
    Calls Try.prog 4 #[.agg cs] W fun e w' => e = .returned (.bool true) ∧ Below W.heap.size W w' := by
  obtain ⟨l, rfl⟩ : ∃ l : List Value, cs = l.toArray := ⟨cs.toList, by simp⟩
  rw [List.toList_toArray] at h
  rcases h with _ | ⟨⟨g0⟩, h⟩
  rcases h with _ | ⟨hsl, h⟩
  rcases h with _ | _
  rename_i n v
  obtain ⟨xs, L, blk, a, hI, _⟩ := in_slice (enc := Pa.enc) (Q := fun _ => True) hsl (by simp) plen (fun cs hcs => fit_pa hcs)
  have hown : ∀ p ∈ [(L, blk)], ¬p.2.isOwn ∧ ∀ ρ, holds ρ W p.1 p.2 := fun p hp => by
    simp at hp; subst hp; exact ⟨hI.own, hI.hold⟩
  have hv := hI.rel (locs [(L, blk)]) 0 rfl
  have hc : relC (locs [(L, blk)]) (.agg [.int .i64 n, a 0]) (.agg #[.int .i64 n, v]) := by
    refine ⟨_, rfl, by simp, fun j x hj => ?_⟩
    have hlt : j < 2 := by have := (List.getElem?_eq_some_iff.1 hj).1; simpa using this
    match j, hlt with
    | 0, _ => cases hj; exact ⟨_, rfl, rfl⟩
    | 1, _ => cases hj; exact ⟨_, rfl, hv⟩
  exact calls_law (downs_law (H := [blk]) (gsl_of plen (by omega) hI (id := 0) rfl) rfl) (relArgs_list (vs := [.agg _]) ⟨hc, trivial⟩) (rel_args [(L, blk)] hown) (own_args fun p hp => (hown p hp).1)
end Go.Proofs.Ytjjhogleiolngaa
