/- RingSays: the law as a call. -/
import Derived.Test.YtdeockoaalpcjaaG9
import Derived.Test.YtdeockoaalpcjaaB4
namespace Go.Proofs.Ytdeockoaalpcjaa
open Go.RowKit
theorem isl_of {w : World} {v : Value} {xs : List Int} {L : Loc} {blk : Blk} {a : Nat → Sc} (h : InS w (fun x : Int => [.int .i64 x]) 1 v xs L blk a) {H : List Blk} {id : Nat} (hH : H[id]? = some blk) : ISl H (a id) xs := by
  rcases h.sl with ⟨rfl, g | ⟨cap, g⟩⟩ | ⟨cap, cs, g, h1, rfl, h2⟩
  · exact .inl ⟨rfl, .inl (g id)⟩
  · exact .inl ⟨rfl, .inr (.inr ⟨id, 0, cap, (List.getElem?_eq_some_iff.1 hH).1, g id⟩)⟩
  · refine .inr ⟨id, 0, cap, cs, g id, h1, by rw [hH]; rfl, fun i x hx => ?_⟩
    have := h2 i x hx 0 _ rfl
    simpa using this
theorem in_ints {w : World} {v : Value} (h : Fit1 w (.slice [.int .i64]) v) : ∃ (xs : List Int) (L : Loc) (blk : Blk) (a : Nat → Sc), InS w (fun x : Int => [.int .i64 x]) 1 v xs L blk a := by
  obtain ⟨xs, L, blk, a, h1, _⟩ := in_slice (enc := fun x : Int => [.int .i64 x]) (Q := fun _ => True) h (by simp) (fun _ => rfl) (fun cs hcs => by
    obtain ⟨u, us, rfl, h1, h2⟩ := Fit.cons_inv hcs
    obtain ⟨n, rfl, _⟩ := h1.int_inv
    obtain rfl := Fit.nil_inv h2
    exact ⟨n, by simp [scsB, scB], trivial⟩)
  exact ⟨xs, L, blk, a, h1⟩
theorem RingSays_walk (W : World) (A : Option Addr) (n c : Nat) (h : Fit W [.slice [.int .i64]] (Value.slice A n c).cells.toList) :
    Calls Try.prog 6 #[.slice A n c] W fun e w' => e = .returned (.bool true) ∧ Below W.heap.size W w' := by
  obtain ⟨u, us, e, h1, _⟩ := Fit.cons_inv h
  have e : [Value.slice A n c] = u :: us := e
  cases e
  obtain ⟨xs, L, blk, a, hI⟩ := in_ints h1
  have hown : ∀ p ∈ [(L, blk)], ¬p.2.isOwn ∧ ∀ ρ, holds ρ W p.1 p.2 := fun p hp => by
    simp at hp; subst hp; exact ⟨hI.own, hI.hold⟩
  exact calls_law (ring_law (H := [blk]) (isl_of hI (id := 0) rfl) fun _ => rfl) (relArgs_list (vs := [.slice A n c]) ⟨hI.rel _ 0 rfl, trivial⟩) (rel_args [(L, blk)] hown) (own_args fun p hp => (hown p hp).1)
end Go.Proofs.Ytdeockoaalpcjaa
