/- From a contract to a call that leaves the elder memory as it was. No program stands here. -/
import Derived.Test.YtjjhogleiolngaaB1
namespace Go.Proofs.Ytjjhogleiolngaa
open Go.RowKit
theorem calls_law {P : Program} {f : FuncId} {args : List AC} {H : List Blk} (h : ACalls P f args H fun v _ => v = .c (.sc (.bool true))) {ρ : Map} {w : World} {cargs : Array Value}
    (ha : relArgs ρ args cargs) (hr : Rel ρ H w) (hno : ∀ (i : Nat) (b : Blk), H[i]? = some b → ¬b.isOwn) :
    Calls P f cargs w fun e w' => e = .returned (.bool true) ∧ Below w.heap.size w w' := by
  refine (h.2 ρ w cargs ha hr).mono ?_
  rintro e w' ⟨v, ρ', H', u, rfl, hv, _, _, hs, rfl⟩
  have hu : u = .bool true := hv
  subst hu
  exact ⟨rfl, hs.os, hs.tape, hs.output, hs.size, fun k hk => hs.frame k hk fun i L d _ h2 h3 => (hno i d h2 h3).elim⟩
theorem rel_none (w : World) : Rel (fun _ => none) [] w :=
  ⟨fun i L h => by simp at h, fun i L b h => by simp at h, fun i j L M b d _ h => by simp at h⟩
/-- The arguments stand for these values. -/
def relAs (ρ : Map) : List AC → List Value → Prop
  | [], [] => True
  | x :: xs, v :: vs => relC ρ x v ∧ relAs ρ xs vs
  | _, _ => False
theorem relArgs_list {ρ : Map} : ∀ {xs : List AC} {vs : List Value}, relAs ρ xs vs → relArgs ρ xs vs.toArray
  | [], [], _ => ⟨rfl, fun j x h => by simp at h⟩
  | x :: xs, v :: vs, ⟨h1, h2⟩ => by
    have ih := relArgs_list h2
    refine ⟨by have := ih.1; simp at this ⊢; exact this, fun j y hj => ?_⟩
    cases j with
    | zero => simp at hj; subst hj; exact ⟨v, by simp, h1⟩
    | succ j => obtain ⟨u, hu, r⟩ := ih.2 j y (by simpa using hj); exact ⟨u, by simpa using hu, r⟩
  | [], _ :: _, h => h.elim
  | _ :: _, [], h => h.elim
end Go.Proofs.Ytjjhogleiolngaa
