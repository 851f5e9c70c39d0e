/- LatMaps: the law as a call. -/
import Derived.Test.YtjjhogleiolngaaUg
import Derived.Test.YtjjhogleiolngaaN2
namespace Go.Proofs.Ytjjhogleiolngaa
open Go.RowKit
theorem in_ints {w : World} {v : Value} (h : Fit1 w (.slice [.int .i64]) v) : ∃ (xs : List Int) (L : Loc) (blk : Blk) (a : Nat → Sc), InS w (fun x : Int => [.int .i64 x]) 1 v xs L blk a := by
  obtain ⟨xs, L, blk, a, h1, _⟩ := in_slice (enc := fun x : Int => [.int .i64 x]) (Q := fun _ => True) h (by simp) (fun _ => rfl) (fun cs hcs => by
    obtain ⟨u, us, rfl, h1, h2⟩ := Fit.cons_inv hcs
    obtain ⟨n, rfl, _⟩ := h1.int_inv
    obtain rfl := Fit.nil_inv h2
    exact ⟨n, by simp [scsB, scB], trivial⟩)
  exact ⟨xs, L, blk, a, h1⟩
theorem isl_of {w : World} {v : Value} {xs : List Int} {L : Loc} {blk : Blk} {a : Nat → Sc} (h : InS w (fun x : Int => [.int .i64 x]) 1 v xs L blk a) {H : List Blk} {id : Nat} (hH : H[id]? = some blk) : ISl H (a id) xs := by
  rcases h.sl with ⟨rfl, g | g⟩ | ⟨cap, cs, g, h1, h3, rfl, h2⟩
  · exact .inl ⟨rfl, .inl (g id)⟩
  · exact .inl ⟨rfl, .inr (g id)⟩
  · refine .inr ⟨id, 0, cap, cs, g id, h1, by omega, by rw [hH]; rfl, fun i x hx => ?_⟩
    have := h2 i x hx 0 _ rfl
    simpa using this
theorem in_u16 {w : World} {v : Value} (h : Fit1 w (.slice [.int .u16]) v) : ∃ (xs : List Nat) (L : Loc) (blk : Blk) (a : Nat → Sc), InS w u16e 1 v xs L blk a ∧ ∀ x ∈ xs, x < 65536 := by
  obtain ⟨xs, L, blk, a, h1, h2⟩ := in_slice (enc := u16e) (Q := fun x => x < 65536) h (by simp) (fun _ => rfl) (fun cs hcs => by
    obtain ⟨u, us, rfl, h1, h2⟩ := Fit.cons_inv hcs
    obtain ⟨n, rfl, hn⟩ := h1.int_inv
    obtain rfl := Fit.nil_inv h2
    simp only [Lit.wf, IntKind.min, IntKind.max, IntKind.signed, IntKind.bits] at hn
    simp at hn
    obtain ⟨m, rfl⟩ := Int.eq_ofNat_of_zero_le hn.1
    exact ⟨m, by simp [u16e, scsB, scB], by omega⟩)
  exact ⟨xs, L, blk, a, h1, h2⟩
theorem LatMaps_walk (W : World) (A : Option Addr) (n c : Nat) (hs : Fit W [.slice [.int .u16]] (Value.slice A n c).cells.toList) (A2 : Option Addr) (n2 c2 : Nat) (hf : Fit W [.slice [.int .i64]] (Value.slice A2 n2 c2).cells.toList) :
    Calls Try.prog 5 #[.slice A n c, .slice A2 n2 c2] W fun e w' => e = .returned (.bool true) ∧ Below W.heap.size W w' := by
  obtain ⟨u, us, e, h1, _⟩ := Fit.cons_inv hs
  have e : [Value.slice A n c] = u :: us := e
  cases e
  obtain ⟨u, us, e, h2, _⟩ := Fit.cons_inv hf
  have e : [Value.slice A2 n2 c2] = u :: us := e
  cases e
  obtain ⟨xs, L, blk, a, hI, hw⟩ := in_u16 h1
  obtain ⟨fs, L2, blk2, a2, hI2⟩ := in_ints h2
  have hown : ∀ p ∈ [(L, blk), (L2, blk2)], ¬p.2.isOwn ∧ ∀ ρ, holds ρ W p.1 p.2 := fun p hp => by
    simp at hp
    rcases hp with rfl | rfl
    · exact ⟨hI.own, hI.hold⟩
    · exact ⟨hI2.own, hI2.hold⟩
  exact calls_law (maps_law (H := [blk, blk2]) (gsl_of ulen (by omega) hI (id := 0) rfl) (isl_of hI2 (id := 1) rfl) hw rfl) (relArgs_list (vs := [.slice A n c, .slice A2 n2 c2]) ⟨hI.rel _ 0 rfl, hI2.rel _ 1 rfl, trivial⟩) (rel_args [(L, blk), (L2, blk2)] hown) (own_args fun p hp => (hown p hp).1)
end Go.Proofs.Ytjjhogleiolngaa
