/- slices.Min, slices.Max over ints, by the abstract machine. -/
import Derived.Test.YtdeockoaalpcjaaS1
namespace Go.Proofs.Ytdeockoaalpcjaa
set_option linter.unusedSimpArgs false
set_option linter.unusedVariables false
open Go.RowKit
attribute [local irreducible] AWP ACalls Wk GcTo
attribute [local simp] tab3 ti3 tab24 ti24
/-- The least, the greatest of the first k. -/
def mnU (f : Nat → Int) : Nat → Int
  | 0 => f 0
  | k + 1 => if f (k + 1) < mnU f k then f (k + 1) else mnU f k
def mxU (f : Nat → Int) : Nat → Int
  | 0 => f 0
  | k + 1 => if mxU f k < f (k + 1) then f (k + 1) else mxU f k
theorem mnU_lt (f : Nat → Int) (b : Int) : ∀ k, mnU f k < b ↔ ∃ j, j ≤ k ∧ f j < b
  | 0 => ⟨fun h => ⟨0, Nat.le_refl _, h⟩, fun ⟨j, hj, h⟩ => by have : j = 0 := by omega
                                                               subst this; exact h⟩
  | k + 1 => by
    have ih := mnU_lt f b k
    unfold mnU
    constructor
    · intro h
      split at h
      · exact ⟨k + 1, Nat.le_refl _, h⟩
      · obtain ⟨j, h1, h2⟩ := ih.1 h; exact ⟨j, by omega, h2⟩
    · rintro ⟨j, h1, h2⟩
      by_cases e : j = k + 1
      · subst e; split <;> omega
      · have := ih.2 ⟨j, by omega, h2⟩; split <;> omega
theorem mxU_gt (f : Nat → Int) (b : Int) : ∀ k, b < mxU f k ↔ ∃ j, j ≤ k ∧ b < f j
  | 0 => ⟨fun h => ⟨0, Nat.le_refl _, h⟩, fun ⟨j, hj, h⟩ => by have : j = 0 := by omega
                                                               subst this; exact h⟩
  | k + 1 => by
    have ih := mxU_gt f b k
    unfold mxU
    constructor
    · intro h
      split at h
      · exact ⟨k + 1, Nat.le_refl _, h⟩
      · obtain ⟨j, h1, h2⟩ := ih.1 h; exact ⟨j, by omega, h2⟩
    · rintro ⟨j, h1, h2⟩
      by_cases e : j = k + 1
      · subst e; split <;> omega
      · have := ih.2 ⟨j, by omega, h2⟩; split <;> omega
set_option maxRecDepth 100000 in
theorem minInt {H : List Blk} {id off n cap : Nat} {cs : List Sc} {f : Nat → Int} {Q : AV → List Blk → Prop} (hc : Blk.cells? H[id]? = some cs) (hn : n < 1000000) (hx : ∀ i, i < n + 1 → cs[off + i]? = some (.int .i64 (f i)))
    (q : Q (.c (.sc (.int .i64 (mnU f n)))) H) : ACalls Try.prog 109 [.sc (.sl id off 1 (n + 1) cap)] H Q := by
  refine acalls_of tabOk Try.func109 (by kernel_rfl) rfl (by kernel_rfl) ?_
  have h0 := hx 0 (by omega)
  rw [Nat.add_zero] at h0
  have h1 : ¬((n : Int) + 1 < 1) := by omega
  have h2 : (0 : Int) < (n : Int) + 1 := by omega
  (repeat' (first | refine awp_seq ?_ | (refine awp_region tabOk ?_; simp [hc, h0, h1, h2]) | (refine awp_if ?_; simp [hc, h0, h1, h2]) | refine awp_block ?_ | refine And.intro ?_ ?_ | intro _ | (refine awp_skip ?_; simp [hc, h0, h1, h2]) | (refine awp_ret ?_; simp [hc, h0, h1, h2]) | (refine awp_exit ?_; simp [hc, h0, h1, h2])))
  refine awp_loop_at (α := {k : Nat // k ≤ n}) (fun k => [(0, .c (.sc (.sl id off 1 (n + 1) cap))), (3, .c (.sc (.int .i64 (mnU f k.1)))), (4, .c (.sc (.int .i64 (k.1 + 1))))]) (fun _ => H) (fun k => n - k.1) ⟨0, by omega⟩ (wk_tl (by simp [mnU])) ?_
  rintro ⟨k, hk⟩
  by_cases hkl : k < n
  · have hk2 : (k : Int) + 1 < (n : Int) + 1 := by omega
    have hxk := hx (k + 1) (by omega)
    have wk : IntKind.i64.wrap ((k : Int) + 1 + 1) = (k : Int) + 1 + 1 := wrap_in _ (by omega) (by omega)
    have tk : ((k : Int) + 1).toNat = k + 1 := by omega
    have p1 : 0 ≤ (k : Int) + 1 := by omega
    (repeat' (first | refine awp_seq ?_ | (refine awp_region tabOk ?_; simp [hkl, hk2, hxk, hc, tk, p1]) | (refine awp_if ?_; simp [hkl, hk2, hxk, hc, tk, p1]) | refine awp_block ?_ | refine And.intro ?_ ?_ | intro _ | (refine awp_skip ?_; simp [hkl, hk2, hxk, hc, tk, p1]) | (refine awp_ret ?_; simp [hkl, hk2, hxk, hc, tk, p1]) | (refine awp_exit ?_; simp [hkl, hk2, hxk, hc, tk, p1])))
    exact ⟨k + 1, by omega, by omega, wk_tl (by simp [wk, mnU])⟩
  · obtain rfl : k = n := by omega
    (repeat' (first | refine awp_seq ?_ | (refine awp_region tabOk ?_; simp) | (refine awp_if ?_; simp) | refine awp_block ?_ | refine And.intro ?_ ?_ | intro _ | (refine awp_skip ?_; simp) | (refine awp_ret ?_; simp) | (refine awp_exit ?_; simp)))
    exact ⟨H, _, GcTo.refl (Nat.le_refl _), q⟩
set_option maxRecDepth 100000 in
theorem maxInt {H : List Blk} {id off n cap : Nat} {cs : List Sc} {f : Nat → Int} {Q : AV → List Blk → Prop} (hc : Blk.cells? H[id]? = some cs) (hn : n < 1000000) (hx : ∀ i, i < n + 1 → cs[off + i]? = some (.int .i64 (f i)))
    (q : Q (.c (.sc (.int .i64 (mxU f n)))) H) : ACalls Try.prog 110 [.sc (.sl id off 1 (n + 1) cap)] H Q := by
  refine acalls_of tabOk Try.func110 (by kernel_rfl) rfl (by kernel_rfl) ?_
  have h0 := hx 0 (by omega)
  rw [Nat.add_zero] at h0
  have h1 : ¬((n : Int) + 1 < 1) := by omega
  have h2 : (0 : Int) < (n : Int) + 1 := by omega
  (repeat' (first | refine awp_seq ?_ | (refine awp_region tabOk ?_; simp [hc, h0, h1, h2]) | (refine awp_if ?_; simp [hc, h0, h1, h2]) | refine awp_block ?_ | refine And.intro ?_ ?_ | intro _ | (refine awp_skip ?_; simp [hc, h0, h1, h2]) | (refine awp_ret ?_; simp [hc, h0, h1, h2]) | (refine awp_exit ?_; simp [hc, h0, h1, h2])))
  refine awp_loop_at (α := {k : Nat // k ≤ n}) (fun k => [(0, .c (.sc (.sl id off 1 (n + 1) cap))), (3, .c (.sc (.int .i64 (mxU f k.1)))), (4, .c (.sc (.int .i64 (k.1 + 1))))]) (fun _ => H) (fun k => n - k.1) ⟨0, by omega⟩ (wk_tl (by simp [mxU])) ?_
  rintro ⟨k, hk⟩
  by_cases hkl : k < n
  · have hk2 : (k : Int) + 1 < (n : Int) + 1 := by omega
    have hxk := hx (k + 1) (by omega)
    have wk : IntKind.i64.wrap ((k : Int) + 1 + 1) = (k : Int) + 1 + 1 := wrap_in _ (by omega) (by omega)
    have tk : ((k : Int) + 1).toNat = k + 1 := by omega
    have p1 : 0 ≤ (k : Int) + 1 := by omega
    (repeat' (first | refine awp_seq ?_ | (refine awp_region tabOk ?_; simp [hkl, hk2, hxk, hc, tk, p1]) | (refine awp_if ?_; simp [hkl, hk2, hxk, hc, tk, p1]) | refine awp_block ?_ | refine And.intro ?_ ?_ | intro _ | (refine awp_skip ?_; simp [hkl, hk2, hxk, hc, tk, p1]) | (refine awp_ret ?_; simp [hkl, hk2, hxk, hc, tk, p1]) | (refine awp_exit ?_; simp [hkl, hk2, hxk, hc, tk, p1])))
    exact ⟨k + 1, by omega, by omega, wk_tl (by simp [wk, mxU])⟩
  · obtain rfl : k = n := by omega
    (repeat' (first | refine awp_seq ?_ | (refine awp_region tabOk ?_; simp) | (refine awp_if ?_; simp) | refine awp_block ?_ | refine And.intro ?_ ?_ | intro _ | (refine awp_skip ?_; simp) | (refine awp_ret ?_; simp) | (refine awp_exit ?_; simp)))
    exact ⟨H, _, GcTo.refl (Nat.le_refl _), q⟩
end Go.Proofs.Ytdeockoaalpcjaa
