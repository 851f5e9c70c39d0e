/- PulseSays: slices.Index over bools, slices.Equal over ints. -/
import Derived.Test.YtdeockoaalpcjaaS1
namespace Go.Proofs.Ytdeockoaalpcjaa
set_option linter.unusedSimpArgs false
set_option linter.unusedVariables false
open Go.RowKit
attribute [local irreducible] AWP ACalls Wk GcTo
attribute [local simp] tab3 ti3 tab4 ti4 tab24 ti24 tab70 ti70
set_option maxRecDepth 100000 in
theorem indexBool {H : List Blk} {id off n cap : Nat} {cs : List Sc} {f : Nat → Bool} {v : Bool} {Q : AV → List Blk → Prop} (hcs : Blk.cells? H[id]? = some cs) (hn : n < 9223372036854775807)
    (hx : ∀ i, i < n → cs[off + i]? = some (.bool (f i))) (h : Q (.c (.sc (.int .i64 (idxS (fun i => v == f i) n 0)))) H) :
    ACalls Try.prog 41 [.sc (.sl id off 1 n cap), .sc (.bool v)] H Q := by
  refine acalls_of tabOk Try.func41 (by kernel_rfl) rfl (by kernel_rfl) ?_
  (repeat' (first | refine awp_seq ?_ | (refine awp_region tabOk ?_; simp) | (refine awp_if ?_; simp) | refine awp_block ?_ | refine And.intro ?_ ?_ | intro _ | (refine awp_skip ?_; simp) | (refine awp_ret ?_; simp) | (refine awp_exit ?_; simp)))
  refine awp_loop_at (α := {i : Nat // i ≤ n ∧ idxS (fun i => v == f i) n 0 = idxS (fun i => v == f i) (n - i) i}) (fun i => [(0, .c (.sc (.sl id off 1 n cap))), (1, .c (.sc (.bool v))), (7, .c (.sc (.int .i64 n))), (8, .c (.sc (.int .i64 i.1)))]) (fun _ => H) (fun i => n - i.1) ⟨0, by omega, rfl⟩ (wk_tl (by simp)) ?_
  rintro ⟨i, hi, he⟩
  by_cases hlt : i < n
  · have hci := hx i hlt
    have wr := wrapS i (by omega)
    rw [idxS_step _ hlt] at he
    cases hv : (v == f i) with
    | true =>
      (repeat' (first | refine awp_seq ?_ | (refine awp_region tabOk ?_; simp [hlt, hcs, hci, wr, hv]) | (refine awp_if ?_; simp [hlt, hcs, hci, wr, hv]) | refine awp_block ?_ | refine And.intro ?_ ?_ | intro _ | (refine awp_skip ?_; simp [hlt, hcs, hci, wr, hv]) | (refine awp_ret ?_; simp [hlt, hcs, hci, wr, hv]) | (refine awp_exit ?_; simp [hlt, hcs, hci, wr, hv])))
      refine ⟨H, _, GcTo.refl (Nat.le_refl _), ?_⟩
      simp only [hv, if_true] at he
      rw [he] at h; exact h
    | false =>
      (repeat' (first | refine awp_seq ?_ | (refine awp_region tabOk ?_; simp [hlt, hcs, hci, wr, hv]) | (refine awp_if ?_; simp [hlt, hcs, hci, wr, hv]) | refine awp_block ?_ | refine And.intro ?_ ?_ | intro _ | (refine awp_skip ?_; simp [hlt, hcs, hci, wr, hv]) | (refine awp_ret ?_; simp [hlt, hcs, hci, wr, hv]) | (refine awp_exit ?_; simp [hlt, hcs, hci, wr, hv])))
      simp only [hv] at he
      exact ⟨i + 1, by omega, ⟨by omega, he⟩, wk_tl (by simp)⟩
  · obtain rfl : i = n := by omega
    (repeat' (first | refine awp_seq ?_ | (refine awp_region tabOk ?_; simp [hlt]) | (refine awp_if ?_; simp [hlt]) | refine awp_block ?_ | refine And.intro ?_ ?_ | intro _ | (refine awp_skip ?_; simp [hlt]) | (refine awp_ret ?_; simp [hlt]) | (refine awp_exit ?_; simp [hlt])))
    refine ⟨H, _, GcTo.refl (Nat.le_refl _), ?_⟩
    rw [he, Nat.sub_self] at h; exact h
end Go.Proofs.Ytdeockoaalpcjaa
