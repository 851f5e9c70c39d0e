/- CutSays: the law. -/
import Derived.Test.YtjjhogleiolngaaKf
import Derived.Test.YtjjhogleiolngaaVj
namespace Go.Proofs.Ytjjhogleiolngaa
set_option linter.unusedSimpArgs false
set_option linter.unusedVariables false
open Go.RowKit
attribute [local irreducible] AWP ACalls Wk GcTo
attribute [local simp] tab3 ti3 tab4 ti4 tab23 ti23 tab24 ti24 tab29 ti29
open Hi Ct
set_option maxRecDepth 100000 in
set_option maxHeartbeats 2000000 in
theorem cut_law {H : List Blk} {a : Sc} {h : List Ev} {c : Nat → Int} {Q : AV → List Blk → Prop} (ha : ESl H a h) (h6 : ∀ q, 6 ≤ q → c q = 0) (q : Q (.c (.sc (.bool true))) H) :
    ACalls Try.prog 8 [.sc a, .agg (Mt.vs c)] H Q := by
  refine acalls_of tabOk Try.func8 (by kernel_rfl) rfl (by kernel_rfl) ?_
  have hra := ha.ren
  have vs_ov := fun g : Nat → Int => splice_all (xs := Mt.vs g) (ys := [.int .i64 0, .int .i64 0, .int .i64 0, .int .i64 0, .int .i64 0, .int .i64 0]) rfl
  (repeat' (first | refine awp_seq ?_ | (refine awp_region tabOk ?_; simp) | (refine awp_if ?_; simp) | refine awp_block ?_ | refine And.intro ?_ ?_ | intro _ | (refine awp_skip ?_; simp) | (refine awp_ret ?_; simp) | (refine awp_exit ?_; simp)))
  refine cutErr (ha.app _) ?_
  ((try simp); (repeat' (first | refine awp_seq ?_ | (refine awp_region tabOk ?_; simp) | (refine awp_if ?_; simp) | refine awp_block ?_ | refine And.intro ?_ ?_ | intro _ | (refine awp_skip ?_; simp) | (refine awp_ret ?_; simp) | (refine awp_exit ?_; simp))))
  by_cases he : cutE h c = 0
  · have hC := cutR_of h6 he
    refine cutRight (ha.app _) h6 (fun h => absurd he h) (fun _ => ?_)
    ((try simp [he]); (repeat' (first | refine awp_seq ?_ | (refine awp_region tabOk ?_; simp [he]) | (refine awp_if ?_; simp [he]) | refine awp_block ?_ | refine And.intro ?_ ?_ | intro _ | (refine awp_skip ?_; simp [he]) | (refine awp_ret ?_; simp [he]) | (refine awp_exit ?_; simp [he]))))
    refine cutGrow (ha.app _) h6 (fun h => absurd he h) (fun _ => ?_)
    ((try simp [he, vs_ov]); (repeat' (first | refine awp_seq ?_ | (refine awp_region tabOk ?_; simp [he, vs_ov]) | (refine awp_if ?_; simp [he, vs_ov]) | refine awp_block ?_ | refine And.intro ?_ ?_ | intro _ | (refine awp_skip ?_; simp [he, vs_ov]) | (refine awp_ret ?_; simp [he, vs_ov]) | (refine awp_exit ?_; simp [he, vs_ov]))))
    refine cutShrink (ha.app _) h6 (fun h => absurd he h) (fun _ => ?_)
    ((try simp [he, vs_ov]); (repeat' (first | refine awp_seq ?_ | (refine awp_region tabOk ?_; simp [he, vs_ov]) | (refine awp_if ?_; simp [he, vs_ov]) | refine awp_block ?_ | refine And.intro ?_ ?_ | intro _ | (refine awp_skip ?_; simp [he, vs_ov]) | (refine awp_ret ?_; simp [he, vs_ov]) | (refine awp_exit ?_; simp [he, vs_ov]))))
    refine cutCheck (ha.app _) ?_
    ((try simp [he, vs_ov]); (repeat' (first | refine awp_seq ?_ | (refine awp_region tabOk ?_; simp [he, vs_ov]) | (refine awp_if ?_; simp [he, vs_ov]) | refine awp_block ?_ | refine And.intro ?_ ?_ | intro _ | (refine awp_skip ?_; simp [he, vs_ov]) | (refine awp_ret ?_; simp [he, vs_ov]) | (refine awp_exit ?_; simp [he, vs_ov]))))
    refine awp_draw tabOk mixed [] (by kernel_rfl) ?_
    simp
    refine ⟨_, [], refGrow (ha.app _) hC ⟨rfl, by simp⟩, ?_⟩
    simp [vs_eqv, vs_okv]
    refine ⟨_, refGrow (ha.app _) hC ⟨rfl, rfl⟩, ?_⟩
    simp [vs_eqs, vs_okv]
    refine ⟨_, refShrink (ha.app _) hC ⟨rfl, rfl⟩, ?_⟩
    simp [vs_eqs, vs_okv]
    (repeat' (first | refine awp_seq ?_ | (refine awp_region tabOk ?_; simp) | (refine awp_if ?_; simp) | refine awp_block ?_ | refine And.intro ?_ ?_ | intro _ | (refine awp_skip ?_; simp) | (refine awp_ret ?_; simp) | (refine awp_exit ?_; simp)))
    exact ⟨H, _, gcTo_none (fun _ => rfl), q⟩
  · refine cutRight (ha.app _) h6 (fun _ => ?_) (fun h => absurd h he)
    ((try simp [he]); (repeat' (first | refine awp_seq ?_ | (refine awp_region tabOk ?_; simp [he]) | (refine awp_if ?_; simp [he]) | refine awp_block ?_ | refine And.intro ?_ ?_ | intro _ | (refine awp_skip ?_; simp [he]) | (refine awp_ret ?_; simp [he]) | (refine awp_exit ?_; simp [he]))))
    refine cutGrow (ha.app _) h6 (fun _ => ?_) (fun h => absurd h he)
    ((try simp [he, vs_ov]); (repeat' (first | refine awp_seq ?_ | (refine awp_region tabOk ?_; simp [he, vs_ov]) | (refine awp_if ?_; simp [he, vs_ov]) | refine awp_block ?_ | refine And.intro ?_ ?_ | intro _ | (refine awp_skip ?_; simp [he, vs_ov]) | (refine awp_ret ?_; simp [he, vs_ov]) | (refine awp_exit ?_; simp [he, vs_ov]))))
    refine cutShrink (ha.app _) h6 (fun _ => ?_) (fun h => absurd h he)
    ((try simp [he, vs_ov]); (repeat' (first | refine awp_seq ?_ | (refine awp_region tabOk ?_; simp [he, vs_ov]) | (refine awp_if ?_; simp [he, vs_ov]) | refine awp_block ?_ | refine And.intro ?_ ?_ | intro _ | (refine awp_skip ?_; simp [he, vs_ov]) | (refine awp_ret ?_; simp [he, vs_ov]) | (refine awp_exit ?_; simp [he, vs_ov]))))
    refine cutCheck (ha.app _) ?_
    ((try simp [he, vs_ov, vs0, vs_eqs, vs_okv]); (repeat' (first | refine awp_seq ?_ | (refine awp_region tabOk ?_; simp [he, vs_ov, vs0, vs_eqs, vs_okv]) | (refine awp_if ?_; simp [he, vs_ov, vs0, vs_eqs, vs_okv]) | refine awp_block ?_ | refine And.intro ?_ ?_ | intro _ | (refine awp_skip ?_; simp [he, vs_ov, vs0, vs_eqs, vs_okv]) | (refine awp_ret ?_; simp [he, vs_ov, vs0, vs_eqs, vs_okv]) | (refine awp_exit ?_; simp [he, vs_ov, vs0, vs_eqs, vs_okv]))))
    exact ⟨H, _, gcTo_none (fun _ => rfl), q⟩
end Go.Proofs.Ytjjhogleiolngaa
