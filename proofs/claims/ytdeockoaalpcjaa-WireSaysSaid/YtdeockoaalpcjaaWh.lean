/- WireSays: the law. -/
import Derived.Test.YtdeockoaalpcjaaWf
import Derived.Test.YtdeockoaalpcjaaWg
namespace Go.Proofs.Ytdeockoaalpcjaa
set_option linter.unusedSimpArgs false
set_option linter.unusedVariables false
open Go.RowKit
attribute [local irreducible] AWP ACalls Wk GcTo
attribute [local simp] tab9 ti9 tab81 ti81 tab74 ti74 tab22 ti22
open Wi
theorem Nt.eq_cs (p : Nt) : eqSs p.cs p.cs = true := by simp [Nt.cs, eqSs, eqS]
theorem Nt.ok_cs (p : Nt) : okSs [.int .i64, .int .i64, .int .i64, .int .i64, .int .i64, .int .i64, .int .i64, .int .i64, .int .i64, .int .i64, .int .i64, .str] p.cs = true := rfl
set_option maxRecDepth 100000 in
theorem wire_law {H : List Blk} {p : Nt} {s : ByteArray} {Q : AV → List Blk → Prop} (hs : s.size ≤ 9223372036854775807) (q : ∀ H', Q (.c (.sc (.bool true))) H') :
    ACalls Try.prog 8 [.agg p.cs, .sc (.str s)] H Q := by
  refine acalls_of tabOk Try.func8 (by kernel_rfl) rfl (by kernel_rfl) ?_
  by_cases he : p.err = 0
  · (repeat' (first | refine awp_seq ?_ | (refine awp_region tabOk ?_; simp [Nt.zero_cs]) | (refine awp_if ?_; simp [Nt.zero_cs]) | refine awp_block ?_ | refine And.intro ?_ ?_ | intro _ | (refine awp_skip ?_; simp [Nt.zero_cs]) | (refine awp_ret ?_; simp [Nt.zero_cs]) | (refine awp_exit ?_; simp [Nt.zero_cs])))
    refine noteErr ?_
    ((try simp [he]); (repeat' (first | refine awp_seq ?_ | (refine awp_region tabOk ?_; simp [he]) | (refine awp_if ?_; simp [he]) | refine awp_block ?_ | refine And.intro ?_ ?_ | intro _ | (refine awp_skip ?_; simp [he]) | (refine awp_ret ?_; simp [he]) | (refine awp_exit ?_; simp [he]))))
    refine wirePack (fun h => absurd he h) (fun _ => ?_)
    ((try simp [he]); (repeat' (first | refine awp_seq ?_ | (refine awp_region tabOk ?_; simp [he]) | (refine awp_if ?_; simp [he]) | refine awp_block ?_ | refine And.intro ?_ ?_ | intro _ | (refine awp_skip ?_; simp [he]) | (refine awp_ret ?_; simp [he]) | (refine awp_exit ?_; simp [he]))))
    refine noteText he ?_
    ((try simp [he]); (repeat' (first | refine awp_seq ?_ | (refine awp_region tabOk ?_; simp [he]) | (refine awp_if ?_; simp [he]) | refine awp_block ?_ | refine And.intro ?_ ?_ | intro _ | (refine awp_skip ?_; simp [he]) | (refine awp_ret ?_; simp [he]) | (refine awp_exit ?_; simp [he]))))
    refine wireRead hs ?_
    ((try simp [he, Nt.zero_cs]); (repeat' (first | refine awp_seq ?_ | (refine awp_region tabOk ?_; simp [he, Nt.zero_cs]) | (refine awp_if ?_; simp [he, Nt.zero_cs]) | refine awp_block ?_ | refine And.intro ?_ ?_ | intro _ | (refine awp_skip ?_; simp [he, Nt.zero_cs]) | (refine awp_ret ?_; simp [he, Nt.zero_cs]) | (refine awp_exit ?_; simp [he, Nt.zero_cs]))))
    refine noteRead hs ?_
    ((try simp [he, Nt.zero_cs]); (repeat' (first | refine awp_seq ?_ | (refine awp_region tabOk ?_; simp [he, Nt.zero_cs]) | (refine awp_if ?_; simp [he, Nt.zero_cs]) | refine awp_block ?_ | refine And.intro ?_ ?_ | intro _ | (refine awp_skip ?_; simp [he, Nt.zero_cs]) | (refine awp_ret ?_; simp [he, Nt.zero_cs]) | (refine awp_exit ?_; simp [he, Nt.zero_cs]))))
    refine wireSum hs ?_
    ((try simp); (repeat' (first | refine awp_seq ?_ | (refine awp_region tabOk ?_; simp) | (refine awp_if ?_; simp) | refine awp_block ?_ | refine And.intro ?_ ?_ | intro _ | (refine awp_skip ?_; simp) | (refine awp_ret ?_; simp) | (refine awp_exit ?_; simp))))
    refine refSum hs ?_
    ((try simp); (repeat' (first | refine awp_seq ?_ | (refine awp_region tabOk ?_; simp) | (refine awp_if ?_; simp) | refine awp_block ?_ | refine And.intro ?_ ?_ | intro _ | (refine awp_skip ?_; simp) | (refine awp_ret ?_; simp) | (refine awp_exit ?_; simp))))
    refine ⟨_, wireCheck ⟨rfl, rfl⟩, ?_⟩
    ((try simp [he, Nt.eq_cs, Nt.ok_cs]); (repeat' (first | refine awp_seq ?_ | (refine awp_region tabOk ?_; simp [he, Nt.eq_cs, Nt.ok_cs]) | (refine awp_if ?_; simp [he, Nt.eq_cs, Nt.ok_cs]) | refine awp_block ?_ | refine And.intro ?_ ?_ | intro _ | (refine awp_skip ?_; simp [he, Nt.eq_cs, Nt.ok_cs]) | (refine awp_ret ?_; simp [he, Nt.eq_cs, Nt.ok_cs]) | (refine awp_exit ?_; simp [he, Nt.eq_cs, Nt.ok_cs]))))
    exact ⟨_, _, GcTo.refl (by simp), q _⟩
  · (repeat' (first | refine awp_seq ?_ | (refine awp_region tabOk ?_; simp [Nt.zero_cs]) | (refine awp_if ?_; simp [Nt.zero_cs]) | refine awp_block ?_ | refine And.intro ?_ ?_ | intro _ | (refine awp_skip ?_; simp [Nt.zero_cs]) | (refine awp_ret ?_; simp [Nt.zero_cs]) | (refine awp_exit ?_; simp [Nt.zero_cs])))
    refine noteErr ?_
    ((try simp [he]); (repeat' (first | refine awp_seq ?_ | (refine awp_region tabOk ?_; simp [he]) | (refine awp_if ?_; simp [he]) | refine awp_block ?_ | refine And.intro ?_ ?_ | intro _ | (refine awp_skip ?_; simp [he]) | (refine awp_ret ?_; simp [he]) | (refine awp_exit ?_; simp [he]))))
    refine wirePack (fun _ => ?_) (fun h => absurd h he)
    ((try simp [he]); (repeat' (first | refine awp_seq ?_ | (refine awp_region tabOk ?_; simp [he]) | (refine awp_if ?_; simp [he]) | refine awp_block ?_ | refine And.intro ?_ ?_ | intro _ | (refine awp_skip ?_; simp [he]) | (refine awp_ret ?_; simp [he]) | (refine awp_exit ?_; simp [he]))))
    refine wireRead hs ?_
    ((try simp [he, Nt.zero_cs]); (repeat' (first | refine awp_seq ?_ | (refine awp_region tabOk ?_; simp [he, Nt.zero_cs]) | (refine awp_if ?_; simp [he, Nt.zero_cs]) | refine awp_block ?_ | refine And.intro ?_ ?_ | intro _ | (refine awp_skip ?_; simp [he, Nt.zero_cs]) | (refine awp_ret ?_; simp [he, Nt.zero_cs]) | (refine awp_exit ?_; simp [he, Nt.zero_cs]))))
    refine noteRead hs ?_
    ((try simp [he, Nt.zero_cs]); (repeat' (first | refine awp_seq ?_ | (refine awp_region tabOk ?_; simp [he, Nt.zero_cs]) | (refine awp_if ?_; simp [he, Nt.zero_cs]) | refine awp_block ?_ | refine And.intro ?_ ?_ | intro _ | (refine awp_skip ?_; simp [he, Nt.zero_cs]) | (refine awp_ret ?_; simp [he, Nt.zero_cs]) | (refine awp_exit ?_; simp [he, Nt.zero_cs]))))
    refine wireSum hs ?_
    ((try simp); (repeat' (first | refine awp_seq ?_ | (refine awp_region tabOk ?_; simp) | (refine awp_if ?_; simp) | refine awp_block ?_ | refine And.intro ?_ ?_ | intro _ | (refine awp_skip ?_; simp) | (refine awp_ret ?_; simp) | (refine awp_exit ?_; simp))))
    refine refSum hs ?_
    ((try simp); (repeat' (first | refine awp_seq ?_ | (refine awp_region tabOk ?_; simp) | (refine awp_if ?_; simp) | refine awp_block ?_ | refine And.intro ?_ ?_ | intro _ | (refine awp_skip ?_; simp) | (refine awp_ret ?_; simp) | (refine awp_exit ?_; simp))))
    refine ⟨_, wireCheck ⟨rfl, rfl⟩, ?_⟩
    ((try simp [he, Nt.eq_cs, Nt.ok_cs]); (repeat' (first | refine awp_seq ?_ | (refine awp_region tabOk ?_; simp [he, Nt.eq_cs, Nt.ok_cs]) | (refine awp_if ?_; simp [he, Nt.eq_cs, Nt.ok_cs]) | refine awp_block ?_ | refine And.intro ?_ ?_ | intro _ | (refine awp_skip ?_; simp [he, Nt.eq_cs, Nt.ok_cs]) | (refine awp_ret ?_; simp [he, Nt.eq_cs, Nt.ok_cs]) | (refine awp_exit ?_; simp [he, Nt.eq_cs, Nt.ok_cs]))))
    exact ⟨_, _, GcTo.refl (by simp), q _⟩
end Go.Proofs.Ytdeockoaalpcjaa
