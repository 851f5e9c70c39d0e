/- The walk over codes as a tactic. -/
import Derived.Test.YtdeockoaalpcjaaTab
import Derived.Test.YtdeockoaalpcjaaB1
namespace Go.Proofs.Ytdeockoaalpcjaa
open Go.RowKit
theorem mixed : Try.prog.follows .mixedOrders = true := by kernel_rfl
/-- Steps through a code by simp with these facts, as far as a call, a loop, a drawn region. -/
macro "walk" "[" ts:Lean.Parser.Tactic.simpLemma,* "]" : tactic => `(tactic| repeat' (first
    | refine awp_seq ?_
    | (refine awp_region tabOk ?_; simp [$ts,*])
    | (refine awp_if ?_; simp [$ts,*])
    | refine awp_block ?_
    | refine And.intro ?_ ?_
    | intro _
    | (refine awp_skip ?_; simp [$ts,*]) | (refine awp_ret ?_; simp [$ts,*]) | (refine awp_exit ?_; simp [$ts,*])))
/-- Behind a call, or behind a drawn region: what is left of the region, then onward. -/
macro "onward" "[" ts:Lean.Parser.Tactic.simpLemma,* "]" : tactic => `(tactic| ((try simp [$ts,*]); walk [$ts,*]))
end Go.Proofs.Ytdeockoaalpcjaa
