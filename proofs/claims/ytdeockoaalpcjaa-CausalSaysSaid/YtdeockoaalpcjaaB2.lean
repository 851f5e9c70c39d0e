/- Mixed orders are what this program follows. -/
import Derived.Test.YtdeockoaalpcjaaTab
import Derived.Test.YtdeockoaalpcjaaB1
import Derived.KernelRfl
namespace Go.Proofs.Ytdeockoaalpcjaa
open Go.RowKit
theorem mixed : Try.prog.follows .mixedOrders = true := by kernel_rfl
end Go.Proofs.Ytdeockoaalpcjaa
