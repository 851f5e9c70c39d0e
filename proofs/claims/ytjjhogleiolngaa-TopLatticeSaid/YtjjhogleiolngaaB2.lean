/- Mixed orders are what this program follows. -/
import Derived.Test.YtjjhogleiolngaaTab
import Derived.Test.YtjjhogleiolngaaB1
import Derived.KernelRfl
namespace Go.Proofs.Ytjjhogleiolngaa
open Go.RowKit
theorem mixed : Try.prog.follows .mixedOrders = true := by kernel_rfl
end Go.Proofs.Ytjjhogleiolngaa
