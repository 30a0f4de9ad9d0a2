/- The walk of the law FnExactConstants: it returns true. -/
import Derived.Test.YtdolhljnbipmlaaRows
import Derived.WalkKit
import Derived.Below
namespace Go.Proofs.Ytdolhljnbipmlaa.fnExactConstants
open Go.RowKit
set_option maxHeartbeats 400000 in
theorem walk (w : World) :
    Calls Try.prog 3 #[] w fun e w' => e = .returned (.bool true) ∧ Below w.heap.size w w' := by
  go_enter Try.func3, Try.ntmps3
  go_wp2
  go_ret
  exact ⟨rfl, Below.refl _ _⟩
end Go.Proofs.Ytdolhljnbipmlaa.fnExactConstants
