/- The walk of the law FnExactFromBits: it returns true, for every integer. -/
import Derived.Test.YtdolhljnbipmlaaFromB
import Derived.Below
namespace Go.Proofs.Ytdolhljnbipmlaa.fnExactFromBits
open Go.RowKit
set_option maxHeartbeats 400000 in
theorem walk (a0 : Int) (w : World) (_w0 : (Lit.int .i64 a0).wf = true) :
    Calls Try.prog 9 #[.int .i64 a0] w fun e w' => e = .returned (.bool true) ∧ Below w.heap.size w w' := by
  go_enter Try.func9, Try.ntmps9
  go_wp2_with (first
    | (go_at_call 25; refine (sFromBits_any _ _).mono ?_; rintro e w' ⟨rfl, rfl⟩)
    | (go_at_call 26; refine (FromBits_any _ _).mono ?_; rintro e w' ⟨rfl, rfl⟩)
    | (refine wpList_up rfl _ _ _ rfl _ rfl Try.underlying23 Try.underlying25 ?_; intro r n hr hrb)
    | (go_at_call 18; refine (sameFloat_eq _ _ _ (by simp only [*])).mono ?_; rintro e w' ⟨m, rfl, rfl⟩))
  go_ret
  exact ⟨rfl, below_drewN (Below.refl _ _) _⟩
end Go.Proofs.Ytdolhljnbipmlaa.fnExactFromBits
