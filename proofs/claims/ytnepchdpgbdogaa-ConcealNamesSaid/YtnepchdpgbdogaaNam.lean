/- ConcealNames: the walk. -/
import Derived.Test.YtnepchdpgbdogaaAv
namespace Go.Proofs.Ytnepchdpgbdogaa.Ct
open Go.ChangeShapes Go.WideShapes Go.RowKit Mm
theorem names_law (w : World) : Calls Try.prog 5 #[] w fun e w' => e = .returned (.bool true) ∧ Below w.heap.size w w' := by
  go_enter Try.func5, Try.ntmps5
  go_wp2_with (first | (go_at_call 19; refine (alive19 _).mono ?_; rintro e w7 ⟨rfl, o7⟩; have O7 := Lib.hid o7; clear o7))
  go_ret
  exact ⟨by simp, O7.out.below_no⟩
end Go.Proofs.Ytnepchdpgbdogaa.Ct
