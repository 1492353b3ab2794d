/- The walk of ResyncNames. -/
import Derived.Test.YtdbidojncboalaaAlive
namespace Go.Proofs.Ytdbidojncboalaa.Ct
open Go.ChangeShapes Go.WideShapes Go.RowKit Mm Rs
theorem names_any (w : World) : Calls Try.prog 4 #[] w (fun e w' => e = .returned (.bool true) ∧ Below w.heap.size w w') := by
  go_enter Try.func4, Try.ntmps4
  go_wp2_with (first | (go_at_call 22; refine (alive_any _).mono ?_; rintro e w' ⟨rfl, ho⟩))
  go_ret
  exact ⟨rfl, ho.below_no⟩
end Go.Proofs.Ytdbidojncboalaa.Ct
