/- DamageFull, as the row asks for it. -/
import Derived.Test.YtclidonogebgkaaFw
namespace Go.Proofs.Ytclidonogebgkaa.Ct
open Go.ChangeShapes Go.WideShapes Go.RowKit Mm
theorem full_row (W : World) : Calls Try.prog 5 #[] W (fun e w' => e = .returned (.bool true) ∧ Below W.heap.size W w') :=
  (full5 W).mono fun _ _ ⟨he, ho⟩ => ⟨he, ho.below_no⟩
end Go.Proofs.Ytclidonogebgkaa.Ct
