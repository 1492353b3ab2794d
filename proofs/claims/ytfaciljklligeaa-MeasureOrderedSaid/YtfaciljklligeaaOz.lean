/- MeasureOrdered, for an argument as it comes. -/
import Derived.Test.YtfaciljklligeaaOw
import Derived.Test.YtfaciljklligeaaMr
namespace Go.Proofs.Ytfaciljklligeaa.Ct
open Go.ChangeShapes Go.WideShapes Go.RowKit Mm
theorem ordered_row {H : Type} {enc : TypeId × Value → H} {d : DataW H} {ds : List (DataW H)} {ts : List TypeId} (W : World) (hsz : (DataW.weightsEach Try.prog ts ds).all (· ≤ reachBytes) = true) (ht0 : ts[0]? = some 22) (hd0 : ds[0]? = some d)
    {base b0 : Nat} {spare : Nat → Bool} {held : Bool} {r : Reach} (v : Value) (ps : List MemPlace)
    (hv : Value.okWide Try.prog W r b0 22 v) (h : DataW.Trod enc Try.prog W base spare held 22 v d ps) : Calls Try.prog 9 #[v] W (fun e w' => e = .returned (.bool true) ∧ Below W.heap.size W w') := by
  obtain ⟨A, c, l, rfl, hr, hb, hz⟩ := floats_of W v ps hv h (weights_of hsz ht0 hd0)
  exact (ordered9 W A c l hr hz hb).mono fun e w' ⟨he, ho⟩ => ⟨he, ho.below_no⟩
end Go.Proofs.Ytfaciljklligeaa.Ct
