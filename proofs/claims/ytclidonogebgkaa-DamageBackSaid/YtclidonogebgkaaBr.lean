/- DamageBack, for arguments as they come. -/
import Derived.Test.YtclidonogebgkaaBw
import Derived.Test.YtclidonogebgkaaOp
namespace Go.Proofs.Ytclidonogebgkaa.Ct
open Go.ChangeShapes Go.WideShapes Go.RowKit Mm
theorem back_row {H : Type} {enc : TypeId × Value → H} {d : DataW H} {ds : List (DataW H)} {ts : List TypeId} (W : World) (hsz : (DataW.weightsEach Try.prog ts ds).all (· ≤ reachBytes) = true) (ht1 : ts[1]? = some 22) (hd1 : ds[1]? = some d) (a : Int)
    {base b0 : Nat} {spare : Nat → Bool} {held : Bool} {r : Reach} (v : Value) (ps : List MemPlace)
    (hv : Value.okWide Try.prog W r b0 22 v) (h : DataW.Trod enc Try.prog W base spare held 22 v d ps) : Calls Try.prog 4 #[.int .i64 a, v] W (fun e w' => e = .returned (.bool true) ∧ Below W.heap.size W w') := by
  obtain ⟨A, c, l, rfl, hr, hc, hl, hA⟩ := open_flags W v ps hv h (weights_of hsz ht1 hd1)
  exact (back4 W a A c l hr hc hl hA).mono fun e w' ⟨he, ho⟩ => ⟨he, ho.below_no⟩
end Go.Proofs.Ytclidonogebgkaa.Ct
