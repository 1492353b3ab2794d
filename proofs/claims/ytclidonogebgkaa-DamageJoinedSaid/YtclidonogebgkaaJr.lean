/- DamageJoined, for arguments as they come. -/
import Derived.Test.YtclidonogebgkaaJw
namespace Go.Proofs.Ytclidonogebgkaa.Ct
open Go.ChangeShapes Go.WideShapes Go.RowKit Mm
theorem joined_row {H : Type} {enc : TypeId × Value → H} {d d2 : DataW H} {ds : List (DataW H)} {ts : List TypeId} (W : World) (hsz : (DataW.weightsEach Try.prog ts ds).all (· ≤ reachBytes) = true) (ht1 : ts[1]? = some 22) (ht2 : ts[2]? = some 22) (hd1 : ds[1]? = some d) (hd2 : ds[2]? = some d2) (a : Int)
    {base b0 : Nat} {spare : Nat → Bool} {held : Bool} {r : Reach} (v : Value) (ps : List MemPlace)
    (hv : Value.okWide Try.prog W r b0 22 v) (h : DataW.Trod enc Try.prog W base spare held 22 v d ps)
    {base2 b2 : Nat} {spare2 : Nat → Bool} {held2 : Bool} {r2 : Reach} (v2 : Value) (ps2 : List MemPlace)
    (hv2 : Value.okWide Try.prog W r2 b2 22 v2) (h2 : DataW.Trod enc Try.prog W base2 spare2 held2 22 v2 d2 ps2) : Calls Try.prog 6 #[.int .i64 a, v, v2] W (fun e w' => e = .returned (.bool true) ∧ Below W.heap.size W w') := by
  obtain ⟨A, c, l, rfl, hr, hc, hl, hA⟩ := open_flags W v ps hv h (weights_of hsz ht1 hd1)
  obtain ⟨A2, c2, l2, rfl, hr2, hc2, hl2, hA2⟩ := open_flags W v2 ps2 hv2 h2 (weights_of hsz ht2 hd2)
  exact (joined6 W a A c l A2 c2 l2 hr hc hl hA hr2 hc2 hl2 hA2).mono fun e w' ⟨he, ho⟩ => ⟨he, ho.below_no⟩
end Go.Proofs.Ytclidonogebgkaa.Ct
