/- MeasureTriangle, for arguments as they come. -/
import Derived.Test.YtfaciljklligeaaTg
import Derived.Test.YtfaciljklligeaaSr
namespace Go.Proofs.Ytfaciljklligeaa.Ct
open Go.ChangeShapes Go.WideShapes Go.RowKit Mm
theorem tri_row {H : Type} {enc : TypeId × Value → H} {d d2 d3 : DataW H} {ds : List (DataW H)} {ts : List TypeId} (W : World) (hsz : (DataW.weightsEach Try.prog ts ds).all (· ≤ reachBytes) = true) (ht0 : ts[3]? = some 30) (ht1 : ts[4]? = some 30) (ht2 : ts[5]? = some 30) (hd0 : ds[3]? = some d) (hd1 : ds[4]? = some d2) (hd2 : ds[5]? = some d3)
    (a b k : Int)
    {base b0 : Nat} {spare : Nat → Bool} {held : Bool} {r : Reach} (v : Value) (ps : List MemPlace)
    (hv : Value.okWide Try.prog W r b0 30 v) (h : DataW.Trod enc Try.prog W base spare held 30 v d ps)
    {base2 b2 : Nat} {spare2 : Nat → Bool} {held2 : Bool} {r2 : Reach} (v2 : Value) (ps2 : List MemPlace)
    (hv2 : Value.okWide Try.prog W r2 b2 30 v2) (h2 : DataW.Trod enc Try.prog W base2 spare2 held2 30 v2 d2 ps2)
    {base3 b3 : Nat} {spare3 : Nat → Bool} {held3 : Bool} {r3 : Reach} (v3 : Value) (ps3 : List MemPlace)
    (hv3 : Value.okWide Try.prog W r3 b3 30 v3) (h3 : DataW.Trod enc Try.prog W base3 spare3 held3 30 v3 d3 ps3) : Calls Try.prog 10 #[.int .i64 a, .int .i64 b, .int .i64 k, v, v2, v3] W (fun e w' => e = .returned (.bool true) ∧ Below W.heap.size W w') := by
  obtain ⟨A, c, l, rfl, hr, hb, hz⟩ := bytes_of W v ps hv h (weights_of hsz ht0 hd0)
  obtain ⟨A2, c2, l2, rfl, hr2, hb2, hz2⟩ := bytes_of W v2 ps2 hv2 h2 (weights_of hsz ht1 hd1)
  obtain ⟨A3, c3, l3, rfl, hr3, hb3, hz3⟩ := bytes_of W v3 ps3 hv3 h3 (weights_of hsz ht2 hd2)
  exact (tri10 awake12 W a b k A c l A2 c2 l2 A3 c3 l3 hr hr2 hr3 hz hz2 hz3 hb hb2 hb3).mono fun e w' ⟨he, ho⟩ => ⟨he, ho.below_no⟩
end Go.Proofs.Ytfaciljklligeaa.Ct
