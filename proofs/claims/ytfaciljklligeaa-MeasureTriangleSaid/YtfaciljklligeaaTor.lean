/- TopApart, for arguments as they come. -/
import Derived.Test.YtfaciljklligeaaTo
import Derived.Test.YtfaciljklligeaaOp
namespace Go.Proofs.Ytfaciljklligeaa.Ct
open Go.ChangeShapes Go.WideShapes Go.RowKit Mm
theorem weights_of {H : Type} {ts : List TypeId} {ds : List (DataW H)} (hsz : (DataW.weightsEach Try.prog ts ds).all (· ≤ reachBytes) = true) {j : Nat} {t : TypeId} {d : DataW H} (ht : ts[j]? = some t) (hd : ds[j]? = some d) : ∀ k ∈ d.weights Try.prog t, k ≤ reachBytes := by
  intro k hk
  have := List.all_eq_true.1 hsz _ (DataW.weights_mem_each ht hd k hk)
  simpa using this
theorem top_row {H : Type} {enc : TypeId × Value → H} {d d2 : DataW H} {ds : List (DataW H)} {ts : List TypeId} (W : World) (hsz : (DataW.weightsEach Try.prog ts ds).all (· ≤ reachBytes) = true) (ht0 : ts[0]? = some 32) (ht1 : ts[1]? = some 32) (hd0 : ds[0]? = some d) (hd1 : ds[1]? = some d2)
    {base b0 : Nat} {spare : Nat → Bool} {held : Bool} {r : Reach} (v : Value) (ps : List MemPlace)
    (hv : Value.okWide Try.prog W r b0 32 v) (h : DataW.Trod enc Try.prog W base spare held 32 v d ps)
    {base2 b2 : Nat} {spare2 : Nat → Bool} {held2 : Bool} {r2 : Reach} (v2 : Value) (ps2 : List MemPlace)
    (hv2 : Value.okWide Try.prog W r2 b2 32 v2) (h2 : DataW.Trod enc Try.prog W base2 spare2 held2 32 v2 d2 ps2) : Calls Try.prog 11 #[v, v2] W (fun e w' => e = .returned (.bool true) ∧ Below W.heap.size W w') := by
  obtain ⟨iw, ih, ic, A, c, l, rfl, hr, hb, hz⟩ := open_image hv h
  obtain ⟨iw2, ih2, ic2, A2, c2, l2, rfl, hr2, hb2, hz2⟩ := open_image hv2 h2
  exact (top11 W iw ih ic A c l iw2 ih2 ic2 A2 c2 l2 hr hr2 (hz (weights_of hsz ht0 hd0)) (hz2 (weights_of hsz ht1 hd1)) hb hb2).mono fun e w' ⟨he, ho⟩ => ⟨he, ho.below_no⟩
end Go.Proofs.Ytfaciljklligeaa.Ct
