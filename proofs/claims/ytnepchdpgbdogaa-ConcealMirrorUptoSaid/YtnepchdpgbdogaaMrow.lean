/- ConcealMirror, for arguments as they come. -/
import Derived.Test.YtnepchdpgbdogaaMr
import Derived.Test.YtnepchdpgbdogaaSn
namespace Go.Proofs.Ytnepchdpgbdogaa.Ct
open Go.ChangeShapes Go.WideShapes Go.RowKit Mm
theorem mirror_row {H : Type} {enc : TypeId × Value → H} (W : World) {base b0 : Nat} {spare : Nat → Bool} {held : Bool} {r : Reach} (v : Value) (d : DataW H) (ps : List MemPlace)
    (hv : Value.okWide Try.prog W r b0 27 v) (h : DataW.Trod enc Try.prog W base spare held 27 v d ps) : Calls Try.prog 8 #[v] W (fun e w' => e = .returned (.bool true) ∧ Below W.heap.size W w') := by
  obtain ⟨gw, gh, A, c, sw, sh, F, fc, fl, bs, rfl, hF, hA, hb, _, _, hsw, hsh, _, _⟩ := open_scene hv h
  exact (mirror8 W gw gh A c sw sh F fc fl bs hF hA hb hsw hsh).mono fun e w' ⟨he, ho⟩ => ⟨he, ho.below_no⟩
end Go.Proofs.Ytnepchdpgbdogaa.Ct
