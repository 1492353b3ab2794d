/- ConcealFill, for arguments as they come. -/
import Derived.Test.YtnepchdpgbdogaaFx
import Derived.Test.YtnepchdpgbdogaaSn
namespace Go.Proofs.Ytnepchdpgbdogaa.Ct
open Go.ChangeShapes Go.WideShapes Go.RowKit Mm
theorem fill_row {H : Type} {enc : TypeId × Value → H} {d d2 : DataW H} (W : World) (hk : Rows.uptoSmall H ([d, d2] ++ []) = true) {base b0 : Nat} {spare : Nat → Bool} {held : Bool} {r : Reach} (v : Value) (_ : DataW H) (ps : List MemPlace)
    (hv : Value.okWide Try.prog W r b0 27 v) (h : DataW.Trod enc Try.prog W base spare held 27 v d ps)
    {base2 b2 : Nat} {spare2 : Nat → Bool} {held2 : Bool} {r2 : Reach} (v2 : Value) (_ : DataW H) (ps2 : List MemPlace)
    (hv2 : Value.okWide Try.prog W r2 b2 27 v2) (h2 : DataW.Trod enc Try.prog W base2 spare2 held2 27 v2 d2 ps2) : Calls Try.prog 4 #[v, v2] W (fun e w' => e = .returned (.bool true) ∧ Below W.heap.size W w') := by
  simp only [Rows.uptoSmall, decide_eq_true_eq, List.append_nil, Rows.uptoBulkAll] at hk
  obtain ⟨gw, gh, A, c, sw, sh, F, fc, fl, bs, rfl, hF, hA, hb, _, _, hsw, hsh, hu, _⟩ := open_scene hv h
  obtain ⟨gw', gh', A', c', sw', sh', F', fc', fl', bs', rfl, hF', hA', hb', _, _, hsw', hsh', hu', _⟩ := open_scene hv2 h2
  exact (conceal4 W gw gh A c bs.length sw sh F fc fl bs rfl hF hA hb hsw hsh (by omega) gw' gh' A' c' bs'.length sw' sh' F' fc' fl' bs' rfl hF' hA' hb' hsw' hsh' (by omega)).mono fun e w' ⟨he, ho⟩ => ⟨he, ho.below_no⟩
end Go.Proofs.Ytnepchdpgbdogaa.Ct
