/- MeasureMean, for arguments as they come. -/
import Derived.Test.YtfaciljklligeaaMe
import Derived.Test.YtfaciljklligeaaTor
namespace Go.Proofs.Ytfaciljklligeaa.Ct
open Go.ChangeShapes Go.WideShapes Go.RowKit Mm
/-- a list of floats, opened -/
theorem floats_of {H : Type} {enc : TypeId × Value → H} {d : DataW H} (W : World) {base b0 : Nat} {spare : Nat → Bool} {held : Bool} {r : Reach} (v : Value) (ps : List MemPlace)
    (hv : Value.okWide Try.prog W r b0 22 v) (h : DataW.Trod enc Try.prog W base spare held 22 v d ps) (hw : ∀ k ∈ d.weights Try.prog 22, k ≤ reachBytes) :
    ∃ A c l, v = .slice A l.length c ∧ Rds W 1 A l.length (flC l) ∧ (∀ b ∈ l, b < 2 ^ 64) ∧ l.length ≤ 17592186043904 := by
  obtain ⟨fuel, hf⟩ := h
  obtain ⟨A, m, c, l, e, hr, hl, hb, hz⟩ := open_floats hf
  obtain ⟨a', n', c', rfl⟩ := okWide_slice Try.underlying22 hv
  simp [Value.cells] at e
  obtain ⟨rfl, rfl, rfl⟩ := e
  subst hl
  exact ⟨_, _, l, rfl, hr, hb, hz hw⟩
theorem mean_row {H : Type} {enc : TypeId × Value → H} {d d2 : DataW H} {ds : List (DataW H)} {ts : List TypeId} (W : World) (hsz : (DataW.weightsEach Try.prog ts ds).all (· ≤ reachBytes) = true) (ht0 : ts[0]? = some 22) (ht1 : ts[1]? = some 22) (hd0 : ds[0]? = some d) (hd1 : ds[1]? = some d2)
    {base b0 : Nat} {spare : Nat → Bool} {held : Bool} {r : Reach} (v : Value) (ps : List MemPlace)
    (hv : Value.okWide Try.prog W r b0 22 v) (h : DataW.Trod enc Try.prog W base spare held 22 v d ps)
    {base2 b2 : Nat} {spare2 : Nat → Bool} {held2 : Bool} {r2 : Reach} (v2 : Value) (ps2 : List MemPlace)
    (hv2 : Value.okWide Try.prog W r2 b2 22 v2) (h2 : DataW.Trod enc Try.prog W base2 spare2 held2 22 v2 d2 ps2) : Calls Try.prog 3 #[v, v2] W (fun e w' => e = .returned (.bool true) ∧ Below W.heap.size W w') := by
  obtain ⟨A, c, l, rfl, hr, hb, hz⟩ := floats_of W v ps hv h (weights_of hsz ht0 hd0)
  obtain ⟨A2, c2, l2, rfl, hr2, hb2, hz2⟩ := floats_of W v2 ps2 hv2 h2 (weights_of hsz ht1 hd1)
  exact (mean3 W A c l A2 c2 l2 hr hr2 hz hb).mono fun e w' ⟨he, ho⟩ => ⟨he, ho.below_no⟩
end Go.Proofs.Ytfaciljklligeaa.Ct
