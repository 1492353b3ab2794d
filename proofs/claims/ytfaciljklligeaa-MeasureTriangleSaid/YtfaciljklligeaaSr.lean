/- MeasureSelf, for arguments as they come. -/
import Derived.Test.YtfaciljklligeaaSf
import Derived.Test.YtfaciljklligeaaAw
import Derived.Test.YtfaciljklligeaaTor
namespace Go.Proofs.Ytfaciljklligeaa.Ct
open Go.ChangeShapes Go.WideShapes Go.RowKit Mm
/-- a list of bytes, opened -/
theorem bytes_of {H : Type} {enc : TypeId × Value → H} {d : DataW H} (W : World) {base b0 : Nat} {spare : Nat → Bool} {held : Bool} {r : Reach} (v : Value) (ps : List MemPlace)
    (hv : Value.okWide Try.prog W r b0 30 v) (h : DataW.Trod enc Try.prog W base spare held 30 v d ps) (hw : ∀ k ∈ d.weights Try.prog 30, k ≤ reachBytes) :
    ∃ A c l, v = .slice A l.length c ∧ Rds W 1 A l.length (byC l) ∧ Byts l ∧ l.length ≤ 140737488351232 := by
  obtain ⟨fuel, hf⟩ := h
  obtain ⟨A, m, c, l, e, hr, hl, hb, hz⟩ := open_bytes hf
  obtain ⟨a', n', c', rfl⟩ := okWide_slice Try.underlying30 hv
  simp [Value.cells] at e
  obtain ⟨rfl, rfl, rfl⟩ := e
  subst hl
  exact ⟨_, _, l, rfl, hr, hb, hz hw⟩
theorem self_row {H : Type} {enc : TypeId × Value → H} {d d2 : DataW H} {ds : List (DataW H)} {ts : List TypeId} (W : World) (hsz : (DataW.weightsEach Try.prog ts ds).all (· ≤ reachBytes) = true) (ht0 : ts[3]? = some 30) (ht1 : ts[4]? = some 30) (hd0 : ds[3]? = some d) (hd1 : ds[4]? = some d2)
    (a b k m : Int)
    {base b0 : Nat} {spare : Nat → Bool} {held : Bool} {r : Reach} (v : Value) (ps : List MemPlace)
    (hv : Value.okWide Try.prog W r b0 30 v) (h : DataW.Trod enc Try.prog W base spare held 30 v d ps)
    {base2 b2 : Nat} {spare2 : Nat → Bool} {held2 : Bool} {r2 : Reach} (v2 : Value) (ps2 : List MemPlace)
    (hv2 : Value.okWide Try.prog W r2 b2 30 v2) (h2 : DataW.Trod enc Try.prog W base2 spare2 held2 30 v2 d2 ps2) : Calls Try.prog 7 #[.int .i64 a, .int .i64 b, .int .i64 k, v, v2, .int .i64 m] W (fun e w' => e = .returned (.bool true) ∧ Below W.heap.size W w') := by
  obtain ⟨A, c, l, rfl, hr, hb, hz⟩ := bytes_of W v ps hv h (weights_of hsz ht0 hd0)
  obtain ⟨A2, c2, l2, rfl, hr2, hb2, hz2⟩ := bytes_of W v2 ps2 hv2 h2 (weights_of hsz ht1 hd1)
  exact (self7 awake12 W a b k A c l A2 c2 l2 m hr hr2 hz hz2 hb hb2).mono fun e w' ⟨he, ho⟩ => ⟨he, ho.below_no⟩
end Go.Proofs.Ytfaciljklligeaa.Ct
