/- ConcealBlind, for arguments as they come. -/
import Derived.Test.YtnepchdpgbdogaaBd
import Derived.Test.YtnepchdpgbdogaaSn
namespace Go.Proofs.Ytnepchdpgbdogaa.Ct
open Go.ChangeShapes Go.WideShapes Go.RowKit Mm
theorem open_blks {H : Type} {enc : TypeId × Value → H} {W : World} {base b0 : Nat} {spare : Nat → Bool} {held : Bool} {r : Reach} {v : Value} {d : DataW H} {ps : List MemPlace}
    (hv : Value.okWide Try.prog W r b0 22 v) (h : DataW.Trod enc Try.prog W base spare held 22 v d ps) : ∃ A m c bs, v = .slice A m c ∧ Rds W 64 A m (bsC bs) ∧ bs.length = m ∧ Bls bs ∧ m ≤ Rows.uptoBulk d := by
  obtain ⟨A, m, c, rfl⟩ := okWide_slice Try.underlying22 hv
  obtain ⟨fuel, hf⟩ := h
  obtain ⟨A', m', c', bs, e, hr, hl, hb, hu⟩ := open_blocks hf
  simp [Value.cells] at e
  obtain ⟨rfl, rfl, rfl⟩ := e
  exact ⟨A, m, c, bs, rfl, hr, hl, hb, hu⟩
theorem blind_row {H : Type} {enc : TypeId × Value → H} (W : World) {base b0 : Nat} {spare : Nat → Bool} {held : Bool} {r : Reach} (v : Value) (d : DataW H) (ps : List MemPlace)
    (hv : Value.okWide Try.prog W r b0 27 v) (h : DataW.Trod enc Try.prog W base spare held 27 v d ps)
    {base2 b2 : Nat} {spare2 : Nat → Bool} {held2 : Bool} {r2 : Reach} (v2 : Value) (d2 : DataW H) (ps2 : List MemPlace)
    (hv2 : Value.okWide Try.prog W r2 b2 22 v2) (h2 : DataW.Trod enc Try.prog W base2 spare2 held2 22 v2 d2 ps2) : Calls Try.prog 7 #[v, v2] W (fun e w' => e = .returned (.bool true) ∧ Below W.heap.size W w') := by
  obtain ⟨gw, gh, A, c, sw, sh, F, fc, fl, bs, rfl, hF, hA, hb, _, _, hsw, hsh, _, _⟩ := open_scene hv h
  obtain ⟨Z, m, zc, os, rfl, hZ, hl, ho, _⟩ := open_blks hv2 h2
  subst hl
  exact (blind7 W gw gh A c sw sh F fc fl bs hF hA hb hsw hsh Z zc os hZ ho).mono fun e w' ⟨he, ho⟩ => ⟨he, ho.below_no⟩
end Go.Proofs.Ytnepchdpgbdogaa.Ct
