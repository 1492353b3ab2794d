/- ResyncGroups, for an argument as it comes. -/
import Derived.Test.YtdbidojncboalaaGroups
import Derived.Test.YtdbidojncboalaaOpn
namespace Go.Proofs.Ytdbidojncboalaa.Ct
open Go.ChangeShapes Go.WideShapes Go.RowKit Mm Rs
theorem groups_row {H : Type} {enc : TypeId × Value → H} (W : World) (a : Int) {base b0 : Nat} {spare : Nat → Bool} {held : Bool} {r : Reach} {v : Value} {d : DataW H} {ps : List MemPlace} (hv : Value.okWide Try.prog W r b0 39 v)
    (h : DataW.Trod enc Try.prog W base spare held 39 v d ps) : Calls Try.prog 6 #[.int .i64 a, v] W (fun e w' => e = .returned (.bool true) ∧ Below W.heap.size W w') := by
  obtain ⟨A, m, c, ss, rfl, hr, hl⟩ := open_ints_rds hv h
  exact groups_any a A m c ss W hr hl
end Go.Proofs.Ytdbidojncboalaa.Ct
