/- ResyncOrder, for an argument as it comes. -/
import Derived.Test.YtdbidojncboalaaOrdWalk
namespace Go.Proofs.Ytdbidojncboalaa.Ct
open Go.ChangeShapes Go.WideShapes Go.RowKit Mm Rs
theorem order_row {H : Type} {enc : TypeId × Value → H} (W : World) {base b0 : Nat} {spare : Nat → Bool} {held : Bool} {r : Reach} {v : Value} {d : DataW H} {ps : List MemPlace} {ts : List TypeId} {ds : List (DataW H)}
    (hsz : (DataW.weightsEach Try.prog ts ds).all (· ≤ reachBytes) = true) (ht : ts[0]? = some 22) (hd : ds[0]? = some d) (hv : Value.okWide Try.prog W r b0 22 v)
    (h : DataW.Trod enc Try.prog W base spare held 22 v d ps) (a : Int) : Calls Try.prog 8 #[v, .int .i64 a] W (fun e w' => e = .returned (.bool true) ∧ Below W.heap.size W w') := by
  obtain ⟨A, m, c, ss, rfl, hr, hl, hR, hm⟩ := open_pieces_rds hsz ht hd hv h
  exact order_any A m c ss a W hr hl (by omega) hR
end Go.Proofs.Ytdbidojncboalaa.Ct
