/- MetaAsked, for arguments as they come. -/
import Derived.Test.YtehnahikfemodaaAskW
import Derived.Test.YtehnahikfemodaaOpz
namespace Go.Proofs.Ytehnahikfemodaa.Ct
open Go.ChangeShapes Go.WideShapes Go.RowKit Mm
theorem asked_row {H : Type} {enc : TypeId × Value → H} (W : World) {base b0 : Nat} {spare : Nat → Bool} {held : Bool} {r : Reach} {v : Value} {d : DataW H} {ps : List MemPlace} {ts : List TypeId} {ds : List (DataW H)}
    (hsz : (DataW.weightsEach Try.prog ts ds).all (· ≤ reachBytes) = true) (ht : ts[0]? = some 22) (hd : ds[0]? = some d) (hk : Rows.uptoBulk d ≤ 1048576) (hv : Value.okWide Try.prog W r b0 22 v)
    (h : DataW.Trod enc Try.prog W base spare held 22 v d ps) : Calls Try.prog 5 #[v] W (fun e w' => e = .returned (.bool true) ∧ Below W.heap.size W w') := by
  obtain ⟨A, m, c, ss, rfl, hr, hl, hm, _, hz, _⟩ := open_ex_z hsz ht hd hv h
  exact asked_law A m c ss W hr hl hm (by omega)
end Go.Proofs.Ytehnahikfemodaa.Ct
