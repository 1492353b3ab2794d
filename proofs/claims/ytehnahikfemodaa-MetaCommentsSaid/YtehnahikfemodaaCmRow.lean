/- MetaComments, for arguments as they come. -/
import Derived.Test.YtehnahikfemodaaCmWalk
import Derived.Test.YtehnahikfemodaaOpn
namespace Go.Proofs.Ytehnahikfemodaa.Ct
open Go.ChangeShapes Go.WideShapes Go.RowKit Mm
theorem comments_row {H : Type} {enc : TypeId × Value → H} (W : World) {base b0 b1 : Nat} {spare spare1 : Nat → Bool} {held held1 : Bool} {r r1 : Reach} {v v1 : Value} {d d1 : DataW H} {ps ps1 : List MemPlace} {ts : List TypeId} {ds : List (DataW H)}
    (hsz : (DataW.weightsEach Try.prog ts ds).all (· ≤ reachBytes) = true) (ht : ts[0]? = some 22) (hd : ds[0]? = some d) (hv : Value.okWide Try.prog W r b0 22 v)
    (h : DataW.Trod enc Try.prog W base spare held 22 v d ps) (ht1 : ts[1]? = some 22) (hd1 : ds[1]? = some d1) (hv1 : Value.okWide Try.prog W r1 b1 22 v1)
    (h1 : DataW.Trod enc Try.prog W base spare1 held1 22 v1 d1 ps1) : Calls Try.prog 3 #[v, v1] W (fun e w' => e = .returned (.bool true) ∧ Below W.heap.size W w') := by
  obtain ⟨A, m, c, ss, rfl, hr, hl, hm⟩ := open_ex_rds hsz ht hd hv h
  obtain ⟨A1, m1, c1, ss1, rfl, hr1, hl1, hm1⟩ := open_ex_rds hsz ht1 hd1 hv1 h1
  exact comments_law A A1 m m1 c c1 ss ss1 W hr hl hm hr1 hl1 hm1
end Go.Proofs.Ytehnahikfemodaa.Ct
