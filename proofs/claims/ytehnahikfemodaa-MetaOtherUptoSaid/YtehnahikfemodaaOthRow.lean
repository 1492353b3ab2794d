/- MetaOther, for arguments as they come. -/
import Derived.Test.YtehnahikfemodaaOth
import Derived.Test.YtehnahikfemodaaOpz
namespace Go.Proofs.Ytehnahikfemodaa.Ct
open Go.ChangeShapes Go.WideShapes Go.RowKit Mm
theorem other_row {H : Type} {enc : TypeId × Value → H} (W : World) {base b0 b1 b2 : Nat} {spare spare1 spare2 : Nat → Bool} {held held1 held2 : Bool} {r r1 r2 : Reach} {v v1 v2 : Value} {d d1 d2 : DataW H} {ps ps1 ps2 : List MemPlace} {ts : List TypeId} {ds : List (DataW H)}
    (hsz : (DataW.weightsEach Try.prog ts ds).all (· ≤ reachBytes) = true) (ht : ts[0]? = some 22) (hd : ds[0]? = some d) (ht1 : ts[1]? = some 22) (hd1 : ds[1]? = some d1) (hk : Rows.uptoBulk d + (Rows.uptoBulk d1 + Rows.uptoBulk d2) ≤ 1048576)
    (hv : Value.okWide Try.prog W r b0 22 v) (h : DataW.Trod enc Try.prog W base spare held 22 v d ps) (hv1 : Value.okWide Try.prog W r1 b1 22 v1) (h1 : DataW.Trod enc Try.prog W base spare1 held1 22 v1 d1 ps1)
    (hv2 : Value.okWide Try.prog W r2 b2 40 v2) (h2 : DataW.Trod enc Try.prog W base spare2 held2 40 v2 d2 ps2) : Calls Try.prog 9 #[v, v1, v2] W (fun e w' => e = .returned (.bool true) ∧ Below W.heap.size W w') := by
  obtain ⟨A, m, c, ss, rfl, hr, hl, _, _, hz, _, hm⟩ := open_ex_z hsz ht hd hv h
  obtain ⟨A1, m1, c1, ss1, rfl, hr1, hl1, _, hz1, _, _, hm1⟩ := open_ex_z hsz ht1 hd1 hv1 h1
  obtain ⟨A2, m2, c2, ss2, rfl, hr2, hl2, hm2, _⟩ := open_ints_z hv2 h2
  exact other_law A A1 A2 m m1 m2 c c1 c2 ss ss1 ss2 W hr hl hr1 hl1 hr2 hl2 (by omega) (by omega) (by omega) (by omega) (fun x hx => by have := hz1 x hx; simp only [maxLen] at this; omega)
end Go.Proofs.Ytehnahikfemodaa.Ct
