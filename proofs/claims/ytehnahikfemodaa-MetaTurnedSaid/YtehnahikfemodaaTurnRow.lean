/- MetaTurned, for arguments as they come. -/
import Derived.Test.YtehnahikfemodaaTw
import Derived.Test.YtehnahikfemodaaOpz
namespace Go.Proofs.Ytehnahikfemodaa.Ct
open Go.ChangeShapes Go.WideShapes Go.RowKit Mm
theorem str_size {H : Type} {a : ByteArray} {ds : List (DataW H)} {ts : List TypeId} {j : Nat} {t : TypeId} (hsz : (DataW.weightsEach Try.prog ts ds).all (· ≤ reachBytes) = true) (ht : ts[j]? = some t) (hd : ds[j]? = some (.lit (.string a.data.toList))) : a.size ≤ 140737488351232 := by
  have := sized_string hsz ht hd
  have e : a.data.toList.length = a.size := by rw [Array.length_toList]; rfl
  have h2 : reachBytes = 140737488351232 := rfl
  omega
theorem turned_row {H : Type} {enc : TypeId × Value → H} (W : World) {base b2 : Nat} {spare2 : Nat → Bool} {held2 : Bool} {r2 : Reach} {v2 : Value} {d2 : DataW H} {p2 : List MemPlace}
    (high : Bool) (gap tail : ByteArray) (kind count value : Int) (hg : gap.size ≤ 140737488351232) (htl : tail.size ≤ 140737488351232)
    (hv2 : Value.okWide Try.prog W r2 b2 40 v2) (h2 : DataW.Trod enc Try.prog W base spare2 held2 40 v2 d2 p2) :
    Calls Try.prog 6 #[.bool high, .string gap, v2, .int .i64 kind, .int .i64 count, .int .i64 value, .string tail] W (fun e w' => e = .returned (.bool true) ∧ Below W.heap.size W w') := by
  obtain ⟨A2, m2, c2, s2, rfl, hr2, hl2, _, hb2⟩ := open_ints_z hv2 h2
  exact turned_law high gap tail A2 m2 c2 s2 kind count value W hg htl hr2 hl2 hb2
end Go.Proofs.Ytehnahikfemodaa.Ct
