/- A place from 0 to n. -/
import Derived.Test.YtehnahikfemodaaCm
namespace Go.Proofs.Ytehnahikfemodaa.Ct
open Go.ChangeShapes Go.WideShapes Go.RowKit Mm
theorem emod_tmod (k n : Int) (hn : 0 < n) : k % n = if Int.tmod k n < 0 then Int.tmod k n + n else Int.tmod k n := by
  have h := Int.tmod_eq_emod (a := k) (b := n)
  have h0 := Int.emod_nonneg k (show n ≠ 0 by omega)
  have h1 := Int.emod_lt_of_pos k hn
  rw [h]
  have e : (n.natAbs : Int) = n := by omega
  split
  · rw [if_neg (by omega)]; omega
  · rw [e]
    rename_i h2
    have : k % n ≠ 0 := fun h3 => h2 (.inr (Int.dvd_of_emod_eq_zero h3))
    rw [if_pos (by omega)]; omega
set_option maxHeartbeats 400000 in
theorem place_any (k n : Int) (w : World) (h1 : 0 ≤ n) (h2 : n ≤ 1000000000000) : Calls Try.prog 22 #[.int .i64 k, .int .i64 n] w fun e w' => e = .returned (.int .i64 (k % (n + 1))) ∧ w = w' := by
  have hne : n + 1 ≠ 0 := by omega
  have hb : Int.tmod k (n + 1) < n + 1 := Int.tmod_lt_of_pos k (by omega)
  have hc : -(n + 1) < Int.tmod k (n + 1) := Int.lt_tmod_of_pos k (by omega)
  have he := Lib.hid (emod_tmod k (n + 1) (by omega))
  by_cases hm : Int.tmod k (n + 1) < 0
  · go_enter Try.func22, Try.ntmps22
    go_wp2
    go_ret
    exact ⟨by rw [he.out, if_pos hm, ← Int.add_assoc]; rfl, rfl⟩
  · go_enter Try.func22, Try.ntmps22
    go_wp2
    go_ret
    exact ⟨by rw [he.out, if_neg (by omega)]; rfl, rfl⟩
end Go.Proofs.Ytehnahikfemodaa.Ct
