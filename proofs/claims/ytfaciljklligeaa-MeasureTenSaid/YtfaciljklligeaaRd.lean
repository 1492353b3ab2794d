/- The law's round. -/
import Derived.Test.YtfaciljklligeaaTw
namespace Go.Proofs.Ytfaciljklligeaa.Ct
open Go.ChangeShapes Go.WideShapes Go.RowKit Mm
theorem tmod_bounds (a : Int) {n : Int} (h : 0 < n) : -n < a.tmod n ∧ a.tmod n < n := by
  rcases Int.le_total 0 a with h0 | h0
  · have h1 := Int.tmod_nonneg n h0
    have h2 := Int.tmod_lt_of_pos a h
    omega
  · have h1 := Int.tmod_nonneg n (show 0 ≤ -a by omega)
    have h2 := Int.tmod_lt_of_pos (-a) h
    rw [Int.neg_tmod] at h1 h2
    omega
def roundP (i n : Int) : Int := if i.tmod n < 0 then i.tmod n + n else i.tmod n
theorem roundP_bounds (i : Int) {n : Int} (h : 0 < n) : 0 ≤ roundP i n ∧ roundP i n < n := by
  have := tmod_bounds i h
  unfold roundP
  split <;> omega
theorem round50 (w : World) (i n : Int) (h : 0 < n) (hn : n ≤ 1000) : Calls Try.prog 50 #[.int .i64 i, .int .i64 n] w fun e w' => e = .returned (.int .i64 (roundP i n)) ∧ w = w' := by
  have hb := tmod_bounds i h
  have k0 : ¬ n = 0 := by omega
  have hp : Hid (roundP i n = if i.tmod n < 0 then i.tmod n + n else i.tmod n) := rfl
  rw [hp.out]
  by_cases hR : i.tmod n < 0
  · rw [if_pos hR]
    have hw2 : wrap64 (i.tmod n + n) = i.tmod n + n := IntWalk.wrap64_in _ (by omega)
    have hd : decide (i.tmod n < 0) = true := decide_eq_true hR
    go_enter Try.func50, Try.ntmps50
    go_wp2_with fail
    go_ret
    exact ⟨rfl, rfl⟩
  · rw [if_neg hR]
    have hd : decide (i.tmod n < 0) = false := decide_eq_false hR
    go_enter Try.func50, Try.ntmps50
    go_wp2_with fail
    go_ret
    exact ⟨rfl, rfl⟩
end Go.Proofs.Ytfaciljklligeaa.Ct
