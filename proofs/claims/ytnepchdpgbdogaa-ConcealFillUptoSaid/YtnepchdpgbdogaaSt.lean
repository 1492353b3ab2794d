/- The quotient to the nearest; what a stand-in is. -/
import Derived.Test.YtnepchdpgbdogaaNs
namespace Go.Proofs.Ytnepchdpgbdogaa.Ct
open Go.ChangeShapes Go.WideShapes Go.RowKit Mm
def nearI (a b : Int) : Int := if a < 0 then -((-2 * a + b) / (2 * b)) else (2 * a + b) / (2 * b)
theorem nearI_bounds {a b lo hi : Int} (hb : 0 < b) (h1 : lo * b ≤ a) (h2 : a ≤ hi * b) : lo ≤ nearI a b ∧ nearI a b ≤ hi := by
  have key : ∀ c m : Int, c ≤ m * b → (2 * c + b) / (2 * b) ≤ m := fun c m h => by
    have h3 : 2 * c + b < (m + 1) * (2 * b) := by rw [Int.add_mul]; have : m * (2 * b) = 2 * (m * b) := by rw [Int.mul_left_comm]
                                                  omega
    have := (Int.ediv_lt_iff_lt_mul (show 0 < 2 * b by omega)).2 h3
    omega
  have key2 : ∀ c m : Int, m * b ≤ c → m ≤ (2 * c + b) / (2 * b) := fun c m h => by
    refine (Int.le_ediv_iff_mul_le (show 0 < 2 * b by omega)).2 ?_
    have : m * (2 * b) = 2 * (m * b) := by rw [Int.mul_left_comm]
    omega
  unfold nearI
  split
  · have e : -2 * a + b = 2 * (-a) + b := by omega
    rw [e]
    have k1 := key (-a) (-lo) (by rw [Int.neg_mul]; omega)
    have k2 := key2 (-a) (-hi) (by rw [Int.neg_mul]; omega)
    omega
  · exact ⟨key2 a lo h1, key a hi h2⟩
theorem nearest39 (w : World) (a b : Int) (ha : -1152921504606846976 ≤ a ∧ a ≤ 1152921504606846976) (hb : 0 < b ∧ b ≤ 1152921504606846976) :
    Calls Try.prog 39 #[.int .i64 a, .int .i64 b] w fun e w' => e = .returned (.int .i16 (IntKind.i16.wrap (nearI a b))) ∧ w' = w := by
  have e1 : IntKind.i64.wrap (2 * b) = 2 * b := IntWalk.i64_in _ (by omega)
  have g1 : ¬ 2 * b = 0 := by omega
  by_cases h : a < 0
  · have e2 : IntKind.i64.wrap (-2 * a) = -2 * a := IntWalk.i64_in _ (by omega)
    have e3 : IntKind.i64.wrap (-2 * a + b) = -2 * a + b := IntWalk.i64_in _ (by omega)
    have d1 : decide (a < 0) = true := decide_eq_true h
    have hp : 0 ≤ -2 * a + b := by omega
    have hq0 : 0 ≤ (-2 * a + b) / (2 * b) := Int.ediv_nonneg hp (by omega)
    have hq1 : (-2 * a + b) / (2 * b) ≤ -2 * a + b := Int.ediv_le_self _ hp
    have e4 : (-2 * a + b).tdiv (2 * b) = (-2 * a + b) / (2 * b) := Int.tdiv_eq_ediv_of_nonneg hp
    have e5 : IntKind.i64.wrap ((-2 * a + b) / (2 * b)) = (-2 * a + b) / (2 * b) := IntWalk.i64_in _ (by omega)
    have e6 : IntKind.i64.wrap (-((-2 * a + b) / (2 * b))) = -((-2 * a + b) / (2 * b)) := IntWalk.i64_in _ (by omega)
    have hn : nearI a b = -((-2 * a + b) / (2 * b)) := by unfold nearI; rw [if_pos h]
    rw [hn]
    go_enter Try.func39, Try.ntmps39
    go_wp2_with fail
    go_ret
    exact ⟨by simp, rfl⟩
  · have e2 : IntKind.i64.wrap (2 * a) = 2 * a := IntWalk.i64_in _ (by omega)
    have e3 : IntKind.i64.wrap (2 * a + b) = 2 * a + b := IntWalk.i64_in _ (by omega)
    have d1 : decide (a < 0) = false := decide_eq_false h
    have hp : 0 ≤ 2 * a + b := by omega
    have hq0 : 0 ≤ (2 * a + b) / (2 * b) := Int.ediv_nonneg hp (by omega)
    have hq1 : (2 * a + b) / (2 * b) ≤ 2 * a + b := Int.ediv_le_self _ hp
    have e4 : (2 * a + b).tdiv (2 * b) = (2 * a + b) / (2 * b) := Int.tdiv_eq_ediv_of_nonneg hp
    have e5 : IntKind.i64.wrap ((2 * a + b) / (2 * b)) = (2 * a + b) / (2 * b) := IntWalk.i64_in _ (by omega)
    have hn : nearI a b = (2 * a + b) / (2 * b) := by unfold nearI; rw [if_neg h]
    rw [hn]
    go_enter Try.func39, Try.ntmps39
    go_wp2_with fail
    go_ret
    exact ⟨by simp, rfl⟩
end Go.Proofs.Ytnepchdpgbdogaa.Ct
