/- The comparisons of doubles: walks. -/
import Derived.Test.YtfaciljklligeaaKy
namespace Go.Proofs.Ytfaciljklligeaa.Ct
open Go.ChangeShapes Go.WideShapes Go.RowKit Mm
theorem bits33 (b : Nat) (w : World) : (callFunc 33 #[.float .f64 b]).run Try.prog w = .ok (.value (.int .u64 b)) w := by
  rw [run_callFunc_extern (e := Extern.MathFloatBits.float64bits) Try.func33 (by kernel_rfl) (by kernel_rfl) (by kernel_rfl) (by kernel_rfl)]; rfl
theorem wrap_sign {x : Nat} (hx : x < 2 ^ 64) : ∃ z : Int, IntKind.i64.wrap (x : Int) = z ∧ (decide (z < 0) = decide (2 ^ 63 ≤ x)) ∧ (2 ^ 63 ≤ x → z < 0) ∧ (¬ 2 ^ 63 ≤ x → 0 ≤ z) := by
  refine ⟨_, rfl, ?_⟩
  have e : IntKind.i64.wrap (x : Int) = ((x : Int) + 9223372036854775808) % 18446744073709551616 - 9223372036854775808 := by
    simp [IntKind.wrap, IntKind.bits, IntKind.signed]
    omega
  rw [e]
  refine ⟨?_, by omega, by omega⟩
  rw [decide_eq_decide]
  omega
theorem sign49 {x : Nat} (hx : x < 2 ^ 64) (w : World) : Calls Try.prog 49 #[.float .f64 x] w fun e w' => e = .returned (.bool (decide (2 ^ 63 ≤ x))) ∧ w = w' := by
  obtain ⟨z, hz, hd, h1, h2⟩ := wrap_sign hx
  have hb := bits33
  have hconv : ∀ w, (convert 47 2 (.int .u64 (x : Int))).run Try.prog w = .ok (.int .i64 z) w := fun w => by
    rw [← hz]
    exact run_convert_int (P := Try.prog) w 47 2 .i64 _ (by kernel_rfl) (by kernel_rfl)
  by_cases h : 2 ^ 63 ≤ x
  · have hp : Hid (decide (2 ^ 63 ≤ x) = true) := decide_eq_true h
    have z1 := h1 h
    clear hd h1 h2 h hz hx
    go_enter Try.func49, Try.ntmps49
    go_wp2_with fail
    go_ret
    exact ⟨by rw [hp.out]; rfl, rfl⟩
  · have hp : Hid (decide (2 ^ 63 ≤ x) = false) := decide_eq_false h
    have z1 := h2 h
    have d2 : decide (z < 0) = false := decide_eq_false (by omega)
    clear hd h1 h2 h hz hx
    go_enter Try.func49, Try.ntmps49
    go_wp2_with fail
    go_ret
    exact ⟨by rw [hp.out]; rfl, rfl⟩
theorem order_nn {x : Nat} (h : NaN x) : FloatKind.f64.format.order x x = none := (order_nan h x).1
theorem order_xx {x : Nat} (h : ¬ NaN x) : FloatKind.f64.format.order x x = some .eq := order_refl h
set_option maxHeartbeats 800000 in
theorem cmp48 {x y : Nat} (hx : x < 2 ^ 64) (hy : y < 2 ^ 64) (w : World) : Calls Try.prog 48 #[.float .f64 x, .float .f64 y] w fun e w' => e = .returned (.int .i64 (cfK x y)) ∧ w = w' := by
  have s1 := fun w => sign49 hx w
  have s2 := fun w => sign49 hy w
  have hc : Hid (cfK x y = if key x < key y then -1 else if key y < key x then 1 else 0) := rfl
  by_cases nx : NaN x
  · have o1 := order_nn nx
    have kx := key_nan nx
    by_cases ny : NaN y
    · have o2 := order_nn ny
      have hr : Hid (cfK x y = 0) := by rw [hc.out, kx, key_nan ny]; rfl
      clear nx ny kx hx hy
      go_enter Try.func48, Try.ntmps48
      go_wp2_with fail
      go_ret
      exact ⟨by rw [hr.out]; rfl, rfl⟩
    · have o2 := order_xx ny
      have hr : Hid (cfK x y = 1) := by
        have := key_lt_nan hy ny
        rw [hc.out, kx, if_neg (by omega), if_pos this]; rfl
      clear nx ny kx hx hy
      go_enter Try.func48, Try.ntmps48
      go_wp2_with fail
      go_ret
      exact ⟨by rw [hr.out]; rfl, rfl⟩
  · have o1 := order_xx nx
    by_cases ny : NaN y
    · have o2 := order_nn ny
      have hr : Hid (cfK x y = -1) := by
        have := key_lt_nan hx nx
        rw [hc.out, key_nan ny, if_pos this]; rfl
      clear nx ny hx hy
      go_enter Try.func48, Try.ntmps48
      go_wp2_with fail
      go_ret
      exact ⟨by rw [hr.out]; rfl, rfl⟩
    · have o2 := order_xx ny
      obtain ⟨k1, k2, k3⟩ := ord_key hx hy nx ny
      have kx := key_kz nx
      have ky := key_kz ny
      have zx : 2 ^ 63 ≤ x → kz x ≤ 0 := fun h => by unfold kz; rw [if_pos h]; omega
      have zy : 2 ^ 63 ≤ y → kz y ≤ 0 := fun h => by unfold kz; rw [if_pos h]; omega
      have zx' : ¬ 2 ^ 63 ≤ x → 0 ≤ kz x := fun h => by unfold kz; rw [if_neg h]; omega
      have zy' : ¬ 2 ^ 63 ≤ y → 0 ≤ kz y := fun h => by unfold kz; rw [if_neg h]; omega
      rcases Int.lt_trichotomy (kz x) (kz y) with h | h | h
      · have o3 : FloatKind.f64.format.order x y = some .lt := k1.2 h
        have hr : Hid (cfK x y = -1) := by
          rw [hc.out, kx, ky, if_pos (by split <;> split <;> omega)]; rfl
        clear nx ny hx hy k1 k2 k3 kx ky zx zy zx' zy' h
        go_enter Try.func48, Try.ntmps48
        go_wp2_with fail
        go_ret
        exact ⟨by rw [hr.out]; rfl, rfl⟩
      · have o3 : FloatKind.f64.format.order x y = some .eq := k2.2 h
        by_cases gx : 2 ^ 63 ≤ x
        · by_cases gy : 2 ^ 63 ≤ y
          · have hr : Hid (cfK x y = 0) := by
              rw [hc.out, kx, ky, if_pos gx, if_pos gy, if_neg (by omega), if_neg (by omega)]; rfl
            rw [decide_eq_true gx] at s1
            rw [decide_eq_true gy] at s2
            clear nx ny hx hy k1 k2 k3 kx ky zx zy zx' zy' h gx gy
            go_enter Try.func48, Try.ntmps48
            go_wp2_with fail
            refine (s1 _).mono ?_
            rintro e w' ⟨rfl, rfl⟩
            go_wp2_with fail
            refine (s2 _).mono ?_
            rintro e w' ⟨rfl, rfl⟩
            go_wp2_with fail
            refine (s2 _).mono ?_
            rintro e w' ⟨rfl, rfl⟩
            go_wp2_with fail
            refine (s1 _).mono ?_
            rintro e w' ⟨rfl, rfl⟩
            go_wp2_with fail
            go_ret
            exact ⟨by rw [hr.out]; rfl, rfl⟩
          · have hr : Hid (cfK x y = -1) := by
              rw [hc.out, kx, ky, if_pos gx, if_neg gy, if_pos (by omega)]; rfl
            rw [decide_eq_true gx] at s1
            rw [decide_eq_false gy] at s2
            clear nx ny hx hy k1 k2 k3 kx ky zx zy zx' zy' h gx gy
            go_enter Try.func48, Try.ntmps48
            go_wp2_with fail
            refine (s1 _).mono ?_
            rintro e w' ⟨rfl, rfl⟩
            go_wp2_with fail
            refine (s2 _).mono ?_
            rintro e w' ⟨rfl, rfl⟩
            go_wp2_with fail
            go_ret
            exact ⟨by rw [hr.out]; rfl, rfl⟩
        · by_cases gy : 2 ^ 63 ≤ y
          · have hr : Hid (cfK x y = 1) := by
              rw [hc.out, kx, ky, if_neg gx, if_pos gy, if_neg (by omega), if_pos (by omega)]; rfl
            rw [decide_eq_false gx] at s1
            rw [decide_eq_true gy] at s2
            clear nx ny hx hy k1 k2 k3 kx ky zx zy zx' zy' h gx gy
            go_enter Try.func48, Try.ntmps48
            go_wp2_with fail
            refine (s1 _).mono ?_
            rintro e w' ⟨rfl, rfl⟩
            go_wp2_with fail
            refine (s2 _).mono ?_
            rintro e w' ⟨rfl, rfl⟩
            go_wp2_with fail
            refine (s1 _).mono ?_
            rintro e w' ⟨rfl, rfl⟩
            go_wp2_with fail
            go_ret
            exact ⟨by rw [hr.out]; rfl, rfl⟩
          · have hr : Hid (cfK x y = 0) := by
              rw [hc.out, kx, ky, if_neg gx, if_neg gy, if_neg (by omega), if_neg (by omega)]; rfl
            rw [decide_eq_false gx] at s1
            rw [decide_eq_false gy] at s2
            clear nx ny hx hy k1 k2 k3 kx ky zx zy zx' zy' h gx gy
            go_enter Try.func48, Try.ntmps48
            go_wp2_with fail
            refine (s1 _).mono ?_
            rintro e w' ⟨rfl, rfl⟩
            go_wp2_with fail
            refine (s2 _).mono ?_
            rintro e w' ⟨rfl, rfl⟩
            go_wp2_with fail
            go_ret
            exact ⟨by rw [hr.out]; rfl, rfl⟩
      · have o3 : FloatKind.f64.format.order x y = some .gt := k3.2 h
        have hr : Hid (cfK x y = 1) := by
          rw [hc.out, kx, ky, if_neg (by split <;> split <;> omega), if_pos (by split <;> split <;> omega)]; rfl
        clear nx ny hx hy k1 k2 k3 kx ky zx zy zx' zy' h
        go_enter Try.func48, Try.ntmps48
        go_wp2_with fail
        go_ret
        exact ⟨by rw [hr.out]; rfl, rfl⟩
end Go.Proofs.Ytfaciljklligeaa.Ct
