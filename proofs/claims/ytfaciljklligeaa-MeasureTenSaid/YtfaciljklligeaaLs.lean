/- The document's comparison of doubles; what is the same. -/
import Derived.Test.YtfaciljklligeaaCp
namespace Go.Proofs.Ytfaciljklligeaa.Ct
open Go.ChangeShapes Go.WideShapes Go.RowKit Mm
theorem kz_zero : kz 0 = 0 := by decide
theorem nn_zero : ¬ NaN 0 := by rw [nan_iff]; decide
theorem order_0 {x : Nat} (hx : x < 2 ^ 64) (n : ¬ NaN x) : (FloatKind.f64.format.order x 0 == some .eq) = decide (kz x = 0) := by
  have h := (ord_key hx (show 0 < 2 ^ 64 by omega) n nn_zero).2.1
  rw [kz_zero] at h
  by_cases hz : kz x = 0
  · rw [decide_eq_true hz]
    have := h.2 hz
    show (ord x 0 == some .eq) = true
    rw [this]; rfl
  · rw [decide_eq_false hz]
    show (ord x 0 == some .eq) = false
    rw [beq_eq_false_iff_ne]
    exact fun e => hz (h.1 e)
set_option maxHeartbeats 1600000 in
theorem less45 {x y : Nat} (hx : x < 2 ^ 64) (hy : y < 2 ^ 64) (w : World) : Calls Try.prog 45 #[.float .f64 x, .float .f64 y] w fun e w' => e = .returned (.bool (decide (key x < key y))) ∧ w = w' := by
  have s1 := fun w => sign49 hx w
  have s2 := fun w => sign49 hy w
  by_cases nx : NaN x
  · have o1 := order_nn nx
    have kx := key_nan nx
    have hr : Hid (decide (key x < key y) = false) := by
      unfold Hid
      refine decide_eq_false ?_
      by_cases ny : NaN y
      · rw [kx, key_nan ny]; omega
      · have := key_lt_nan hy ny; omega
    by_cases ny : NaN y
    · have o2 := order_nn ny
      clear nx ny kx hx hy
      go_enter Try.func45, Try.ntmps45
      go_wp2_with fail
      go_ret
      exact ⟨by rw [hr.out]; rfl, rfl⟩
    · have o2 := order_xx ny
      clear nx ny kx hx hy
      go_enter Try.func45, Try.ntmps45
      go_wp2_with fail
      go_ret
      exact ⟨by rw [hr.out]; rfl, rfl⟩
  · have o1 := order_xx nx
    by_cases ny : NaN y
    · have o2 := order_nn ny
      have hr : Hid (decide (key x < key y) = true) := by
        unfold Hid
        have := key_lt_nan hx nx
        exact decide_eq_true (by rw [key_nan ny]; exact this)
      clear nx ny hx hy
      go_enter Try.func45, Try.ntmps45
      go_wp2_with fail
      go_ret
      exact ⟨by rw [hr.out]; rfl, rfl⟩
    · have o2 := order_xx ny
      have e1 := order_0 hx nx
      have e2 := order_0 hy ny
      obtain ⟨k1, k2, k3⟩ := ord_key hx hy nx ny
      have kx := key_kz nx
      have ky := key_kz ny
      have zx : 2 ^ 63 ≤ x → kz x ≤ 0 := fun h => by unfold kz; rw [if_pos h]; omega
      have zy : 2 ^ 63 ≤ y → kz y ≤ 0 := fun h => by unfold kz; rw [if_pos h]; omega
      have zx' : ¬ 2 ^ 63 ≤ x → 0 ≤ kz x := fun h => by unfold kz; rw [if_neg h]; omega
      have zy' : ¬ 2 ^ 63 ≤ y → 0 ≤ kz y := fun h => by unfold kz; rw [if_neg h]; omega
      rcases Int.lt_trichotomy (kz x) (kz y) with h | h | h
      · have o3 : FloatKind.f64.format.order x y = some .lt := k1.2 h
        have hr : Hid (decide (key x < key y) = true) := by
          unfold Hid
          exact decide_eq_true (by rw [kx, ky]; split <;> split <;> omega)
        clear nx ny hx hy k1 k2 k3 kx ky zx zy zx' zy' h e1 e2
        go_enter Try.func45, Try.ntmps45
        go_wp2_with fail
        go_ret
        exact ⟨by rw [hr.out]; rfl, rfl⟩
      · have o3 : FloatKind.f64.format.order x y = some .eq := k2.2 h
        by_cases hz : kz x = 0
        · rw [decide_eq_true hz] at e1
          rw [decide_eq_true (by omega : kz y = 0)] at e2
          by_cases gx : 2 ^ 63 ≤ x
          · by_cases gy : 2 ^ 63 ≤ y
            · have hr : Hid (decide (key x < key y) = false) := by
                unfold Hid
                exact decide_eq_false (by rw [kx, ky, if_pos gx, if_pos gy]; omega)
              rw [decide_eq_true gx] at s1
              rw [decide_eq_true gy] at s2
              clear nx ny hx hy k1 k2 k3 kx ky zx zy zx' zy' h gx gy hz
              go_enter Try.func45, Try.ntmps45
              go_wp2_with fail
              refine (s1 _).mono ?_
              rintro e w' ⟨rfl, rfl⟩
              go_wp2_with fail
              refine (s2 _).mono ?_
              rintro e w' ⟨rfl, rfl⟩
              go_wp2_with fail
              go_ret
              exact ⟨by rw [hr.out]; rfl, rfl⟩
            · have hr : Hid (decide (key x < key y) = true) := by
                unfold Hid
                exact decide_eq_true (by rw [kx, ky, if_pos gx, if_neg gy]; omega)
              rw [decide_eq_true gx] at s1
              rw [decide_eq_false gy] at s2
              clear nx ny hx hy k1 k2 k3 kx ky zx zy zx' zy' h gx gy hz
              go_enter Try.func45, Try.ntmps45
              go_wp2_with fail
              refine (s1 _).mono ?_
              rintro e w' ⟨rfl, rfl⟩
              go_wp2_with fail
              refine (s2 _).mono ?_
              rintro e w' ⟨rfl, rfl⟩
              go_wp2_with fail
              go_ret
              exact ⟨by rw [hr.out]; rfl, rfl⟩
          · have hr : Hid (decide (key x < key y) = false) := by
              unfold Hid
              exact decide_eq_false (by rw [kx, ky, if_neg gx]; split <;> omega)
            rw [decide_eq_false gx] at s1
            clear nx ny hx hy k1 k2 k3 kx ky zx zy zx' zy' h gx hz
            go_enter Try.func45, Try.ntmps45
            go_wp2_with fail
            refine (s1 _).mono ?_
            rintro e w' ⟨rfl, rfl⟩
            go_wp2_with fail
            go_ret
            exact ⟨by rw [hr.out]; rfl, rfl⟩
        · rw [decide_eq_false hz] at e1
          have hr : Hid (decide (key x < key y) = false) := by
            unfold Hid
            exact decide_eq_false (by rw [kx, ky]; split <;> split <;> omega)
          clear nx ny hx hy k1 k2 k3 kx ky zx zy zx' zy' h hz e2
          go_enter Try.func45, Try.ntmps45
          go_wp2_with fail
          go_ret
          exact ⟨by rw [hr.out]; rfl, rfl⟩
      · have o3 : FloatKind.f64.format.order x y = some .gt := k3.2 h
        have hr : Hid (decide (key x < key y) = false) := by
          unfold Hid
          exact decide_eq_false (by rw [kx, ky]; split <;> split <;> omega)
        by_cases hz : kz x = 0
        · rw [decide_eq_true hz] at e1
          rw [decide_eq_false (by omega : ¬ kz y = 0)] at e2
          clear nx ny hx hy k1 k2 k3 kx ky zx zy zx' zy' h hz
          go_enter Try.func45, Try.ntmps45
          go_wp2_with fail
          go_ret
          exact ⟨by rw [hr.out]; rfl, rfl⟩
        · rw [decide_eq_false hz] at e1
          clear nx ny hx hy k1 k2 k3 kx ky zx zy zx' zy' h hz e2
          go_enter Try.func45, Try.ntmps45
          go_wp2_with fail
          go_ret
          exact ⟨by rw [hr.out]; rfl, rfl⟩
set_option maxHeartbeats 800000 in
theorem same31 {a b : Nat} (ha : a < 2 ^ 64) (w : World) (h : FEq a b) : Calls Try.prog 31 #[.float .f64 a, .float .f64 b] w fun e w' => e = .returned (.bool true) ∧ w = w' := by
  by_cases hn : NaN a
  · have hb : NaN b := by
      rcases h with rfl | h
      · exact hn
      · exact h.2
    have o1 : FloatKind.f64.format.order a b = none := (order_nan hn b).1
    have o2 := order_nn hn
    have o3 := order_nn hb
    clear hn hb h
    go_enter Try.func31, Try.ntmps31
    go_wp2_with fail
    go_ret
    exact ⟨rfl, rfl⟩
  · obtain rfl : a = b := by
      rcases h with rfl | h
      · rfl
      · exact absurd h.1 hn
    have o1 := order_xx hn
    have s1 := fun w => sign49 ha w
    generalize decide (2 ^ 63 ≤ a) = s at s1
    clear hn h
    go_enter Try.func31, Try.ntmps31
    go_wp2_with fail
    refine (s1 _).mono ?_
    rintro e w' ⟨rfl, rfl⟩
    go_wp2_with fail
    refine (s1 _).mono ?_
    rintro e w' ⟨rfl, rfl⟩
    go_wp2_with fail
    go_ret
    exact ⟨by simp, rfl⟩
theorem alike17 {a b : Nat} (w : World) (h : FEq a b) : Calls Try.prog 17 #[.float .f64 a, .float .f64 b] w fun e w' => e = .returned (.bool true) ∧ w = w' := by
  by_cases hn : NaN a
  · have hb : NaN b := by
      rcases h with rfl | h
      · exact hn
      · exact h.2
    have o1 : FloatKind.f64.format.order a b = none := (order_nan hn b).1
    have o2 := order_nn hn
    have o3 := order_nn hb
    clear hn hb h
    go_enter Try.func17, Try.ntmps17
    go_wp2_with fail
    go_ret
    exact ⟨rfl, rfl⟩
  · obtain rfl : a = b := by
      rcases h with rfl | h
      · rfl
      · exact absurd h.1 hn
    have o1 := order_xx hn
    clear hn h
    go_enter Try.func17, Try.ntmps17
    go_wp2_with fail
    go_ret
    exact ⟨rfl, rfl⟩
end Go.Proofs.Ytfaciljklligeaa.Ct
