/- The contracts of Clamp at six kinds. -/
import Derived.Test.YtnlpohhebkcjkaaSingle
namespace Go.Proofs.Ytnlpohhebkcjkaa.C
open Go.ChangeShapes Go.WideShapes Go.RowKit I F

def clampI (x lo hi : Int) : Int := if x < lo then lo else if x > hi then hi else x
theorem clampI_in (x lo hi a b : Int) (h1 : a ≤ x) (h2 : x ≤ b) (h3 : a ≤ lo) (h4 : lo ≤ b) (h5 : a ≤ hi) (h6 : hi ≤ b) : a ≤ clampI x lo hi ∧ clampI x lo hi ≤ b := by
  unfold clampI; split <;> (try split) <;> omega

set_option maxHeartbeats 400000 in
theorem cl64_any (x lo hi : Int) (w : World) :
    Calls Try.prog 16 #[.int .i64 x, .int .i64 lo, .int .i64 hi] w fun e w' => e = .returned (.int .i64 (clampI x lo hi)) ∧ w = w' := by
  unfold clampI
  by_cases a : x < lo
  · rw [if_pos a]
    go_enter Try.func16, Try.ntmps16
    go_wp2
    go_ret
    exact ⟨rfl, rfl⟩
  · by_cases b : x > hi
    · rw [if_neg a, if_pos b]
      go_enter Try.func16, Try.ntmps16
      go_wp2
      go_ret
      exact ⟨rfl, rfl⟩
    · rw [if_neg a, if_neg b]
      go_enter Try.func16, Try.ntmps16
      go_wp2
      go_ret
      exact ⟨rfl, rfl⟩

set_option maxHeartbeats 400000 in
theorem whole_any (x lo hi : Int) (w : World) :
    Calls Try.prog 17 #[.int .i64 x, .int .i64 lo, .int .i64 hi] w fun e w' => e = .returned (.int .i64 (clampI x lo hi)) ∧ w = w' := by
  unfold clampI
  by_cases a : x < lo
  · rw [if_pos a]
    go_enter Try.func17, Try.ntmps17
    go_wp2
    go_ret
    exact ⟨rfl, rfl⟩
  · by_cases b : x > hi
    · rw [if_neg a, if_pos b]
      go_enter Try.func17, Try.ntmps17
      go_wp2
      go_ret
      exact ⟨rfl, rfl⟩
    · rw [if_neg a, if_neg b]
      go_enter Try.func17, Try.ntmps17
      go_wp2
      go_ret
      exact ⟨rfl, rfl⟩

set_option maxHeartbeats 400000 in
theorem cl8_any (x lo hi : Int) (w : World) :
    Calls Try.prog 18 #[.int .u8 x, .int .u8 lo, .int .u8 hi] w fun e w' => e = .returned (.int .u8 (clampI x lo hi)) ∧ w = w' := by
  unfold clampI
  by_cases a : x < lo
  · rw [if_pos a]
    go_enter Try.func18, Try.ntmps18
    go_wp2
    go_ret
    exact ⟨rfl, rfl⟩
  · by_cases b : x > hi
    · rw [if_neg a, if_pos b]
      go_enter Try.func18, Try.ntmps18
      go_wp2
      go_ret
      exact ⟨rfl, rfl⟩
    · rw [if_neg a, if_neg b]
      go_enter Try.func18, Try.ntmps18
      go_wp2
      go_ret
      exact ⟨rfl, rfl⟩

set_option maxHeartbeats 400000 in
theorem cl16_any (x lo hi : Int) (w : World) :
    Calls Try.prog 19 #[.int .i16 x, .int .i16 lo, .int .i16 hi] w fun e w' => e = .returned (.int .i16 (clampI x lo hi)) ∧ w = w' := by
  unfold clampI
  by_cases a : x < lo
  · rw [if_pos a]
    go_enter Try.func19, Try.ntmps19
    go_wp2
    go_ret
    exact ⟨rfl, rfl⟩
  · by_cases b : x > hi
    · rw [if_neg a, if_pos b]
      go_enter Try.func19, Try.ntmps19
      go_wp2
      go_ret
      exact ⟨rfl, rfl⟩
    · rw [if_neg a, if_neg b]
      go_enter Try.func19, Try.ntmps19
      go_wp2
      go_ret
      exact ⟨rfl, rfl⟩

set_option maxHeartbeats 400000 in
theorem cl32_any (x lo hi : Int) (w : World) :
    Calls Try.prog 20 #[.int .i32 x, .int .i32 lo, .int .i32 hi] w fun e w' => e = .returned (.int .i32 (clampI x lo hi)) ∧ w = w' := by
  unfold clampI
  by_cases a : x < lo
  · rw [if_pos a]
    go_enter Try.func20, Try.ntmps20
    go_wp2
    go_ret
    exact ⟨rfl, rfl⟩
  · by_cases b : x > hi
    · rw [if_neg a, if_pos b]
      go_enter Try.func20, Try.ntmps20
      go_wp2
      go_ret
      exact ⟨rfl, rfl⟩
    · rw [if_neg a, if_neg b]
      go_enter Try.func20, Try.ntmps20
      go_wp2
      go_ret
      exact ⟨rfl, rfl⟩

set_option maxHeartbeats 400000 in
theorem clamped_any (x lo hi : Nat) (w : World) :
    Calls Try.prog 15 #[.float .f64 x, .float .f64 lo, .float .f64 hi] w fun e w' => e = .returned (.float .f64 (Fp.clampF x lo hi)) ∧ w = w' := by
  obtain ⟨r, hr⟩ : ∃ r, r = Fp.clampF x lo hi := ⟨_, rfl⟩
  have HR := Lib.hid hr
  rw [← hr]
  clear hr
  go_enter Try.func15, Try.ntmps15
  go_wp2
  all_goals
    go_ret
    refine ⟨ret_float ?_, rfl⟩
    rw [HR.out]
    unfold Fp.clampF
    have hf : ∀ a b : Nat, Ieee.double.order a b = FloatKind.f64.format.order a b := fun _ _ => rfl
    simp only [hf]
    simp_all
theorem comp_lt (a b : Int) (h : a < b) : (some (compare a b) == some Ordering.lt) = true := by rw [Int.compare_eq_lt.2 h]; rfl
theorem comp_nlt (a b : Int) (h : ¬ a < b) : (some (compare a b) == some Ordering.lt) = false := by
  rw [beq_eq_false_iff_ne]; intro e; exact h (Int.compare_eq_lt.1 (Option.some.inj e))
theorem comp_gt (a b : Int) (h : b < a) : (some (compare a b) == some Ordering.gt) = true := by rw [Int.compare_eq_gt.2 h]; rfl
theorem comp_ngt (a b : Int) (h : ¬ b < a) : (some (compare a b) == some Ordering.gt) = false := by
  rw [beq_eq_false_iff_ne]; intro e; exact h (Int.compare_eq_gt.1 (Option.some.inj e))
theorem clamp64 (x lo hi : Int) (hx : Small x) (hl : Small lo) (hh : Small hi) : Fp.clampF (w64 x) (w64 lo) (w64 hi) = w64 (clampI x lo hi) := by
  have o1 : Ieee.double.order (w64 x) (w64 x) = some .eq := by
    have := ord64 x x hx hx
    rw [Int.compare_eq_eq.2 rfl] at this; exact this
  have o2 : Ieee.double.order (w64 x) (w64 lo) = some (compare x lo) := ord64 x lo hx hl
  have o3 : Ieee.double.order (w64 x) (w64 hi) = some (compare x hi) := ord64 x hi hx hh
  unfold Fp.clampF clampI
  rw [o1, o2, o3]
  by_cases a : x < lo
  · rw [if_pos a, comp_lt _ _ a]; simp
  · by_cases b : x > hi
    · rw [if_neg a, if_pos b, comp_nlt _ _ a, comp_gt _ _ b]; simp
    · rw [if_neg a, if_neg b, comp_nlt _ _ a, comp_ngt _ _ b]; simp
set_option maxHeartbeats 400000 in
theorem clf_any (x lo hi : Int) (w : World) (hx : Small x) (hl : Small lo) (hh : Small hi) :
    Calls Try.prog 21 #[.float .f32 (w32 x), .float .f32 (w32 lo), .float .f32 (w32 hi)] w fun e w' => e = .returned (.float .f32 (w32 (clampI x lo hi))) ∧ w = w' := by
  have o1 : FloatKind.f32.format.order (w32 x) (w32 x) = some .eq := by
    have := ord32 x x hx hx
    rw [Int.compare_eq_eq.2 rfl] at this; exact this
  have o2 := ord32 x lo hx hl
  have o3 := ord32 x hi hx hh
  unfold clampI
  by_cases a : x < lo
  · rw [if_pos a]
    rw [Int.compare_eq_lt.2 a] at o2
    clear o3
    go_enter Try.func21, Try.ntmps21
    go_wp2
    go_ret
    exact ⟨rfl, rfl⟩
  · have q2 : (FloatKind.f32.format.order (w32 x) (w32 lo) == some .lt) = false := by rw [o2]; exact comp_nlt _ _ a
    clear o2
    by_cases b : x > hi
    · rw [if_neg a, if_pos b]
      rw [Int.compare_eq_gt.2 b] at o3
      clear a b
      go_enter Try.func21, Try.ntmps21
      go_wp2
      go_ret
      exact ⟨rfl, rfl⟩
    · rw [if_neg a, if_neg b]
      have q3 : (FloatKind.f32.format.order (w32 x) (w32 hi) == some .gt) = false := by rw [o3]; exact comp_ngt _ _ b
      clear o3 a b
      go_enter Try.func21, Try.ntmps21
      go_wp2
      go_ret
      exact ⟨rfl, rfl⟩
end Go.Proofs.Ytnlpohhebkcjkaa.C
