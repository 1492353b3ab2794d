/- The walk of the law ColourByte. -/
import Derived.Test.YtnlpohhebkcjkaaByteLaw
namespace Go.Proofs.Ytnlpohhebkcjkaa.K
open Go.ChangeShapes Go.WideShapes Go.RowKit I F

section
variable (x y n m : Nat) (w : World)
/-- what stands on every way: both bytes come as n and m -/
def Bytes : Prop := (∀ w : World, Calls Try.prog 30 #[.float .f64 x] w fun e w' => e = .returned (.int .u8 n) ∧ w = w') ∧ (∀ w : World, Calls Try.prog 30 #[.float .f64 y] w fun e w' => e = .returned (.int .u8 m) ∧ w = w')
end

set_option maxRecDepth 100000 in
set_option maxHeartbeats 800000 in
/-- no number -/
theorem byte_nan (x y m : Nat) (w : World) (hb : Hid (Bytes x y 0 m)) (o1 : ord x x = none) (o2 : ord x y = none) (o3 : ord x 0 = none) (o4 : ord x 4643176031446892544 = none) :
    Calls Try.prog 9 #[.float .f64 x, .float .f64 y] w (T w) := by
  go_enter Try.func9, Try.ntmps9
  go_wp2_with (first
    | (go_at_call 32; refine (alive_any _).mono ?_; rintro e w' ⟨rfl, rfl⟩))
  refine (hb.out.1 _).mono ?_
  rintro e w1 ⟨rfl, rfl⟩
  go_wp2_with fail
  refine (hb.out.2 _).mono ?_
  rintro e w1 ⟨rfl, rfl⟩
  go_wp2
  go_ret
  exact ⟨rfl, Below.refl _ _⟩
set_option maxRecDepth 100000 in
set_option maxHeartbeats 800000 in
theorem byte_lt_lt_true (x y n m : Nat) (w : World) (hb : Hid (Bytes x y n m)) (o1 : ord x x = some .eq) (o2 : (ord x y == some .lt) = true) (o3 : ord x 0 = some .lt) (o4 : ord x 4643176031446892544 = some .lt) (hA : ((n : Int) != 0) = false) (hC : (n : Int) ≤ m) :
    Calls Try.prog 9 #[.float .f64 x, .float .f64 y] w (T w) := by
  go_enter Try.func9, Try.ntmps9
  go_wp2_with (first
    | (go_at_call 32; refine (alive_any _).mono ?_; rintro e w' ⟨rfl, rfl⟩))
  refine (hb.out.1 _).mono ?_
  rintro e w1 ⟨rfl, rfl⟩
  go_wp2_with fail
  refine (hb.out.2 _).mono ?_
  rintro e w1 ⟨rfl, rfl⟩
  go_wp2
  go_ret
  exact ⟨rfl, Below.refl _ _⟩
set_option maxRecDepth 100000 in
set_option maxHeartbeats 800000 in
theorem byte_lt_lt_false (x y n m : Nat) (w : World) (hb : Hid (Bytes x y n m)) (o1 : ord x x = some .eq) (o2 : (ord x y == some .lt) = false) (o3 : ord x 0 = some .lt) (o4 : ord x 4643176031446892544 = some .lt) (hA : ((n : Int) != 0) = false) :
    Calls Try.prog 9 #[.float .f64 x, .float .f64 y] w (T w) := by
  go_enter Try.func9, Try.ntmps9
  go_wp2_with (first
    | (go_at_call 32; refine (alive_any _).mono ?_; rintro e w' ⟨rfl, rfl⟩))
  refine (hb.out.1 _).mono ?_
  rintro e w1 ⟨rfl, rfl⟩
  go_wp2_with fail
  refine (hb.out.2 _).mono ?_
  rintro e w1 ⟨rfl, rfl⟩
  go_wp2
  go_ret
  exact ⟨rfl, Below.refl _ _⟩
set_option maxRecDepth 100000 in
set_option maxHeartbeats 800000 in
theorem byte_eq_lt_true (x y n m : Nat) (w : World) (hb : Hid (Bytes x y n m)) (o1 : ord x x = some .eq) (o2 : (ord x y == some .lt) = true) (o3 : ord x 0 = some .eq) (o4 : ord x 4643176031446892544 = some .lt) (hA : ((n : Int) != 0) = false) (hC : (n : Int) ≤ m) (r : Nat) (hs : ∀ w : World, (binOp .sub 22 (.float .f64 (floatOfInt .f64 (n : Int))) (.float .f64 x)).run Try.prog w = .ok (.float .f64 r) w) (r1 : (ord r 4602678819172646912 == some .gt) = false) (r2 : ord r 13826050856027422720 = some .gt) :
    Calls Try.prog 9 #[.float .f64 x, .float .f64 y] w (T w) := by
  go_enter Try.func9, Try.ntmps9
  go_wp2_with (first
    | (go_at_call 32; refine (alive_any _).mono ?_; rintro e w' ⟨rfl, rfl⟩))
  refine (hb.out.1 _).mono ?_
  rintro e w1 ⟨rfl, rfl⟩
  go_wp2_with fail
  refine (hb.out.2 _).mono ?_
  rintro e w1 ⟨rfl, rfl⟩
  go_wp2
  go_ret
  exact ⟨rfl, Below.refl _ _⟩
set_option maxRecDepth 100000 in
set_option maxHeartbeats 800000 in
theorem byte_eq_lt_false (x y n m : Nat) (w : World) (hb : Hid (Bytes x y n m)) (o1 : ord x x = some .eq) (o2 : (ord x y == some .lt) = false) (o3 : ord x 0 = some .eq) (o4 : ord x 4643176031446892544 = some .lt) (hA : ((n : Int) != 0) = false) (r : Nat) (hs : ∀ w : World, (binOp .sub 22 (.float .f64 (floatOfInt .f64 (n : Int))) (.float .f64 x)).run Try.prog w = .ok (.float .f64 r) w) (r1 : (ord r 4602678819172646912 == some .gt) = false) (r2 : ord r 13826050856027422720 = some .gt) :
    Calls Try.prog 9 #[.float .f64 x, .float .f64 y] w (T w) := by
  go_enter Try.func9, Try.ntmps9
  go_wp2_with (first
    | (go_at_call 32; refine (alive_any _).mono ?_; rintro e w' ⟨rfl, rfl⟩))
  refine (hb.out.1 _).mono ?_
  rintro e w1 ⟨rfl, rfl⟩
  go_wp2_with fail
  refine (hb.out.2 _).mono ?_
  rintro e w1 ⟨rfl, rfl⟩
  go_wp2
  go_ret
  exact ⟨rfl, Below.refl _ _⟩
set_option maxRecDepth 100000 in
set_option maxHeartbeats 800000 in
theorem byte_gt_lt_true (x y n m : Nat) (w : World) (hb : Hid (Bytes x y n m)) (o1 : ord x x = some .eq) (o2 : (ord x y == some .lt) = true) (o3 : ord x 0 = some .gt) (o4 : ord x 4643176031446892544 = some .lt) (hC : (n : Int) ≤ m) (r : Nat) (hs : ∀ w : World, (binOp .sub 22 (.float .f64 (floatOfInt .f64 (n : Int))) (.float .f64 x)).run Try.prog w = .ok (.float .f64 r) w) (r1 : (ord r 4602678819172646912 == some .gt) = false) (r2 : ord r 13826050856027422720 = some .gt) :
    Calls Try.prog 9 #[.float .f64 x, .float .f64 y] w (T w) := by
  go_enter Try.func9, Try.ntmps9
  go_wp2_with (first
    | (go_at_call 32; refine (alive_any _).mono ?_; rintro e w' ⟨rfl, rfl⟩))
  refine (hb.out.1 _).mono ?_
  rintro e w1 ⟨rfl, rfl⟩
  go_wp2_with fail
  refine (hb.out.2 _).mono ?_
  rintro e w1 ⟨rfl, rfl⟩
  go_wp2
  go_ret
  exact ⟨rfl, Below.refl _ _⟩
set_option maxRecDepth 100000 in
set_option maxHeartbeats 800000 in
theorem byte_gt_lt_false (x y n m : Nat) (w : World) (hb : Hid (Bytes x y n m)) (o1 : ord x x = some .eq) (o2 : (ord x y == some .lt) = false) (o3 : ord x 0 = some .gt) (o4 : ord x 4643176031446892544 = some .lt) (r : Nat) (hs : ∀ w : World, (binOp .sub 22 (.float .f64 (floatOfInt .f64 (n : Int))) (.float .f64 x)).run Try.prog w = .ok (.float .f64 r) w) (r1 : (ord r 4602678819172646912 == some .gt) = false) (r2 : ord r 13826050856027422720 = some .gt) :
    Calls Try.prog 9 #[.float .f64 x, .float .f64 y] w (T w) := by
  go_enter Try.func9, Try.ntmps9
  go_wp2_with (first
    | (go_at_call 32; refine (alive_any _).mono ?_; rintro e w' ⟨rfl, rfl⟩))
  refine (hb.out.1 _).mono ?_
  rintro e w1 ⟨rfl, rfl⟩
  go_wp2_with fail
  refine (hb.out.2 _).mono ?_
  rintro e w1 ⟨rfl, rfl⟩
  go_wp2
  go_ret
  exact ⟨rfl, Below.refl _ _⟩
set_option maxRecDepth 100000 in
set_option maxHeartbeats 800000 in
theorem byte_gt_eq_true (x y n m : Nat) (w : World) (hb : Hid (Bytes x y n m)) (o1 : ord x x = some .eq) (o2 : (ord x y == some .lt) = true) (o3 : ord x 0 = some .gt) (o4 : ord x 4643176031446892544 = some .eq) (hB : ((n : Int) != 255) = false) (hC : (n : Int) ≤ m) (r : Nat) (hs : ∀ w : World, (binOp .sub 22 (.float .f64 (floatOfInt .f64 (n : Int))) (.float .f64 x)).run Try.prog w = .ok (.float .f64 r) w) (r1 : (ord r 4602678819172646912 == some .gt) = false) (r2 : ord r 13826050856027422720 = some .gt) :
    Calls Try.prog 9 #[.float .f64 x, .float .f64 y] w (T w) := by
  go_enter Try.func9, Try.ntmps9
  go_wp2_with (first
    | (go_at_call 32; refine (alive_any _).mono ?_; rintro e w' ⟨rfl, rfl⟩))
  refine (hb.out.1 _).mono ?_
  rintro e w1 ⟨rfl, rfl⟩
  go_wp2_with fail
  refine (hb.out.2 _).mono ?_
  rintro e w1 ⟨rfl, rfl⟩
  go_wp2
  go_ret
  exact ⟨rfl, Below.refl _ _⟩
set_option maxRecDepth 100000 in
set_option maxHeartbeats 800000 in
theorem byte_gt_eq_false (x y n m : Nat) (w : World) (hb : Hid (Bytes x y n m)) (o1 : ord x x = some .eq) (o2 : (ord x y == some .lt) = false) (o3 : ord x 0 = some .gt) (o4 : ord x 4643176031446892544 = some .eq) (hB : ((n : Int) != 255) = false) (r : Nat) (hs : ∀ w : World, (binOp .sub 22 (.float .f64 (floatOfInt .f64 (n : Int))) (.float .f64 x)).run Try.prog w = .ok (.float .f64 r) w) (r1 : (ord r 4602678819172646912 == some .gt) = false) (r2 : ord r 13826050856027422720 = some .gt) :
    Calls Try.prog 9 #[.float .f64 x, .float .f64 y] w (T w) := by
  go_enter Try.func9, Try.ntmps9
  go_wp2_with (first
    | (go_at_call 32; refine (alive_any _).mono ?_; rintro e w' ⟨rfl, rfl⟩))
  refine (hb.out.1 _).mono ?_
  rintro e w1 ⟨rfl, rfl⟩
  go_wp2_with fail
  refine (hb.out.2 _).mono ?_
  rintro e w1 ⟨rfl, rfl⟩
  go_wp2
  go_ret
  exact ⟨rfl, Below.refl _ _⟩
set_option maxRecDepth 100000 in
set_option maxHeartbeats 800000 in
theorem byte_gt_gt_true (x y n m : Nat) (w : World) (hb : Hid (Bytes x y n m)) (o1 : ord x x = some .eq) (o2 : (ord x y == some .lt) = true) (o3 : ord x 0 = some .gt) (o4 : ord x 4643176031446892544 = some .gt) (hB : ((n : Int) != 255) = false) (hC : (n : Int) ≤ m) :
    Calls Try.prog 9 #[.float .f64 x, .float .f64 y] w (T w) := by
  go_enter Try.func9, Try.ntmps9
  go_wp2_with (first
    | (go_at_call 32; refine (alive_any _).mono ?_; rintro e w' ⟨rfl, rfl⟩))
  refine (hb.out.1 _).mono ?_
  rintro e w1 ⟨rfl, rfl⟩
  go_wp2_with fail
  refine (hb.out.2 _).mono ?_
  rintro e w1 ⟨rfl, rfl⟩
  go_wp2
  go_ret
  exact ⟨rfl, Below.refl _ _⟩
set_option maxRecDepth 100000 in
set_option maxHeartbeats 800000 in
theorem byte_gt_gt_false (x y n m : Nat) (w : World) (hb : Hid (Bytes x y n m)) (o1 : ord x x = some .eq) (o2 : (ord x y == some .lt) = false) (o3 : ord x 0 = some .gt) (o4 : ord x 4643176031446892544 = some .gt) (hB : ((n : Int) != 255) = false) :
    Calls Try.prog 9 #[.float .f64 x, .float .f64 y] w (T w) := by
  go_enter Try.func9, Try.ntmps9
  go_wp2_with (first
    | (go_at_call 32; refine (alive_any _).mono ?_; rintro e w' ⟨rfl, rfl⟩))
  refine (hb.out.1 _).mono ?_
  rintro e w1 ⟨rfl, rfl⟩
  go_wp2_with fail
  refine (hb.out.2 _).mono ?_
  rintro e w1 ⟨rfl, rfl⟩
  go_wp2
  go_ret
  exact ⟨rfl, Below.refl _ _⟩
end Go.Proofs.Ytnlpohhebkcjkaa.K
