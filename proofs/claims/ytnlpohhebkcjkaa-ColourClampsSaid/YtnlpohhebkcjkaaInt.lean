/- Contracts of the whole-number functions of chapter 11. -/
import Derived.Test.YtnlpohhebkcjkaaRows
import Derived.WalkKit
import Derived.WalkLawsBesides
namespace Go.Proofs.Ytnlpohhebkcjkaa.I
open Go.ChangeShapes Go.WideShapes Go.RowKit

def clipI (x : Int) : Int := if x < 0 then 0 else if x > 255 then 255 else x

theorem ret_int {k : IntKind} {a b : Int} (h : a = b) : Ending.returned (.int k a) = .returned (.int k b) := by rw [h]

set_option maxHeartbeats 400000 in
theorem clip_any (x : Int) (w : World) :
    Calls Try.prog 35 #[.int .i64 x] w fun e w' => e = .returned (.int .u8 (clipI x)) ∧ w = w' := by
  unfold clipI
  by_cases a : x < 0
  · rw [if_pos a]
    go_enter Try.func35, Try.ntmps35
    go_wp2
    go_ret
    exact ⟨rfl, rfl⟩
  · by_cases b : x > 255
    · rw [if_neg a, if_pos b]
      go_enter Try.func35, Try.ntmps35
      go_wp2
      go_ret
      exact ⟨rfl, rfl⟩
    · rw [if_neg a, if_neg b]
      have ha : 0 ≤ x := by omega
      have hb : x ≤ 255 := by omega
      go_enter Try.func35, Try.ntmps35
      go_wp2
      go_ret
      exact ⟨rfl, rfl⟩

set_option maxHeartbeats 400000 in
theorem rclip_any (x : Int) (w : World) :
    Calls Try.prog 37 #[.int .i64 x] w fun e w' => e = .returned (.int .u8 (clipI x)) ∧ w = w' := by
  unfold clipI
  by_cases a : x < 0
  · rw [if_pos a]
    go_enter Try.func37, Try.ntmps37
    go_wp2
    go_ret
    exact ⟨rfl, rfl⟩
  · by_cases b : x > 255
    · rw [if_neg a, if_pos b]
      go_enter Try.func37, Try.ntmps37
      go_wp2
      go_ret
      exact ⟨rfl, rfl⟩
    · rw [if_neg a, if_neg b]
      have ha : 0 ≤ x := by omega
      have hb : x ≤ 255 := by omega
      go_enter Try.func37, Try.ntmps37
      go_wp2
      go_ret
      exact ⟨rfl, rfl⟩


theorem tdiv_split (x : Int) : x.tdiv 65536 = if 0 ≤ x then x / 65536 else -((-x) / 65536) := by
  split
  · exact Int.tdiv_eq_ediv_of_nonneg ‹_›
  · have : x = -(-x) := by omega
    rw [this, Int.neg_tdiv, Int.tdiv_eq_ediv_of_nonneg (by omega)]
    simp
theorem down_lt (x : Int) (h0 : -1000000000000 ≤ x) (h1 : x ≤ 1000000000000) (h : x < wrap64 (x.tdiv 65536 * 65536)) : wrap64 (x.tdiv 65536 - 1) = x / 65536 := by
  rw [tdiv_split] at *
  unfold wrap64 at *
  split at h <;> omega
theorem down_ge (x : Int) (h0 : -1000000000000 ≤ x) (h1 : x ≤ 1000000000000) (h : wrap64 (x.tdiv 65536 * 65536) ≤ x) : x.tdiv 65536 = x / 65536 := by
  rw [tdiv_split] at *
  unfold wrap64 at *
  split at h <;> omega
set_option maxHeartbeats 400000 in
theorem down_any (x : Int) (w : World) (h0 : -1000000000000 ≤ x) (h1 : x ≤ 1000000000000) :
    Calls Try.prog 36 #[.int .i64 x] w fun e w' => e = .returned (.int .i64 (x / 65536)) ∧ w = w' := by
  go_enter Try.func36, Try.ntmps36
  go_wp2
  · go_ret
    exact ⟨ret_int (down_lt x h0 h1 ‹_›), rfl⟩
  · go_ret
    exact ⟨ret_int (down_ge x h0 h1 ‹_›), rfl⟩

def redI (y r : Int) : Int := clipI (y + (91881 * (r - 128) + 32768) / 65536)
def greenI (y b r : Int) : Int := clipI (y - (22553 * (b - 128) + 46802 * (r - 128) + 32767) / 65536)
def blueI (y b : Int) : Int := clipI (y + (116130 * (b - 128) + 32768) / 65536)
def lumI (x y z : Int) : Int := clipI ((19595 * x + 38470 * y + 7471 * z + 32768) / 65536)
def cbI (x y z : Int) : Int := clipI ((-11058 * x - 21710 * y + 32768 * z + 32768) / 65536 + 128)
def crI (x y z : Int) : Int := clipI ((32768 * x - 27439 * y - 5329 * z + 32768) / 65536 + 128)
theorem clipI_bd (x : Int) : 0 ≤ clipI x ∧ clipI x ≤ 255 := by unfold clipI; split <;> (try split) <;> omega

set_option maxHeartbeats 400000 in
theorem rgb_any (y b r : Int) (w : World) (h0 : 0 ≤ y) (h1 : y ≤ 255) (h2 : 0 ≤ b) (h3 : b ≤ 255) (h4 : 0 ≤ r) (h5 : r ≤ 255) :
    Calls Try.prog 22 #[.int .u8 y, .int .u8 b, .int .u8 r] w fun e w' => e = .returned (.tuple #[.int .u8 (redI y r), .int .u8 (greenI y b r), .int .u8 (blueI y b)]) ∧ w = w' := by
  go_enter Try.func22, Try.ntmps22
  go_wp2_with (first | (go_at_call 35; refine (clip_any _ _).mono ?_; rintro e w' ⟨rfl, rfl⟩))
  go_ret3
  exact ⟨rfl, rfl⟩
set_option maxHeartbeats 400000 in
theorem rrgb_any (y b r : Int) (w : World) (h0 : 0 ≤ y) (h1 : y ≤ 255) (h2 : 0 ≤ b) (h3 : b ≤ 255) (h4 : 0 ≤ r) (h5 : r ≤ 255) :
    Calls Try.prog 23 #[.int .u8 y, .int .u8 b, .int .u8 r] w fun e w' => e = .returned (.tuple #[.int .u8 (redI y r), .int .u8 (greenI y b r), .int .u8 (blueI y b)]) ∧ w = w' := by
  go_enter Try.func23, Try.ntmps23
  go_wp2_with (first | (go_at_call 37; refine (rclip_any _ _).mono ?_; rintro e w' ⟨rfl, rfl⟩) | (go_at_call 36; refine (down_any _ _ (by omega) (by omega)).mono ?_; rintro e w' ⟨rfl, rfl⟩))
  go_ret3
  exact ⟨rfl, rfl⟩
set_option maxHeartbeats 400000 in
theorem ycc_any (x y z : Int) (w : World) (h0 : 0 ≤ x) (h1 : x ≤ 255) (h2 : 0 ≤ y) (h3 : y ≤ 255) (h4 : 0 ≤ z) (h5 : z ≤ 255) :
    Calls Try.prog 24 #[.int .u8 x, .int .u8 y, .int .u8 z] w fun e w' => e = .returned (.tuple #[.int .u8 (lumI x y z), .int .u8 (cbI x y z), .int .u8 (crI x y z)]) ∧ w = w' := by
  go_enter Try.func24, Try.ntmps24
  go_wp2_with (first | (go_at_call 35; refine (clip_any _ _).mono ?_; rintro e w' ⟨rfl, rfl⟩))
  go_ret3
  exact ⟨rfl, rfl⟩
set_option maxHeartbeats 400000 in
theorem rycc_any (x y z : Int) (w : World) (h0 : 0 ≤ x) (h1 : x ≤ 255) (h2 : 0 ≤ y) (h3 : y ≤ 255) (h4 : 0 ≤ z) (h5 : z ≤ 255) :
    Calls Try.prog 25 #[.int .u8 x, .int .u8 y, .int .u8 z] w fun e w' => e = .returned (.tuple #[.int .u8 (lumI x y z), .int .u8 (cbI x y z), .int .u8 (crI x y z)]) ∧ w = w' := by
  go_enter Try.func25, Try.ntmps25
  go_wp2_with (first | (go_at_call 37; refine (rclip_any _ _).mono ?_; rintro e w' ⟨rfl, rfl⟩) | (go_at_call 36; refine (down_any _ _ (by omega) (by omega)).mono ?_; rintro e w' ⟨rfl, rfl⟩))
  go_ret3
  exact ⟨rfl, rfl⟩
set_option maxHeartbeats 400000 in
theorem law_rgb (y b r : Int) (w : World) (h0 : 0 ≤ y) (h1 : y ≤ 255) (h2 : 0 ≤ b) (h3 : b ≤ 255) (h4 : 0 ≤ r) (h5 : r ≤ 255) :
    Calls Try.prog 4 #[.int .u8 y, .int .u8 b, .int .u8 r] w fun e w' => e = .returned (.bool true) ∧ w = w' := by
  go_enter Try.func4, Try.ntmps4
  go_wp2_with (first | (go_at_call 22; refine (rgb_any _ _ _ _ h0 h1 h2 h3 h4 h5).mono ?_; rintro e w' ⟨rfl, rfl⟩) | (go_at_call 23; refine (rrgb_any _ _ _ _ h0 h1 h2 h3 h4 h5).mono ?_; rintro e w' ⟨rfl, rfl⟩))
  go_ret
  exact ⟨rfl, rfl⟩
set_option maxHeartbeats 400000 in
theorem law_ycc (y b r : Int) (w : World) (h0 : 0 ≤ y) (h1 : y ≤ 255) (h2 : 0 ≤ b) (h3 : b ≤ 255) (h4 : 0 ≤ r) (h5 : r ≤ 255) :
    Calls Try.prog 5 #[.int .u8 y, .int .u8 b, .int .u8 r] w fun e w' => e = .returned (.bool true) ∧ w = w' := by
  go_enter Try.func5, Try.ntmps5
  go_wp2_with (first | (go_at_call 24; refine (ycc_any _ _ _ _ h0 h1 h2 h3 h4 h5).mono ?_; rintro e w' ⟨rfl, rfl⟩) | (go_at_call 25; refine (rycc_any _ _ _ _ h0 h1 h2 h3 h4 h5).mono ?_; rintro e w' ⟨rfl, rfl⟩))
  go_ret
  exact ⟨rfl, rfl⟩
end Go.Proofs.Ytnlpohhebkcjkaa.I
