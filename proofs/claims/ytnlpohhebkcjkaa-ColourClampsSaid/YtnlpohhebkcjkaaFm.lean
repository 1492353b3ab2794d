/- The contract of the document's byte of a float, and what both bytes are. -/
import Derived.Test.YtnlpohhebkcjkaaFl
import Derived.LoopTactic
import Derived.Outline
namespace Go.Proofs.Ytnlpohhebkcjkaa.F
open Go.ChangeShapes Go.WideShapes Go.RowKit

def RByte (x : Nat) (w : World) (e : Ending) (w' : World) : Prop := ∃ n d : Nat, Fp.ByteR x n ∧ e = .returned (.int .u8 n) ∧ w' = w.drewN d
theorem odd_eq (x t : Nat) (n : Nat) (hn : n ≤ 255) :
    (FloatKind.f64.format.order (floatOfInt .f64 (2 * (n : Int) + 1)) (fv .mul .f64 4611686018427387904 x t) == some .lt ||
      FloatKind.f64.format.order (floatOfInt .f64 (2 * (n : Int) + 1)) (fv .mul .f64 4611686018427387904 x t) == some .eq) = Fp.Odd x n :=
  Fp.odd_test x t n (by omega) (by omega) _ rfl

theorem odd_yes {x t : Nat} {n : Nat} (hn : n ≤ 255) (h : (FloatKind.f64.format.order (floatOfInt .f64 (2 * (n : Int) + 1)) (fv .mul .f64 4611686018427387904 x t) == some .lt) = true ∨ (FloatKind.f64.format.order (floatOfInt .f64 (2 * (n : Int) + 1)) (fv .mul .f64 4611686018427387904 x t) == some .eq) = true) : Fp.Odd x n = true := by
  rw [← odd_eq x t n hn]; simpa using h
theorem odd_no {x t : Nat} {n : Nat} (hn : n ≤ 255) (h : (FloatKind.f64.format.order (floatOfInt .f64 (2 * (n : Int) + 1)) (fv .mul .f64 4611686018427387904 x t) == some .lt) = false ∧ (FloatKind.f64.format.order (floatOfInt .f64 (2 * (n : Int) + 1)) (fv .mul .f64 4611686018427387904 x t) == some .eq) = false) : Fp.Odd x n = false := by
  rw [← odd_eq x t n hn]; simpa using h

set_option maxRecDepth 100000 in
set_option maxHeartbeats 400000 in
theorem rbyte_any (x : Nat) (w : World) : Calls Try.prog 31 #[.float .f64 x] w (RByte x w) := by
  have hm := fun (x y : Nat) (w : World) => run_fop (P := Try.prog) w .mul 22 .f64 x y (by simp)
  go_enter Try.func31, Try.ntmps31
  go_wp2
  go_loopw [3] (fun v wr => ∃ n : Nat, v = .int .i64 n ∧ n ≤ 255 ∧ Hid (n = 0 ∨ Fp.Odd x ((n : Int) - 1) = true) ∧ Hid (∃ d, wr = w.drewN d)) (fun v _ => 255 - (intOf v).toNat)
  case atStart => exact ⟨0, rfl, by omega, .inl rfl, 0, rfl⟩
  case round =>
    obtain ⟨n, rfl, hn, hl, hw⟩ := hrel
    by_cases hlt : n < 255
    · go_wp2
      · have ht := odd_yes (x := x) hn ‹_›
        go_roundw
        case rel => exact ⟨n + 1, by go_num, by omega, .inr (by rw [show (((n + 1 : Nat) : Int) - 1) = n by omega]; exact ht), by
          obtain ⟨d, hd⟩ := hw
          exact ⟨d + fd .mul .f64 4611686018427387904 x, by rw [hd, World.drewN_drewN]⟩⟩
        case measure => simp [intOf]; omega
      · have ht := odd_no (x := x) hn ‹_›
        go_ret
        obtain ⟨d, hd⟩ := hw
        exact ⟨n, d + fd .mul .f64 4611686018427387904 x, Fp.odd_byte x n hn hl (.inr ht), rfl, by rw [hd, World.drewN_drewN]⟩
    · go_wp2
      go_ret
      obtain ⟨d, hd⟩ := hw
      exact ⟨n, d, Fp.odd_byte x n hn hl (.inl (by omega)), rfl, hd⟩

/-- the program's byte -/
def CByte (x : Nat) (w : World) (e : Ending) (w' : World) : Prop := ∃ n : Nat, n ≤ 255 ∧ Fp.ByteR x n ∧ e = .returned (.int .u8 n) ∧ w = w'
theorem cbyte_any (x : Nat) (w : World) (hx : x < 2 ^ 64) : Calls Try.prog 30 #[.float .f64 x] w (CByte x w) := by
  obtain ⟨n, h1, h2, h3⟩ := Fp.byte_pure x hx
  exact (byte_any x w n h2).mono fun _ _ ⟨he, hw⟩ => ⟨n, h1, h3, he, hw⟩
end Go.Proofs.Ytnlpohhebkcjkaa.F
