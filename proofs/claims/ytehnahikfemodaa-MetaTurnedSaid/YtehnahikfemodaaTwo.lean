/- Numbers of two bytes; JFIF segments. -/
import Derived.Test.YtehnahikfemodaaStr
namespace Go.Proofs.Ytehnahikfemodaa.Ct
open Go.ChangeShapes Go.WideShapes Go.RowKit Mm
def clamp (n : Int) : Int := if n < 0 then 0 else if n > 65535 then 65535 else n
theorem clamp_le (n : Int) : 0 ≤ clamp n ∧ clamp n ≤ 65535 := by
  unfold clamp
  by_cases h : n < 0
  · rw [if_pos h]; omega
  · rw [if_neg h]
    split <;> omega
/-- bytes that were just laid, as a string -/
theorem conv_new (W : World) (xs : List Int) (n : Nat) (hn : xs.length = n) : (convert 31 9 (.slice (some ⟨W.heap.size, 0, none⟩) n n)).run Try.prog (W.alloc (.cells (xs.map (Value.int .u8)).toArray 5)) = .ok (.string (strOfNums xs)) (W.alloc (.cells (xs.map (Value.int .u8)).toArray 5)) :=
  run_convert_bytes_arg _ 31 5 Try.underlying31 Try.underlying5 W.heap.size 0 n n xs hn (fun i hi => by
    rw [Nat.zero_add, (Blk.new W 5 _).cell]
    simp [List.getElem?_eq_getElem (show i < xs.length by omega), List.getD]) 9 Try.underlying9
theorem conv_new2 (W : World) (x y : Int) : (convert 31 9 (.slice (some ⟨W.heap.size, 0, none⟩) 2 2)).run Try.prog (W.alloc (.cells #[.int .u8 x, .int .u8 y] 5)) = .ok (.string (strOfNums [x, y])) (W.alloc (.cells #[.int .u8 x, .int .u8 y] 5)) := conv_new W [x, y] 2 rfl
theorem conv_new3 (W : World) (x y z : Int) : (convert 31 9 (.slice (some ⟨W.heap.size, 0, none⟩) 3 3)).run Try.prog (W.alloc (.cells #[.int .u8 x, .int .u8 y, .int .u8 z] 5)) = .ok (.string (strOfNums [x, y, z])) (W.alloc (.cells #[.int .u8 x, .int .u8 y, .int .u8 z] 5)) := conv_new W [x, y, z] 3 rfl
/-- the bytes of two -/
def twoC (n : Int) : Array Value := #[.int .u8 (clamp n / 256), .int .u8 (clamp n % 256)]
def Two (n : Int) (w : World) (e : Ending) (w' : World) : Prop := e = .returned (.string (strOfNums [clamp n / 256, clamp n % 256])) ∧ w.alloc (.cells (twoC n) 5) = w'
set_option maxHeartbeats 800000 in
theorem rtwo_any (n : Int) (w : World) : Calls Try.prog 30 #[.int .i64 n] w (Two n w) := by
  have hcv := conv_new2
  unfold Two twoC
  by_cases h0 : n < 0
  · have hc : clamp n = 0 := by unfold clamp; rw [if_pos h0]
    rw [hc]
    go_enter Try.func30, Try.ntmps30
    go_wp2
    go_ret
    exact ⟨rfl, rfl⟩
  · by_cases h1 : n > 65535
    · have hc : clamp n = 65535 := by unfold clamp; rw [if_neg h0, if_pos h1]
      rw [hc]
      go_enter Try.func30, Try.ntmps30
      go_wp2
      go_ret
      exact ⟨rfl, rfl⟩
    · have hc : clamp n = n := by unfold clamp; rw [if_neg h0, if_neg h1]
      rw [hc]
      obtain ⟨k, rfl⟩ : ∃ k : Nat, n = k := ⟨n.toNat, by omega⟩
      have e1 : IntKind.u8.wrap ((k : Int) / 256) = (k : Int) / 256 := by rw [IntKind.wrap_u8]; omega
      have e2 : IntKind.u8.wrap ((k : Int) % 256) = (k : Int) % 256 := by rw [IntKind.wrap_u8]; omega
      go_enter Try.func30, Try.ntmps30
      go_wp2
      go_ret
      exact ⟨rfl, rfl⟩
theorem max2_int (k k' : IntKind) (x y : Int) : Builtin.max2 (.int k x) (.int k' y) = pure (.int k (if x < y then y else x)) := by simp only [Builtin.max2]
theorem min2_int (k k' : IntKind) (x y : Int) : Builtin.min2 (.int k x) (.int k' y) = pure (.int k (if y < x then y else x)) := by simp only [Builtin.min2]
set_option maxHeartbeats 800000 in
theorem two_any (n : Int) (w : World) : Calls Try.prog 29 #[.int .i64 n] w (Two n w) := by
  have hcv := conv_new2
  have hmx := max2_int
  have hmn := min2_int
  unfold Two twoC
  by_cases h0 : n < 0
  · have hc : clamp n = 0 := by unfold clamp; rw [if_pos h0]
    rw [hc]
    go_enter Try.func29, Try.ntmps29
    go_wp2
    go_ret
    exact ⟨rfl, rfl⟩
  · have h0' : ¬ n < 0 := h0
    by_cases h1 : n > 65535
    · have hc : clamp n = 65535 := by unfold clamp; rw [if_neg h0, if_pos h1]
      rw [hc]
      go_enter Try.func29, Try.ntmps29
      go_wp2
      go_ret
      exact ⟨rfl, rfl⟩
    · have hc : clamp n = n := by unfold clamp; rw [if_neg h0, if_neg h1]
      rw [hc]
      obtain ⟨k, rfl⟩ : ∃ k : Nat, n = k := ⟨n.toNat, by omega⟩
      have e1 : IntKind.u8.wrap ((k : Int) / 256) = (k : Int) / 256 := by rw [IntKind.wrap_u8]; omega
      have e2 : IntKind.u8.wrap (k : Int) = (k : Int) % 256 := by rw [IntKind.wrap_u8]
      go_enter Try.func29, Try.ntmps29
      go_wp2
      go_ret
      exact ⟨rfl, rfl⟩
end Go.Proofs.Ytehnahikfemodaa.Ct
