/- A number in so many bytes. -/
import Derived.Test.YtehnahikfemodaaTn
namespace Go.Proofs.Ytehnahikfemodaa.Ct
open Go.ChangeShapes Go.WideShapes Go.RowKit Mm
theorem conv_new1 (W : World) (x : Int) : (convert 31 9 (.slice (some ⟨W.heap.size, 0, none⟩) 1 1)).run Try.prog (W.alloc (.cells #[.int .u8 x] 5)) = .ok (.string (strOfNums [x])) (W.alloc (.cells #[.int .u8 x] 5)) := conv_new W [x] 1 rfl
set_option maxRecDepth 100000 in
set_option maxHeartbeats 1600000 in
theorem bytes23 (n many : Nat) (high : Bool) (w : World) (hn : n ≤ 1000000000000) (hm : many ≤ 4) :
    Calls Try.prog 23 #[.int .i64 n, .int .i64 many, .bool high] w fun e w' => e = .returned (.string (bsI n high many)) ∧ Only No w w' := by
  have hcv := conv_new1
  have za : ∀ a b : ByteArray, (a ++ b).size = a.size + b.size := fun a b => ByteArray.size_append
  have z1 : ∀ x, (strOfNums [x]).size = 1 := fun _ => rfl
  go_enter Try.func23, Try.ntmps23
  go_wp2_with fail
  go_loopw [0, 7, 8, 9] (fun v0 v7 v8 _ wr => ∃ (i x : Nat) (B : ByteArray), v8 = .int .i64 i ∧ i ≤ many ∧ v0 = .int .i64 x ∧ x ≤ 1000000000000 ∧ v7 = .string B ∧ B.size ≤ 4 ∧ Hid (x = n / 256 ^ i ∧ B = bsI n high i ∧ Only No w wr)) (fun _ _ v8 _ _ => many - (intOf v8).toNat)
  case atStart => exact ⟨0, n, ByteArray.empty, rfl, by omega, rfl, hn, rfl, by decide, Lib.hid ⟨by simp, by cases high <;> rfl, Only.refl _ _⟩⟩
  case round =>
    obtain ⟨i, x, B, rfl, hi, rfl, hx, rfl, hB, hI⟩ := hrel
    by_cases hlt : i < many
    · have hlt' : (i : Int) < many := by omega
      have e1 : IntKind.u8.wrap ((x : Int) % 256) = (x : Int) % 256 := by rw [IntKind.wrap_u8]; omega
      have hd : Hid (((n / 256 ^ i % 256 : Nat) : Int) = (x : Int) % 256) := Lib.hid (by rw [← hI.out.1]; omega)
      have hx2 : Hid (x / 256 = n / 256 ^ (i + 1)) := Lib.hid (by rw [hI.out.1, Nat.div_div_eq_div_mul, Nat.pow_succ])
      have hxc : Hid ((x : Int) / 256 = ((x / 256 : Nat) : Int)) := Lib.hid (by omega)
      have hsz : Hid ((bsI n high (i + 1)).size ≤ 4) := Lib.hid (by rw [bsI_size]; omega)
      cases high
      · have hb : Hid (B ++ strOfNums [(x : Int) % 256] = bsI n false (i + 1)) := Lib.hid (by rw [bsI_low, hI.out.2.1, hd.out])
        go_wp2_with fail
        rw [hxc.out]
        go_roundw
        case rel => exact ⟨i + 1, x / 256, _, by go_num, by omega, rfl, by omega, rfl, by rw [hb.out]; exact hsz.out, Lib.hid ⟨hx2.out, hb.out, hI.out.2.2.alloc _⟩⟩
        case measure => simp [intOf]; omega
      · have hb : Hid (strOfNums [(x : Int) % 256] ++ B = bsI n true (i + 1)) := Lib.hid (by rw [bsI_high, hI.out.2.1, hd.out])
        go_wp2_with fail
        rw [hxc.out]
        go_roundw
        case rel => exact ⟨i + 1, x / 256, _, by go_num, by omega, rfl, by omega, rfl, by rw [hb.out]; exact hsz.out, Lib.hid ⟨hx2.out, hb.out, hI.out.2.2.alloc _⟩⟩
        case measure => simp [intOf]; omega
    · have hlt' : ¬ (i : Int) < many := by omega
      obtain rfl : i = many := by omega
      go_wp2_with fail
      go_ret
      exact ⟨by rw [← hI.out.2.1]; rfl, hI.out.2.2⟩
end Go.Proofs.Ytehnahikfemodaa.Ct
