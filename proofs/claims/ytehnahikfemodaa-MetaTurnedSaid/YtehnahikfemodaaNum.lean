/- Numbers of a directory's text: the program's and the reference's. -/
import Derived.Test.YtehnahikfemodaaAdobe
namespace Go.Proofs.Ytehnahikfemodaa.Ct
open Go.ChangeShapes Go.WideShapes Go.RowKit Mm

def nat8 (s : ByteArray) (i : Nat) : Nat := ((s.data[i]?).getD 0).toNat
theorem nat8_eq (s : ByteArray) (i : Nat) (h : i < s.size) : nat8 s i = s[i].toNat := by
  unfold nat8
  have h' : i < s.data.size := h
  rw [Array.getElem?_eq_getElem h']
  rfl
theorem nat8_lt (s : ByteArray) (i : Nat) : nat8 s i < 256 := by unfold nat8; exact ((s.data[i]?).getD 0).toNat_lt
/-- the first i of n bytes at a place, as a number -/
def valN (s : ByteArray) (a n : Nat) (high : Bool) : Nat → Nat
  | 0 => 0
  | i + 1 => 256 * valN s a n high i + nat8 s (if high then a + i else a + n - 1 - i)
theorem valN_lt (s : ByteArray) (a n : Nat) (high : Bool) (i : Nat) : valN s a n high i < 256 ^ i := by
  induction i with
  | zero => simp [valN]
  | succ i ih =>
    have := nat8_lt s (if high then a + i else a + n - 1 - i)
    rw [valN, Nat.pow_succ]
    omega
theorem valN_le (s : ByteArray) (a n : Nat) (high : Bool) (i : Nat) (h : i ≤ 4) : valN s a n high i < 4294967296 :=
  Nat.lt_of_lt_of_le (valN_lt s a n high i) (by have := Nat.pow_le_pow_right (show 0 < 256 by omega) h; simpa using this)
def numN (s : ByteArray) (a n : Nat) (high : Bool) : Nat := valN s a n high n
theorem or_word2 (a b : Nat) (ha : a < 16777216) (hb : b < 256) : bits .or .i64 ((a : Int) * 256) (b : Int) = ((256 * a + b : Nat) : Int) := by
  have e2 : ((a : Int) * 256) = ((a * 256 : Nat) : Int) := by omega
  rw [e2]
  show IntKind.i64.wrap ((BitVec.ofInt 64 ((a * 256 : Nat) : Int) ||| BitVec.ofInt 64 (b : Int)).toNat : Int) = _
  have t1 : (((a * 256 : Nat) : Int) % ((2 ^ 64 : Nat) : Int)).toNat = a <<< 8 := by rw [Nat.shiftLeft_eq]; omega
  have t2 : (((b : Nat) : Int) % ((2 ^ 64 : Nat) : Int)).toNat = b := by omega
  rw [BitVec.toNat_or, BitVec.toNat_ofInt, BitVec.toNat_ofInt, t1, t2, ← Nat.shiftLeft_add_eq_or_of_lt (by omega), Nat.shiftLeft_eq, IntKind.wrap_i64]
  omega
theorem wrap_small (b : Nat) (h : b < 4294967296) : wrap64 (b : Int) = b := by unfold wrap64; omega
set_option maxRecDepth 100000 in
set_option maxHeartbeats 1600000 in
theorem number_yes (s : ByteArray) (high : Bool) (a n : Nat) (w : World) (hs : s.size ≤ 9223372036854775807) (hn : n ≤ 4) (h : a + n ≤ s.size) :
    Calls Try.prog 37 #[.agg #[.string s, .bool high], .int .i64 a, .int .i64 n] w fun e w' => e = .returned (.tuple #[.int .i64 (numN s a n high), .bool true]) ∧ Only No w w' := by
  have h' : (a : Int) + n ≤ s.size := by omega
  go_enter Try.func37, Try.ntmps37
  go_wp2
  obtain ⟨W, hW⟩ : ∃ W, W = w.alloc (.cells #[.string s, .bool high] 60) := ⟨_, rfl⟩
  rw [← hW]
  have hb : Hid (Blk W w.heap.size 60 #[.string s, .bool high]) := Lib.hid (by rw [hW]; exact Blk.new _ _ _)
  have oW : Hid (Only No w W) := Lib.hid (by rw [hW]; exact (Only.refl _ _).alloc _)
  clear hW
  go_loop [8, 9, 10, 23] (fun v8 _ _ v23 => ∃ i : Nat, v23 = .int .i64 i ∧ i ≤ n ∧ v8 = .int .i64 (valN s a n high i)) (fun _ _ _ v23 => n - (intOf v23).toNat)
  case atStart => exact ⟨0, rfl, by omega, rfl⟩
  case round =>
    obtain ⟨i, rfl, hi, rfl⟩ := hrel
    have c0 : W.cell? ⟨w.heap.size, 0, none⟩ = some (.string s) := hb.out.cell 0
    have c1 : W.cell? ⟨w.heap.size, 1, none⟩ = some (.bool high) := hb.out.cell 1
    have hv := valN_le s a n high i (by omega)
    by_cases hlt : i < n
    · have hlt' : (i : Int) < n := by omega
      have hv3 : valN s a n high i < 16777216 := Nat.lt_of_lt_of_le (valN_lt s a n high i) (by have := Nat.pow_le_pow_right (show 0 < 256 by omega) (show i ≤ 3 by omega); simpa using this)
      have hv4 : Hid (valN s a n high i < 16777216) := Lib.hid hv3
      clear hv3
      cases high
      · have hx : a + n - 1 - i < s.size := by omega
        have hst : Hid (valN s a n false (i + 1) = 256 * valN s a n false i + s[a + n - 1 - i].toNat) := Lib.hid (by rw [valN]; simp only [Bool.false_eq_true, if_false]; rw [nat8_eq s _ hx])
        go_wp2
        go_round
        case rel => exact ⟨i + 1, by go_num, by omega, by rw [hst.out, wrap_small _ (by have := s[a + n - 1 - i].toNat_lt; omega), or_word2 _ _ hv4.out s[a + n - 1 - i].toNat_lt]⟩
        case measure => simp [intOf]; omega
      · have hx : a + i < s.size := by omega
        have hst : Hid (valN s a n true (i + 1) = 256 * valN s a n true i + s[a + i].toNat) := Lib.hid (by rw [valN]; simp only [if_true]; rw [nat8_eq s _ hx])
        go_wp2
        go_round
        case rel => exact ⟨i + 1, by go_num, by omega, by rw [hst.out, wrap_small _ (by have := s[a + i].toNat_lt; omega), or_word2 _ _ hv4.out s[a + i].toNat_lt]⟩
        case measure => simp [intOf]; omega
    · obtain rfl : i = n := by omega
      go_wp2
      go_ret2
      exact ⟨rfl, oW.out⟩
set_option maxHeartbeats 1600000 in
theorem number_no (s : ByteArray) (high : Bool) (a : Int) (n : Nat) (w : World) (hs : s.size ≤ 9223372036854775807) (hn : n ≤ 4) (h0 : 0 ≤ a) (h : (s.size : Int) - n < a) (h1 : a ≤ 9000000000000000000) :
    Calls Try.prog 37 #[.agg #[.string s, .bool high], .int .i64 a, .int .i64 n] w fun e w' => e = .returned (.tuple #[.int .i64 0, .bool false]) ∧ Only No w w' := by
  go_enter Try.func37, Try.ntmps37
  go_wp2
  go_ret2
  exact ⟨rfl, (Only.refl _ _).alloc _⟩
theorem join256 (v b : Nat) (hv : v < 16777216) (hb : b < 256) : Value.int .i64 (wrap64 (256 * (v : Int) + (b : Int))) = Value.int .i64 ((256 * v + b : Nat) : Int) := by
  have e : wrap64 (256 * (v : Int) + (b : Int)) = ((256 * v + b : Nat) : Int) := by unfold wrap64; omega
  rw [e]
set_option maxRecDepth 100000 in
set_option maxHeartbeats 1600000 in
theorem rnumber_yes (s : ByteArray) (high : Bool) (a n : Nat) (w : World) (hs : s.size ≤ 9223372036854775807) (hn : n ≤ 4) (h : a + n ≤ s.size) :
    Calls Try.prog 51 #[.string s, .int .i64 a, .int .i64 n, .bool high] w fun e w' => e = .returned (.int .i64 (numN s a n high)) ∧ w = w' := by
  have h' : (a : Int) + n ≤ s.size := by omega
  go_enter Try.func51, Try.ntmps51
  go_wp2
  go_loop [9, 10, 11] (fun v9 v10 _ => ∃ i : Nat, v10 = .int .i64 i ∧ i ≤ n ∧ v9 = .int .i64 (valN s a n high i)) (fun _ v10 _ => n - (intOf v10).toNat)
  case atStart => exact ⟨0, rfl, by omega, rfl⟩
  case round =>
    obtain ⟨i, rfl, hi, rfl⟩ := hrel
    have hv := valN_le s a n high i (by omega)
    by_cases hlt : i < n
    · have hlt' : (i : Int) < n := by omega
      have hv4 : Hid (valN s a n high i < 16777216) := Lib.hid (Nat.lt_of_lt_of_le (valN_lt s a n high i) (by have := Nat.pow_le_pow_right (show 0 < 256 by omega) (show i ≤ 3 by omega); simpa using this))
      cases high
      · have hx : a + n - 1 - i < s.size := by omega
        have hst : Hid (valN s a n false (i + 1) = 256 * valN s a n false i + s[a + n - 1 - i].toNat) := Lib.hid (by rw [valN]; simp only [Bool.false_eq_true, if_false]; rw [nat8_eq s _ hx])
        go_wp2
        go_round
        case rel => exact ⟨i + 1, by go_num, by omega, by rw [hst.out, wrap_small _ (by have := s[a + n - 1 - i].toNat_lt; omega)]; exact join256 _ _ hv4.out s[a + n - 1 - i].toNat_lt⟩
        case measure => simp [intOf]; omega
      · have hx : a + i < s.size := by omega
        have hst : Hid (valN s a n true (i + 1) = 256 * valN s a n true i + s[a + i].toNat) := Lib.hid (by rw [valN]; simp only [if_true]; rw [nat8_eq s _ hx])
        go_wp2
        go_round
        case rel => exact ⟨i + 1, by go_num, by omega, by rw [hst.out, wrap_small _ (by have := s[a + i].toNat_lt; omega)]; exact join256 _ _ hv4.out s[a + i].toNat_lt⟩
        case measure => simp [intOf]; omega
    · obtain rfl : i = n := by omega
      go_wp2
      go_ret
      exact ⟨rfl, rfl⟩
set_option maxHeartbeats 1600000 in
theorem rnumber_no (s : ByteArray) (high : Bool) (a : Int) (n : Nat) (w : World) (hs : s.size ≤ 9223372036854775807) (hn : n ≤ 4) (h0 : 0 ≤ a) (h : (s.size : Int) < a + n) (h1 : a ≤ 9000000000000000000) :
    Calls Try.prog 51 #[.string s, .int .i64 a, .int .i64 n, .bool high] w fun e w' => e = .returned (.int .i64 (-1)) ∧ w = w' := by
  go_enter Try.func51, Try.ntmps51
  go_wp2
  go_ret
  exact ⟨rfl, rfl⟩
end Go.Proofs.Ytehnahikfemodaa.Ct
