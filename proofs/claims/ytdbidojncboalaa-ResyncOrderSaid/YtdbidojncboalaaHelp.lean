/- The contracts of the laws' helpers. -/
import Derived.Test.YtdbidojncboalaaGroups
namespace Go.Proofs.Ytdbidojncboalaa.Ct
open Go.ChangeShapes Go.WideShapes Go.RowKit Mm Rs

/-- true, and but for draws and new memory the world is as it was -/
def Yes (w : World) (e : Ending) (w' : World) : Prop := e = .returned (.bool true) ∧ Only No w w'
set_option maxRecDepth 100000 in
set_option maxHeartbeats 1600000 in
theorem same_yes (A B : Option Addr) (c d : Nat) (l : List Slot) (N : Nat) (w : World) (ha : Rds w 2 A N (slC l)) (hb : Rds w 2 B N (slC l)) (hl : l.length = N) (hN : N ≤ 1000000000000) :
    Calls Try.prog 14 #[.slice A N c, .slice B N d] w (Yes w) := by
  have HA := Lib.hid ha
  have HB := Lib.hid hb
  have HL := Lib.hid hl
  clear ha hb hl
  go_enter Try.func14, Try.ntmps14
  go_wp2
  go_loopw [5] (fun v5 wr => ∃ i : Nat, v5 = .int .i64 i ∧ i ≤ N ∧ Hid (Only No w wr)) (fun v5 _ => N - (intOf v5).toNat)
  case atStart => exact ⟨0, rfl, by omega, Only.refl _ _⟩
  case round =>
    obtain ⟨i, rfl, hi, hO⟩ := hrel
    by_cases hlt : i < N
    · have hlt' : (i : Int) < N := by omega
      obtain ⟨ad, rfl, x0, x1⟩ := slot_cells (HA.out.no hO.out) HL.out i hlt
      obtain ⟨ad2, rfl, y0, y1⟩ := slot_cells (HB.out.no hO.out) HL.out i hlt
      generalize l[i]'(by rw [HL.out]; exact hlt) = u at x0 x1 y0 y1
      go_wp2_with fail
      go_quiet (fail)
      go_wp2
      go_roundw
      case rel => exact ⟨i + 1, by go_num, by omega, by first | exact hO.out | exact hO.out.drewN _⟩
      case measure => simp [intOf]; omega
    · have hlt' : ¬ (i : Int) < N := by omega
      go_wp2
      go_ret
      exact ⟨rfl, hO.out⟩
set_option maxRecDepth 100000 in
set_option maxHeartbeats 1600000 in
theorem ints_yes (A B : Option Addr) (c d : Nat) (l : List Int) (N : Nat) (w : World) (ha : Rds w 1 A N (inC l)) (hb : Rds w 1 B N (inC l)) (hl : l.length = N) (hN : N ≤ 100000000000000) :
    Calls Try.prog 25 #[.slice A N c, .slice B N d] w (Yes w) := by
  have HA := Lib.hid ha
  have HB := Lib.hid hb
  have HL := Lib.hid hl
  clear ha hb hl
  go_enter Try.func25, Try.ntmps25
  go_wp2
  go_loopw [5] (fun v5 wr => ∃ i : Nat, v5 = .int .i64 i ∧ i ≤ N ∧ Hid (Only No w wr)) (fun v5 _ => N - (intOf v5).toNat)
  case atStart => exact ⟨0, rfl, by omega, Only.refl _ _⟩
  case round =>
    obtain ⟨i, rfl, hi, hO⟩ := hrel
    by_cases hlt : i < N
    · have hlt' : (i : Int) < N := by omega
      obtain ⟨ad, rfl, x0⟩ := int_cell (HA.out.no hO.out) HL.out i hlt
      obtain ⟨ad2, rfl, y0⟩ := int_cell (HB.out.no hO.out) HL.out i hlt
      generalize l[i]'(by rw [HL.out]; exact hlt) = u at x0 y0
      go_wp2_with fail
      go_quiet (fail)
      go_wp2
      go_roundw
      case rel => exact ⟨i + 1, by go_num, by omega, by first | exact hO.out | exact hO.out.drewN _⟩
      case measure => simp [intOf]; omega
    · have hlt' : ¬ (i : Int) < N := by omega
      go_wp2
      go_ret
      exact ⟨rfl, hO.out⟩
set_option maxRecDepth 100000 in
set_option maxHeartbeats 1600000 in
theorem full_yes (A : Option Addr) (c : Nat) (mk : Int) (N : Nat) (w : World) (ha : Rds w 2 A N (slC (List.replicate N (mk, 0)))) (hN : N ≤ 1000000000000) :
    Calls Try.prog 17 #[.slice A N c, .int .i64 mk] w (Yes w) := by
  have HA := Lib.hid ha
  clear ha
  go_enter Try.func17, Try.ntmps17
  go_wp2
  go_loopw [5] (fun v5 wr => ∃ i : Nat, v5 = .int .i64 i ∧ i ≤ N ∧ Hid (Only No w wr)) (fun v5 _ => N - (intOf v5).toNat)
  case atStart => exact ⟨0, rfl, by omega, Only.refl _ _⟩
  case round =>
    obtain ⟨i, rfl, hi, hO⟩ := hrel
    by_cases hlt : i < N
    · have hlt' : (i : Int) < N := by omega
      obtain ⟨ad, rfl, x0, x1⟩ := slot_cells (HA.out.no hO.out) (List.length_replicate) i hlt
      rw [List.getElem_replicate] at x0 x1
      simp only at x0 x1
      go_wp2
      go_roundw
      case rel => exact ⟨i + 1, by go_num, by omega, hO.out⟩
      case measure => simp [intOf]; omega
    · have hlt' : ¬ (i : Int) < N := by omega
      go_wp2
      go_ret
      exact ⟨rfl, hO.out⟩
theorem large_any (n : Int) (w : World) : Calls Try.prog 10 #[.int .i64 n] w fun e w' => e = .returned (.bool (decide (100000 < n ∧ n ≤ 1048576))) ∧ w = w' := by
  by_cases h0 : 100000 < n
  · by_cases h1 : n ≤ 1048576
    · have hd : decide (100000 < n ∧ n ≤ 1048576) = true := by simp [h0, h1]
      rw [hd]
      go_enter Try.func10, Try.ntmps10
      go_wp2
      go_ret
      exact ⟨rfl, rfl⟩
    · have hd : decide (100000 < n ∧ n ≤ 1048576) = false := by simp [h1]
      rw [hd]
      go_enter Try.func10, Try.ntmps10
      go_wp2
      go_ret
      exact ⟨rfl, rfl⟩
  · have hd : decide (100000 < n ∧ n ≤ 1048576) = false := by simp [h0]
    rw [hd]
    go_enter Try.func10, Try.ntmps10
    go_wp2
    go_ret
    exact ⟨rfl, rfl⟩
end Go.Proofs.Ytdbidojncboalaa.Ct
