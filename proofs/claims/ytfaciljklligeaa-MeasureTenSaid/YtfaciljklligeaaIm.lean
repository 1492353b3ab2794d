/- Images: may they be, and may two be held against each other? -/
import Derived.Test.YtfaciljklligeaaFl
namespace Go.Proofs.Ytfaciljklligeaa.Ct
open Go.ChangeShapes Go.WideShapes Go.RowKit Mm
def imgA (W H C : Int) (A : Option Addr) (n c : Nat) : Array Value := #[.int .i64 W, .int .i64 H, .int .i64 C, .slice A n c]
abbrev imgV (W H C : Int) (A : Option Addr) (n c : Nat) : Value := .agg (imgA W H C A n c)
def mayP (W H C : Int) (n : Nat) : Prop := (1 ≤ W ∧ W ≤ 65535) ∧ (1 ≤ H ∧ H ≤ 65535) ∧ (1 ≤ C ∧ C ≤ 4) ∧ (n : Int) = W * H * C
instance (W H C : Int) (n : Nat) : Decidable (mayP W H C n) := by unfold mayP; infer_instance
def mayB (W H C : Int) (n : Nat) : Bool := decide (mayP W H C n)
theorem cells4 {w : World} {g : Nat} {t : TypeId} {v0 v1 v2 v3 : Value} (h : Blk w g t #[v0, v1, v2, v3]) :
    w.cell? ⟨g, 0, none⟩ = some v0 ∧ w.cell? ⟨g, 1, none⟩ = some v1 ∧ w.cell? ⟨g, 2, none⟩ = some v2 ∧ w.cell? ⟨g, 3, none⟩ = some v3 := by
  refine ⟨?_, ?_, ?_, ?_⟩ <;> rw [h.cell] <;> rfl
theorem may_prod {W H C : Int} (hW : 1 ≤ W ∧ W ≤ 65535) (hH : 1 ≤ H ∧ H ≤ 65535) (hC : 1 ≤ C ∧ C ≤ 4) : 1 ≤ W * H ∧ W * H ≤ 4294836225 ∧ 1 ≤ W * H * C ∧ W * H * C ≤ 17179344900 := by
  have h1 : W * H ≤ 65535 * 65535 := Int.mul_le_mul hW.2 hH.2 (by omega) (by omega)
  have h2 : 1 * 1 ≤ W * H := Int.mul_le_mul hW.1 hH.1 (by omega) (by omega)
  have h3 : W * H * C ≤ 4294836225 * 4 := Int.mul_le_mul (by omega) hC.2 (by omega) (by omega)
  have h4 : 1 * 1 ≤ W * H * C := Int.mul_le_mul (by omega) hC.1 (by omega) (by omega)
  omega
section
variable (w : World) (W H C : Int) (A : Option Addr) (n c : Nat)
set_option maxHeartbeats 800000 in
theorem may53 : Calls Try.prog 53 #[imgV W H C A n c] w fun e w' => e = .returned (.bool (mayB W H C n)) ∧ Only No w w' := by
  have hd : Hid (mayB W H C n = decide (mayP W H C n)) := rfl
  have o := (Only.refl No w).alloc (.cells (imgA W H C A n c) 32)
  unfold imgA at o
  unfold imgV imgA
  replace o := Lib.hid o
  by_cases h1 : 1 ≤ W
  · by_cases h2 : W ≤ 65535
    · by_cases h3 : 1 ≤ H
      · by_cases h4 : H ≤ 65535
        · by_cases h5 : 1 ≤ C
          · by_cases h6 : C ≤ 4
            · obtain ⟨p1, p2, p3, p4⟩ := may_prod ⟨h1, h2⟩ ⟨h3, h4⟩ ⟨h5, h6⟩
              have hm : Hid (mayB W H C n = decide ((n : Int) = W * H * C)) := by rw [hd.out]; unfold Hid mayP; simp [h1, h2, h3, h4, h5, h6]
              have e1 : IntKind.i64.wrap (W * H) = W * H := IntWalk.i64_in _ (by omega)
              have e2 : IntKind.i64.wrap (W * H * C) = W * H * C := IntWalk.i64_in _ (by omega)
              go_enter Try.func53, Try.ntmps53
              go_wp2_with fail
              go_ret
              exact ⟨by rw [hm.out]; first | rfl | simp [beq_eq_decide] | (congr 2), o.out⟩
            · have d6 : decide (C ≤ 4) = false := decide_eq_false h6
              have hm : Hid (mayB W H C n = false) := by rw [hd.out]; unfold Hid mayP; simp [h6]
              go_enter Try.func53, Try.ntmps53
              go_wp2_with fail
              go_ret
              exact ⟨by rw [hm.out]; rfl, o.out⟩
          · have d6 : decide (1 ≤ C) = false := decide_eq_false h5
            have hm : Hid (mayB W H C n = false) := by rw [hd.out]; unfold Hid mayP; simp [h5]
            go_enter Try.func53, Try.ntmps53
            go_wp2_with fail
            go_ret
            exact ⟨by rw [hm.out]; rfl, o.out⟩
        · have d6 : decide (H ≤ 65535) = false := decide_eq_false h4
          have hm : Hid (mayB W H C n = false) := by rw [hd.out]; unfold Hid mayP; simp [h4]
          go_enter Try.func53, Try.ntmps53
          go_wp2_with fail
          go_ret
          exact ⟨by rw [hm.out]; rfl, o.out⟩
      · have d6 : decide (1 ≤ H) = false := decide_eq_false h3
        have hm : Hid (mayB W H C n = false) := by rw [hd.out]; unfold Hid mayP; simp [h3]
        go_enter Try.func53, Try.ntmps53
        go_wp2_with fail
        go_ret
        exact ⟨by rw [hm.out]; rfl, o.out⟩
    · have d6 : decide (W ≤ 65535) = false := decide_eq_false h2
      have hm : Hid (mayB W H C n = false) := by rw [hd.out]; unfold Hid mayP; simp [h2]
      go_enter Try.func53, Try.ntmps53
      go_wp2_with fail
      go_ret
      exact ⟨by rw [hm.out]; rfl, o.out⟩
  · have d6 : decide (1 ≤ W) = false := decide_eq_false h1
    have hm : Hid (mayB W H C n = false) := by rw [hd.out]; unfold Hid mayP; simp [h1]
    go_enter Try.func53, Try.ntmps53
    go_wp2_with fail
    go_ret
    exact ⟨by rw [hm.out]; rfl, o.out⟩
set_option maxHeartbeats 800000 in
theorem rmay54 : Calls Try.prog 54 #[imgV W H C A n c] w fun e w' => e = .returned (.bool (mayB W H C n)) ∧ Only No w w' := by
  have hd : Hid (mayB W H C n = decide (mayP W H C n)) := rfl
  have o := (Only.refl No w).alloc (.cells (imgA W H C A n c) 32)
  unfold imgA at o
  unfold imgV imgA
  replace o := Lib.hid o
  by_cases h1 : 1 ≤ W
  · by_cases h2 : W ≤ 65535
    · by_cases h3 : 1 ≤ H
      · by_cases h4 : H ≤ 65535
        · by_cases h5 : 1 ≤ C
          · by_cases h6 : C ≤ 4
            · obtain ⟨p1, p2, p3, p4⟩ := may_prod ⟨h1, h2⟩ ⟨h3, h4⟩ ⟨h5, h6⟩
              have hm : Hid (mayB W H C n = decide ((n : Int) = W * H * C)) := by rw [hd.out]; unfold Hid mayP; simp [h1, h2, h3, h4, h5, h6]
              have e1 : IntKind.i64.wrap (W * H) = W * H := IntWalk.i64_in _ (by omega)
              have e2 : IntKind.i64.wrap (W * H * C) = W * H * C := IntWalk.i64_in _ (by omega)
              go_enter Try.func54, Try.ntmps54
              go_wp2_with fail
              go_ret
              exact ⟨by rw [hm.out]; first | rfl | simp [beq_eq_decide] | (congr 2), o.out⟩
            · have d6 : decide (C > 4) = true := decide_eq_true (by omega : C > 4) --h6
              have hm : Hid (mayB W H C n = false) := by rw [hd.out]; unfold Hid mayP; simp [h6]
              go_enter Try.func54, Try.ntmps54
              go_wp2_with fail
              go_ret
              exact ⟨by rw [hm.out]; rfl, o.out⟩
          · have d6 : decide (C < 1) = true := decide_eq_true (by omega : C < 1) --h5
            have hm : Hid (mayB W H C n = false) := by rw [hd.out]; unfold Hid mayP; simp [h5]
            go_enter Try.func54, Try.ntmps54
            go_wp2_with fail
            go_ret
            exact ⟨by rw [hm.out]; rfl, o.out⟩
        · have d6 : decide (H > 65535) = true := decide_eq_true (by omega : H > 65535) --h4
          have hm : Hid (mayB W H C n = false) := by rw [hd.out]; unfold Hid mayP; simp [h4]
          go_enter Try.func54, Try.ntmps54
          go_wp2_with fail
          go_ret
          exact ⟨by rw [hm.out]; rfl, o.out⟩
      · have d6 : decide (H < 1) = true := decide_eq_true (by omega : H < 1) --h3
        have hm : Hid (mayB W H C n = false) := by rw [hd.out]; unfold Hid mayP; simp [h3]
        go_enter Try.func54, Try.ntmps54
        go_wp2_with fail
        go_ret
        exact ⟨by rw [hm.out]; rfl, o.out⟩
    · have d6 : decide (W > 65535) = true := decide_eq_true (by omega : W > 65535) --h2
      have hm : Hid (mayB W H C n = false) := by rw [hd.out]; unfold Hid mayP; simp [h2]
      go_enter Try.func54, Try.ntmps54
      go_wp2_with fail
      go_ret
      exact ⟨by rw [hm.out]; rfl, o.out⟩
  · have d6 : decide (W < 1) = true := decide_eq_true (by omega : W < 1) --h1
    have hm : Hid (mayB W H C n = false) := by rw [hd.out]; unfold Hid mayP; simp [h1]
    go_enter Try.func54, Try.ntmps54
    go_wp2_with fail
    go_ret
    exact ⟨by rw [hm.out]; rfl, o.out⟩
end
end Go.Proofs.Ytfaciljklligeaa.Ct
