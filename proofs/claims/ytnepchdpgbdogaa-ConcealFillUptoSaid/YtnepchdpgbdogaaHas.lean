/- Has: what a map says of a place. -/
import Derived.Test.YtnepchdpgbdogaaMp
import Derived.IntWalk
namespace Go.Proofs.Ytnepchdpgbdogaa.Ct
open Go.ChangeShapes Go.WideShapes Go.RowKit Mm
theorem has25_no (w : World) (g W H : Nat) (B : Nat) (l : List Bool) (h : MapAt w B g W H l) (x y : Int) (hi : inB W H x y = false) : Calls Try.prog 25 #[P g, .int .i64 x, .int .i64 y] w fun e w' => e = .returned (.bool false) ∧ ∃ n, w' = w.drewN n := by
  go_enter Try.func25, Try.ntmps25
  go_wp2_with fail
  go_quiet ((go_at_call 37; exact Calls.quiet_of_same (in37_no _ _ _ _ _ _ (h.drewN _) _ _ hi)))
  go_wp2_with fail
  go_ret
  exact ⟨rfl, _, rfl⟩
theorem has25_yes (w : World) (g W H : Nat) (B : Nat) (l : List Bool) (h : MapAt w B g W H l) (x y : Nat) (hx : x < W) (hy : y < H) : Calls Try.prog 25 #[P g, .int .i64 x, .int .i64 y] w fun e w' => e = .returned (.bool (l.getD (y * W + x) false)) ∧ ∃ n, w' = w.drewN n := by
  obtain ⟨A, c, n, hb, hr, _⟩ := h.ex
  have c0 := hb.cell 0
  have c2 := hb.cell 2
  simp only [List.getElem?_toArray, List.getElem?_cons_zero, List.getElem?_cons_succ] at c0 c2
  have hl := hb.lt
  have hlt : y * W + x < W * H := by
    have : y * W + W ≤ H * W := by rw [← Nat.succ_mul]; exact Nat.mul_le_mul_right _ hy
    rw [Nat.mul_comm W H]; omega
  have hW := h.w8
  have hH := h.h8
  have hm : W * H ≤ 8192 * 8192 := Nat.mul_le_mul hW hH
  have hm2 : y * W ≤ 8192 * 8192 := by omega
  have hlen := h.len
  have hlt2 : y * W + x < l.length := by omega
  obtain ⟨ad, rfl, hc⟩ := hr.at_ (i := y * W + x) (u := .bool (l.getD (y * W + x) false)) (by omega) (by
    simp [boC, hlt2])
  have e1 : IntKind.i64.wrap ((y : Int) * (W : Int)) = ((y * W : Nat) : Int) := by rw [IntWalk.i64_in _ (by push_cast at hm2 ⊢; omega)]; push_cast; rfl
  have e2 : IntKind.i64.wrap (((y * W : Nat) : Int) + (x : Int)) = ((y * W + x : Nat) : Int) := by rw [IntWalk.i64_in _ (by omega)]; push_cast; rfl
  have e3 : (((y * W + x : Nat) : Int)).toNat = y * W + x := Int.toNat_natCast _
  have e4 : (0 : Int) ≤ ((y * W + x : Nat) : Int) := Int.natCast_nonneg _
  have e5 : ((y * W + x : Nat) : Int) < (l.length : Int) := by omega
  replace hb := Lib.hid hb
  replace hr := Lib.hid hr
  generalize y * W + x = k at *
  generalize y * W = j at *
  go_enter Try.func25, Try.ntmps25
  go_wp2_with fail
  go_quiet ((go_at_call 37; exact Calls.quiet_of_same (in37_yes _ _ _ _ _ _ (h.drewN _) _ _ hx hy)))
  go_wp2_with fail
  go_ret
  exact ⟨by simp [hlt2], _, rfl⟩
theorem inB_nat {W H x y : Nat} (hx : x < W) (hy : y < H) : inB W H (x : Int) (y : Int) = true := by unfold inB; simp; omega
theorem of_inB {W H : Nat} {x y : Int} (h : inB W H x y = true) : ∃ a b : Nat, x = a ∧ y = b ∧ a < W ∧ b < H := by
  unfold inB at h
  have h := of_decide_eq_true h
  exact ⟨x.toNat, y.toNat, by omega, by omega, by omega, by omega⟩
theorem has25 (w : World) (g W H : Nat) (B : Nat) (l : List Bool) (h : MapAt w B g W H l) (x y : Int) : Calls Try.prog 25 #[P g, .int .i64 x, .int .i64 y] w fun e w' => e = .returned (.bool (hasB W H l x y)) ∧ ∃ n, w' = w.drewN n := by
  cases hi : inB W H x y
  · have := has25_no w g W H B l h x y hi
    simpa [hasB, hi] using this
  · obtain ⟨a, b, rfl, rfl, ha, hb⟩ := of_inB hi
    have := has25_yes w g W H B l h a b ha hb
    have e : ((b : Int) * (W : Int) + (a : Int)).toNat = b * W + a := by
      have : ((b : Int) * (W : Int) + (a : Int)) = ((b * W + a : Nat) : Int) := by push_cast; rfl
      rw [this]; exact Int.toNat_natCast _
    unfold hasB
    rw [hi, e, Bool.true_and]
    exact this
end Go.Proofs.Ytnepchdpgbdogaa.Ct
