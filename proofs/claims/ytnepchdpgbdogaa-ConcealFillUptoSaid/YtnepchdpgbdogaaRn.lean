/- The reference: Nearest, mean, side, Fits. -/
import Derived.Test.YtnepchdpgbdogaaFl
import Derived.Deep.DeepCutAuto
namespace Go.Proofs.Ytnepchdpgbdogaa.Ct
open Go.ChangeShapes Go.WideShapes Go.RowKit Mm
theorem nearI_pos {a b : Int} (ha : 0 ≤ a) (hb : 0 < b) : nearI a b = if b ≤ 2 * (a - a / b * b) then a / b + 1 else a / b := by
  have h1 := Int.mul_ediv_add_emod a b
  have h2 := Int.emod_nonneg a (show b ≠ 0 by omega)
  have h3 := Int.emod_lt_of_pos a hb
  rw [Int.mul_comm] at h1
  obtain ⟨q, hq⟩ : ∃ q, q = a / b := ⟨_, rfl⟩
  rw [← hq] at h1 ⊢
  obtain ⟨m, hm⟩ : ∃ m, m = q * b := ⟨_, rfl⟩
  rw [← hm] at h1 ⊢
  have lo : ∀ k : Int, k * (2 * b) ≤ 2 * a + b → k ≤ (2 * a + b) / (2 * b) := fun k h => (Int.le_ediv_iff_mul_le (show 0 < 2 * b by omega)).2 h
  have hi : ∀ k : Int, 2 * a + b < k * (2 * b) → (2 * a + b) / (2 * b) < k := fun k h => (Int.ediv_lt_iff_lt_mul (show 0 < 2 * b by omega)).2 h
  have k0 : q * (2 * b) = 2 * m := by rw [hm, Int.mul_left_comm]
  have k1 : (q + 1) * (2 * b) = 2 * m + 2 * b := by rw [Int.add_mul, k0]; omega
  have k2 : (q + 2) * (2 * b) = 2 * m + 2 * (2 * b) := by rw [Int.add_mul, k0]
  unfold nearI
  rw [if_neg (by omega)]
  split
  · have := lo (q + 1) (by omega)
    have := hi (q + 2) (by omega)
    omega
  · have := lo q (by omega)
    have := hi (q + 1) (by omega)
    omega
theorem near42_pos (w : World) (a b : Int) (ha : 0 ≤ a ∧ a ≤ 1152921504606846976) (hb : 0 < b ∧ b ≤ 1152921504606846976) :
    Calls Try.prog 42 #[.int .i64 a, .int .i64 b] w fun e w' => e = .returned (.int .i64 (nearI a b)) ∧ w' = w := by
  have h1 := Int.mul_ediv_add_emod a b
  have h2 := Int.emod_nonneg a (show b ≠ 0 by omega)
  have h3 := Int.emod_lt_of_pos a hb.1
  rw [nearI_pos ha.1 hb.1]
  rw [Int.mul_comm] at h1
  have hq0 : 0 ≤ a / b := Int.ediv_nonneg ha.1 (by omega)
  have hq1 : a / b ≤ a := Int.ediv_le_self _ ha.1
  have t1 : a.tdiv b = a / b := Int.tdiv_eq_ediv_of_nonneg ha.1
  obtain ⟨q, hq⟩ : ∃ q, q = a / b := ⟨_, rfl⟩
  rw [← hq] at h1 hq0 hq1 t1 ⊢
  obtain ⟨m, hm⟩ : ∃ m, m = q * b := ⟨_, rfl⟩
  rw [← hm] at h1 ⊢
  have e0 : IntKind.i64.wrap q = q := IntWalk.i64_in _ (by omega)
  have e1 : IntKind.i64.wrap (q * b) = m := by rw [← hm]; exact IntWalk.i64_in _ (by omega)
  have e2 : IntKind.i64.wrap (a - m) = a - m := IntWalk.i64_in _ (by omega)
  have e3 : IntKind.i64.wrap (2 * (a - m)) = 2 * (a - m) := IntWalk.i64_in _ (by omega)
  have hb0 : ¬ b = 0 := by omega
  have g0 : ¬ a < 0 := by omega
  replace hq := Lib.hid hq
  replace hm := Lib.hid hm
  by_cases h : b ≤ 2 * (a - m)
  · rw [if_pos h]
    go_enter Try.func42, Try.ntmps42
    go_wp2
    go_ret
    exact ⟨rfl, rfl⟩
  · rw [if_neg h]
    have h' : ¬ b ≤ 2 * (a - m) := h
    go_enter Try.func42, Try.ntmps42
    go_wp2
    go_ret
    exact ⟨rfl, rfl⟩
theorem near42 (w : World) (a b : Int) (ha : -1152921504606846976 ≤ a ∧ a ≤ 1152921504606846976) (hb : 0 < b ∧ b ≤ 1152921504606846976) :
    Calls Try.prog 42 #[.int .i64 a, .int .i64 b] w fun e w' => e = .returned (.int .i64 (nearI a b)) ∧ w' = w := by
  by_cases h : a < 0
  · have h1 : -nearI (-a) b = nearI a b := by
      unfold nearI
      rw [if_neg (by omega), if_pos h, show 2 * -a = -2 * a by omega]
    have h2 := nearI_bounds (a := a) (b := b) (lo := -1152921504606846976) (hi := 1152921504606846976) hb.1 (by omega) (by omega)
    have h3 := near42_pos w (-a) b ⟨by omega, by omega⟩ hb
    rw [← h1] at h2 ⊢
    generalize nearI (-a) b = r at *
    have e1 : IntKind.i64.wrap (-a) = -a := IntWalk.i64_in _ (by omega)
    have e2 : IntKind.i64.wrap (-r) = -r := IntWalk.i64_in _ (by omega)
    clear h1
    go_enter Try.func42, Try.ntmps42
    go_wp2_with (go_at_call 42; refine h3.mono ?_; rintro e w1 ⟨rfl, rfl⟩)
    go_ret
    exact ⟨rfl, rfl⟩
  · exact near42_pos w a b ⟨by omega, ha.2⟩ hb
set_option maxHeartbeats 1600000 in
theorem mean41 (w : World) (gw gh : Int) (A F : Option Addr) (n c fc : Nat) (l : List Bool) (bs : List (List Int)) (hl : l.length = n) (hbl : bs.length = n) (hA : Rds w 64 A n (bsC bs)) (hb : Bls bs) (hF : Rds w 1 F n (boC l)) (hn : n ≤ 67108864) :
    Calls Try.prog 41 #[gridI gw gh A n c, .slice F n fc] w fun e w' => e = .returned (.int .i64 (mnP l (dcs bs) n)) ∧ Only No w w' := by
  replace hA := Lib.hid hA
  replace hb := Lib.hid hb
  replace hF := Lib.hid hF
  unfold gridI
  go_enter Try.func41, Try.ntmps41
  go_wp2_with fail
  generalize hw1 : (w.alloc (Obj.cells #[.int .i64 gw, .int .i64 gh, .slice A n c] 24)) = w1
  have o1 : Hid (Only No w w1) := Lib.hid (by rw [← hw1]; exact (Only.refl No w).alloc _)
  have b1 : Blk w1 w.heap.size 24 #[.int .i64 gw, .int .i64 gh, .slice A n c] := by rw [← hw1]; exact Blk.new _ _ _
  have c2 := b1.cell 2
  simp only [List.getElem?_toArray, List.getElem?_cons_zero, List.getElem?_cons_succ] at c2
  replace b1 := Lib.hid b1
  have hA1 := Lib.hid (hA.out.no o1.out)
  have hF1 := Lib.hid (hF.out.no o1.out)
  clear hw1
  go_loopw [5, 6, 7] (fun v5 v6 v7 wr => wr = w1 ∧ ∃ i : Nat, v7 = .int .i64 i ∧ i ≤ n ∧ v5 = .int .i64 (mnS l (dcs bs) i) ∧ v6 = .int .i64 (mnN l i)) (fun _ _ v7 _ => n - (intOf v7).toNat)
  case atStart => exact ⟨rfl, 0, rfl, by omega, rfl, rfl⟩
  case round =>
    obtain ⟨rfl, i, rfl, hi, rfl, rfl⟩ := hrel
    obtain ⟨q1, q2, q3⟩ := mn_bounds l (dcs_bounds hb.out) i
    by_cases hlt : i < n
    · have hlt' : (i : Int) < n := by omega
      obtain ⟨adf, rfl, hcf⟩ := hF1.out.at_ (i := i) (u := .bool (l.getD i false)) (by omega) (by simp [boC, show i < l.length by omega])
      obtain ⟨adg, rfl, hcg⟩ := hA1.out.at_ (i := i * 64 + 0) (u := .int .i16 (dcs bs i)) (by omega) (by rw [bsC_get hb.out i 0 (by omega) (by omega)]; rfl)
      rw [Nat.add_zero] at hcg
      have hdb := dcs_bounds hb.out i
      have e9 : IntKind.i64.wrap (dcs bs i) = dcs bs i := IntWalk.i64_in _ (by omega)
      cases hf : l.getD i false
      · have s1 : mnS l (dcs bs) (i + 1) = mnS l (dcs bs) i + dcs bs i := by rw [mnS, hf]; rfl
        have s2 : mnN l (i + 1) = mnN l i + 1 := by rw [mnN, hf]; rfl
        rw [hf] at hcf
        replace s1 := Lib.hid s1
        replace s2 := Lib.hid s2
        go_wp2_with fail
        go_roundw
        case rel => exact ⟨by first | rfl | trivial, i + 1, by go_num, by omega, by rw [s1.out], by rw [s2.out]; push_cast; rfl⟩
        case measure => simp [intOf]; omega
      · have s1 : mnS l (dcs bs) (i + 1) = mnS l (dcs bs) i := by rw [mnS, hf]; rfl
        have s2 : mnN l (i + 1) = mnN l i := by rw [mnN, hf]; rfl
        rw [hf] at hcf
        replace s1 := Lib.hid s1
        replace s2 := Lib.hid s2
        go_wp2_with fail
        go_roundw
        case rel => exact ⟨by first | rfl | trivial, i + 1, by go_num, by omega, by rw [s1.out], by rw [s2.out]⟩
        case measure => simp [intOf]; omega
    · have hlt' : ¬ (i : Int) < n := by omega
      obtain rfl : n = i := by omega
      by_cases h0 : mnN l n = 0
      · have hm : Hid (mnP l (dcs bs) n = 0) := Lib.hid (by unfold mnP; rw [if_pos h0])
        have h0' : ((mnN l n : Nat) : Int) = 0 := by omega
        go_wp2_with fail
        go_ret
        exact ⟨by rw [hm.out]; rfl, o1.out⟩
      · have hm : Hid (mnP l (dcs bs) n = nearI (mnS l (dcs bs) n) (mnN l n)) := Lib.hid (by unfold mnP; rw [if_neg h0])
        have h4 := near42 wr (mnS l (dcs bs) n) (mnN l n) (by omega) (by omega)
        go_wp2_with (go_at_call 42; refine h4.mono ?_; clear h4; rintro e w2 ⟨rfl, rfl⟩)
        go_ret
        exact ⟨by rw [hm.out]; rfl, o1.out⟩
end Go.Proofs.Ytnepchdpgbdogaa.Ct
