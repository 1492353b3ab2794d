/- MeasureOrdered: the walk. -/
import Derived.Test.YtfaciljklligeaaOp2
namespace Go.Proofs.Ytfaciljklligeaa.Ct
open Go.ChangeShapes Go.WideShapes Go.RowKit Mm
/-- what the loop finds at a place: x, y (the second order's), p (the one ahead) -/
def Found (x y p : Nat) : Prop := (NaN x ∧ NaN y ∧ oG x p = none) ∨ (¬ NaN x ∧ ¬ NaN p ∧ y = x ∧ (oG x p = some .gt ∨ oG x p = some .eq))
set_option maxHeartbeats 6400000 in
set_option maxRecDepth 100000 in
theorem ordered9 (w : World) (A : Option Addr) (c : Nat) (l : List Nat) (hr : Rds w 1 A l.length (flC l)) (hl : l.length ≤ 17592186043904) (hb : ∀ x ∈ l, x < 2 ^ 64) :
    Calls Try.prog 9 #[.slice A l.length c] w (AwPost w) := by
  have HR := Lib.hid hr
  have HB := Lib.hid hb
  have r33 := bits33
  clear hr hb
  go_enter Try.func9, Try.ntmps9
  go_wp2_with fail
  refine (awake12 _).mono ?_
  rintro e w1 ⟨rfl, O1⟩
  replace O1 := Lib.hid O1
  go_wp2_with fail
  refine (order30a w1 A c l (HR.out.no O1.out) hl HB.out).mono ?_
  rintro e w2 ⟨va, ms, rfl, pa, sa, hown, o⟩
  obtain ⟨Aa, ca, rfl⟩ := own_slice hown
  have hml : Hid (ms.length = l.length) := pa.length_eq
  have HA := Lib.hid (Rds.of_own hown)
  replace O1 := Lib.hid (O1.out.trans o)
  replace pa := Lib.hid pa
  replace sa := Lib.hid sa
  have HBm : Hid (∀ x ∈ ms, x < 2 ^ 64) := fun x hx => HB.out x (pa.out.mem_iff.1 hx)
  have h30 := Lib.hid (fun w k => order30a w Aa ca ms k)
  rw [hml.out] at h30
  clear hown o
  go_wp2_with fail
  refine (h30.out w2 HA.out (by omega) HBm.out).mono ?_
  rintro e w3 ⟨vb, m2, rfl, pb, sb, hown, o⟩
  rw [hml.out] at hown
  obtain ⟨Ab, cb, rfl⟩ := own_slice hown
  have HB2 := Lib.hid (Rds.of_own hown)
  replace HA := Lib.hid (HA.out.no o)
  replace O1 := Lib.hid (O1.out.trans o)
  have hm2 : Hid (m2.length = l.length) := by have := pb.length_eq; have := hml.out; unfold Hid; omega
  replace pb := Lib.hid pb
  replace sb := Lib.hid sb
  have HL := Lib.hid (HR.out.no O1.out)
  clear hown o h30 HR
  go_wp2_with fail
  go_loopw [6, 7] (fun nv iv wr => ∃ (i : Nat), i ≤ l.length ∧ nv = .int .i64 (cnt nanB ms i) ∧ iv = .int .i64 i ∧ Hid (Only No w3 wr)) (fun _ iv _ => l.length - (intOf iv).toNat)
  case atStart => exact ⟨0, by omega, rfl, rfl, Only.refl _ _⟩
  case round =>
    obtain ⟨i, hi, rfl, rfl, hO⟩ := hrel
    by_cases hlt : i < l.length
    · obtain ⟨ad, rfl, q1⟩ := (HA.out.no hO.out).at_ (i := i) (by omega) (flC_getD (by rw [hml.out]; exact hlt))
      obtain ⟨ad2, rfl, q2⟩ := (HB2.out.no hO.out).at_ (i := i) (by omega) (flC_getD (by rw [hm2.out]; exact hlt))
      obtain ⟨_, e', q3⟩ := (HA.out.no hO.out).at_ (i := i - 1) (by omega) (flC_getD (by rw [hml.out]; omega))
      cases e'
      have hcs := Lib.hid (cnt_succ nanB (l := ms) (i := i) (by rw [hml.out]; exact hlt))
      have hcb := cnt_bound nanB ms i
      obtain ⟨hfe, hxb⟩ := ord_feq sa.out sb.out pa.out (pb.out.trans pa.out) HB.out hlt
      have hf : Hid (0 < i → Found (ms.getD i 0) (m2.getD i 0) (ms.getD (i - 1) 0)) := by
        intro h0
        rcases step_ok sa.out HBm.out h0 (by rw [hml.out]; exact hlt) with ⟨h1, h2⟩ | ⟨h1, h2, h3⟩
        · exact .inl ⟨h1, nan_ofe hfe.symm h1, h2⟩
        · refine .inr ⟨h1, h2, ?_, h3⟩
          rcases hfe with e | e
          · exact e.symm
          · exact absurd e.1 h1
      replace hfe := Lib.hid hfe
      generalize ms.getD i 0 = x at *
      generalize m2.getD i 0 = y at *
      generalize ms.getD (i - 1) 0 = p at *
      generalize hN : cnt nanB ms i = N at *
      have g2 : (i : Int) < (l.length : Int) := by omega
      have g3 : (0 : Int) ≤ (i : Int) := by omega
      clear hxb
      by_cases hn : NaN x
      · have o1 := order_nn hn
        have o2 := order_nn (nan_ofe hfe.out.symm hn)
        have hx1 : Hid (nanB x = true) := nanB_true.2 hn
        have hw1 : IntKind.i64.wrap (N + 1) = N + 1 := IntWalk.i64_in _ (by omega)
        by_cases h0 : 0 < i
        · have o3 : FloatKind.f64.format.order x p = none := (order_nan hn p).1
          have k1 : decide ((0 : Int) < (i : Int)) = true := decide_eq_true (by omega)
          have k2 : IntKind.i64.wrap ((i : Int) - 1) = (i : Int) - 1 := IntWalk.i64_in _ (by omega)
          have k3 : ((i : Int) - 1).toNat = i - 1 := by omega
          have k4 : (0 : Int) ≤ (i : Int) - 1 := by omega
          have k5 : (i : Int) - 1 < (l.length : Int) := by omega
          have k6 : (i : Int) > 0 := by omega
          replace hn := Lib.hid hn
          by_cases hxy : x = y
          · subst hxy
            go_wp2_with fail
            go_quiet (fail)
            go_wp2_with fail
            go_quiet (fail)
            go_wp2_with fail
            go_quiet (fail)
            go_wp2_with fail
            go_roundw
            case rel => exact ⟨i + 1, by omega, by rw [hcs.out, if_pos hx1.out], by go_num, Lib.hid (hO.out.drewN _)⟩
            case measure => simp [intOf]; omega
          · have hxy' : ¬ ((x : Int) = (y : Int)) := by omega
            go_wp2_with fail
            go_quiet (fail)
            go_wp2_with fail
            go_quiet (fail)
            go_wp2_with fail
            go_quiet (fail)
            go_wp2_with fail
            go_roundw
            case rel => exact ⟨i + 1, by omega, by rw [hcs.out, if_pos hx1.out], by go_num, Lib.hid (hO.out.drewN _)⟩
            case measure => simp [intOf]; omega
        · have k1 : decide ((0 : Int) < (i : Int)) = false := decide_eq_false (by omega)
          replace hn := Lib.hid hn
          by_cases hxy : x = y
          · subst hxy
            go_wp2_with fail
            go_quiet (fail)
            go_wp2_with fail
            go_quiet (fail)
            go_wp2_with fail
            go_quiet (fail)
            go_wp2_with fail
            go_roundw
            case rel => exact ⟨i + 1, by omega, by rw [hcs.out, if_pos hx1.out], by go_num, Lib.hid (hO.out.drewN _)⟩
            case measure => simp [intOf]; omega
          · have hxy' : ¬ ((x : Int) = (y : Int)) := by omega
            go_wp2_with fail
            go_quiet (fail)
            go_wp2_with fail
            go_quiet (fail)
            go_wp2_with fail
            go_quiet (fail)
            go_wp2_with fail
            go_roundw
            case rel => exact ⟨i + 1, by omega, by rw [hcs.out, if_pos hx1.out], by go_num, Lib.hid (hO.out.drewN _)⟩
            case measure => simp [intOf]; omega
      · obtain rfl : y = x := by
          rcases hfe.out with e | e
          · exact e.symm
          · exact absurd e.1 hn
        have o1 := order_xx hn
        have hx1 : Hid (¬ nanB y = true) := fun k => hn (nanB_true.1 k)
        by_cases h0 : 0 < i
        · have hf' := hf.out h0
          have k1 : decide ((0 : Int) < (i : Int)) = true := decide_eq_true (by omega)
          have k2 : IntKind.i64.wrap ((i : Int) - 1) = (i : Int) - 1 := IntWalk.i64_in _ (by omega)
          have k3 : ((i : Int) - 1).toNat = i - 1 := by omega
          have k4 : (0 : Int) ≤ (i : Int) - 1 := by omega
          have k5 : (i : Int) - 1 < (l.length : Int) := by omega
          have k6 : (i : Int) > 0 := by omega
          rcases hf' with ⟨h1, _⟩ | ⟨_, h2, _, o3 | o3⟩
          · exact absurd h1 hn
          · have o4 := order_xx h2
            unfold oG at o3
            replace hn := Lib.hid hn
            replace h2 := Lib.hid h2
            go_wp2_with fail
            go_quiet (fail)
            go_wp2_with fail
            go_quiet (fail)
            go_wp2_with fail
            go_quiet (fail)
            go_wp2_with fail
            go_roundw
            case rel => exact ⟨i + 1, by omega, by rw [hcs.out, if_neg hx1.out, Int.add_zero], by go_num, Lib.hid (hO.out.drewN _)⟩
            case measure => simp [intOf]; omega
          · have o4 := order_xx h2
            unfold oG at o3
            replace hn := Lib.hid hn
            replace h2 := Lib.hid h2
            go_wp2_with fail
            go_quiet (fail)
            go_wp2_with fail
            go_quiet (fail)
            go_wp2_with fail
            go_quiet (fail)
            go_wp2_with fail
            go_roundw
            case rel => exact ⟨i + 1, by omega, by rw [hcs.out, if_neg hx1.out, Int.add_zero], by go_num, Lib.hid (hO.out.drewN _)⟩
            case measure => simp [intOf]; omega
        · have k1 : decide ((0 : Int) < (i : Int)) = false := decide_eq_false (by omega)
          replace hn := Lib.hid hn
          go_wp2_with fail
          go_quiet (fail)
          go_wp2_with fail
          go_quiet (fail)
          go_wp2_with fail
          go_quiet (fail)
          go_wp2_with fail
          go_roundw
          case rel => exact ⟨i + 1, by omega, by rw [hcs.out, if_neg hx1.out, Int.add_zero], by go_num, Lib.hid (hO.out.drewN _)⟩
          case measure => simp [intOf]; omega
    · obtain rfl : i = l.length := by omega
      go_wp2_with fail
      go_loopw [6, 8] (fun nv iv wr => ∃ (i : Nat), i ≤ l.length ∧ nv = .int .i64 (cnt nanB ms l.length - cnt nanB l i) ∧ iv = .int .i64 i ∧ Hid (Only No w3 wr)) (fun _ iv _ => l.length - (intOf iv).toNat)
      case atStart => exact ⟨0, by omega, by rw [cnt_zero, Int.sub_zero], rfl, hO⟩
      case round =>
        clear hO
        obtain ⟨i, hi, rfl, rfl, hO⟩ := hrel
        by_cases hlt : i < l.length
        · have g2 : (i : Int) < (l.length : Int) := by omega
          have g3 : (0 : Int) ≤ (i : Int) := by omega
          obtain ⟨ad0, rfl, q0⟩ := (HL.out.no hO.out).at_ (i := i) (by omega) (flC_getD hlt)
          have HQ := Lib.hid (fun w' o => ((HL.out.no (w' := w') o).at_ (i := i) (by omega) (flC_getD hlt)))
          have hcs := Lib.hid (cnt_succ nanB (l := l) (i := i) hlt)
          have hcb := cnt_bound nanB l i
          have hcb2 := cnt_bound nanB ms l.length
          have hpm := Lib.hid (cnt_perm (fun z => decide (z = l.getD i 0)) pa.out rfl)
          generalize l.getD i 0 = x at *
          generalize hN : cnt nanB l i = N at *
          generalize hN2 : cnt nanB ms l.length = N2 at *
          go_wp2_with fail
          go_loopw [9, 10] (fun nv kv wr => ∃ (k : Nat), k ≤ l.length ∧ nv = .int .i64 (cnt (fun z => decide (z = x)) l k - cnt (fun z => decide (z = x)) ms k) ∧ kv = .int .i64 k ∧ Hid (Only No w3 wr)) (fun _ kv _ => l.length - (intOf kv).toNat)
          case atStart => exact ⟨0, by omega, rfl, rfl, hO⟩
          case round =>
            clear q0 hO
            obtain ⟨k, hk, rfl, rfl, hO⟩ := hrel
            obtain ⟨_, e', q0⟩ := HQ.out _ hO.out
            cases e'
            by_cases hkl : k < l.length
            · obtain ⟨_, e', q1⟩ := (HL.out.no hO.out).at_ (i := k) (by omega) (flC_getD hkl)
              cases e'
              obtain ⟨ad, rfl, q2⟩ := (HA.out.no hO.out).at_ (i := k) (by omega) (flC_getD (by rw [hml.out]; exact hkl))
              have c1 := Lib.hid (cnt_succ (fun z => decide (z = x)) (l := l) (i := k) hkl)
              have c2 := Lib.hid (cnt_succ (fun z => decide (z = x)) (l := ms) (i := k) (by rw [hml.out]; exact hkl))
              have b1 := cnt_bound (fun z => decide (z = x)) l k
              have b2 := cnt_bound (fun z => decide (z = x)) ms k
              generalize cnt (fun z => decide (z = x)) l k = C1 at *
              generalize cnt (fun z => decide (z = x)) ms k = C2 at *
              generalize l.getD k 0 = y at *
              generalize ms.getD k 0 = z at *
              have g4 : (k : Int) < (l.length : Int) := by omega
              have g5 : (0 : Int) ≤ (k : Int) := by omega
              have v1 : IntKind.i64.wrap (C1 - C2 + 1) = C1 - C2 + 1 := IntWalk.i64_in _ (by omega)
              have v2 : IntKind.i64.wrap (C1 - C2 + 1 - 1) = C1 - C2 + 1 - 1 := IntWalk.i64_in _ (by omega)
              have v3 : IntKind.i64.wrap (C1 - C2 - 1) = C1 - C2 - 1 := IntWalk.i64_in _ (by omega)
              have v4 : IntKind.i64.wrap (C1 - C2) = C1 - C2 := IntWalk.i64_in _ (by omega)
              by_cases hyx : y = x
              · have y1 : ((y : Int) = (x : Int)) := by omega
                by_cases hzx : z = x
                · have z1 : ((z : Int) = (x : Int)) := by omega
                  go_wp2_with fail
                  go_quiet (fail)
                  go_wp2_with fail
                  go_quiet (fail)
                  go_wp2_with fail
                  go_roundw
                  case rel => exact ⟨k + 1, by omega, by rw [c1.out, c2.out]; congr 1; simp [hyx, hzx]; try omega, by go_num, Lib.hid (hO.out.drewN _)⟩
                  case measure => simp [intOf]; omega
                · have z1 : ¬ ((z : Int) = (x : Int)) := by omega
                  go_wp2_with fail
                  go_quiet (fail)
                  go_wp2_with fail
                  go_quiet (fail)
                  go_wp2_with fail
                  go_roundw
                  case rel => exact ⟨k + 1, by omega, by rw [c1.out, c2.out]; congr 1; simp [hyx, hzx]; try omega, by go_num, Lib.hid (hO.out.drewN _)⟩
                  case measure => simp [intOf]; omega
              · have y1 : ¬ ((y : Int) = (x : Int)) := by omega
                by_cases hzx : z = x
                · have z1 : ((z : Int) = (x : Int)) := by omega
                  go_wp2_with fail
                  go_quiet (fail)
                  go_wp2_with fail
                  go_quiet (fail)
                  go_wp2_with fail
                  go_roundw
                  case rel => exact ⟨k + 1, by omega, by rw [c1.out, c2.out]; congr 1; simp [hyx, hzx]; try omega, by go_num, Lib.hid (hO.out.drewN _)⟩
                  case measure => simp [intOf]; omega
                · have z1 : ¬ ((z : Int) = (x : Int)) := by omega
                  go_wp2_with fail
                  go_quiet (fail)
                  go_wp2_with fail
                  go_quiet (fail)
                  go_wp2_with fail
                  go_roundw
                  case rel => exact ⟨k + 1, by omega, by rw [c1.out, c2.out]; congr 1; simp [hyx, hzx]; try omega, by go_num, Lib.hid (hO.out.drewN _)⟩
                  case measure => simp [intOf]; omega
            · obtain rfl : k = l.length := by omega
              have hz : cnt (fun z => decide (z = x)) l l.length - cnt (fun z => decide (z = x)) ms l.length = 0 := by rw [hpm.out]; omega
              rw [hz]
              have v1 : IntKind.i64.wrap (N2 - N - 1) = N2 - N - 1 := IntWalk.i64_in _ (by omega)
              by_cases hn : NaN x
              · have o1 := order_nn hn
                have hx1 : Hid (nanB x = true) := nanB_true.2 hn
                replace hn := Lib.hid hn
                clear hz
                go_wp2_with fail
                go_quiet (fail)
                go_wp2_with fail
                go_quiet (fail)
                go_wp2_with fail
                go_roundw
                case rel => exact ⟨i + 1, by omega, by rw [hcs.out, if_pos hx1.out]; congr 1; omega, by go_num, Lib.hid (hO.out.drewN _)⟩
                case measure => simp [intOf]; omega
              · have o1 := order_xx hn
                have hx1 : Hid (¬ nanB x = true) := fun k => hn (nanB_true.1 k)
                replace hn := Lib.hid hn
                clear hz
                go_wp2_with fail
                go_quiet (fail)
                go_wp2_with fail
                go_quiet (fail)
                go_wp2_with fail
                go_roundw
                case rel => exact ⟨i + 1, by omega, by rw [hcs.out, if_neg hx1.out, Int.add_zero], by go_num, Lib.hid (hO.out.drewN _)⟩
                case measure => simp [intOf]; omega
        · obtain rfl : i = l.length := by omega
          have hz : cnt nanB ms l.length - cnt nanB l l.length = 0 := by
            have := cnt_perm nanB pa.out rfl
            omega
          rw [hz]
          go_wp2_with fail
          go_ret
          exact ⟨rfl, O1.out.trans hO.out⟩
end Go.Proofs.Ytfaciljklligeaa.Ct
