/- MeasureDecibels: the walk. -/
import Derived.Test.YtfaciljklligeaaDl
import Derived.Test.YtfaciljklligeaaAw
namespace Go.Proofs.Ytfaciljklligeaa.Ct
open Go.ChangeShapes Go.WideShapes Go.RowKit Mm
def PINF : Nat := 0x7FF0000000000000
def NINF : Nat := 0xFFF0000000000000
abbrev oF (a b : Nat) : Option Ordering := FloatKind.f64.format.order a b
theorem inf_no {x : Nat} (h : oF x 9218868437227405311 = some .lt ∨ oF x 9218868437227405311 = some .eq) (w : World) : Calls Try.prog 27 #[.float .f64 x, .int .i64 1] w fun e w' => e = .returned (.bool false) ∧ w = w' := by
  unfold oF at h
  rcases h with h | h
  all_goals
    go_enter Try.func27, Try.ntmps27
    go_wp2_with fail
    go_ret
    exact ⟨rfl, rfl⟩
theorem inf_yes (w : World) : Calls Try.prog 27 #[.float .f64 PINF, .int .i64 1] w fun e w' => e = .returned (.bool true) ∧ w = w' := by
  have h : FloatKind.f64.format.order PINF 9218868437227405311 = some .gt := by decide +kernel
  generalize PINF = x at *
  go_enter Try.func27, Try.ntmps27
  go_wp2_with fail
  go_ret
  exact ⟨rfl, rfl⟩
theorem inf_neg (w : World) : Calls Try.prog 27 #[.float .f64 NINF, .int .i64 (-1)] w fun e w' => e = .returned (.bool true) ∧ w = w' := by
  have hn := fun (w : World) => show Sem.run Try.prog (Op.unary UnOp.neg (Value.float FloatKind.f64 NINF)) w = .ok (.float .f64 PINF) w by kernel_rfl
  have h : FloatKind.f64.format.order PINF 9218868437227405311 = some .gt := by decide +kernel
  generalize PINF = x at *
  generalize NINF = y at *
  go_enter Try.func27, Try.ntmps27
  go_wp2_with fail
  go_ret
  exact ⟨rfl, rfl⟩
theorem decP_zero : decP Extern.MathAsm.negInf = PINF := by kernel_rfl
theorem decP_inf : decP PINF = NINF := by kernel_rfl
theorem fo_nan_l {op : BinOp} (ho : fop op) {x : Nat} (h : NaN x) (y : Nat) : NaN (fo op x y) := fv_nan (nan_left ho h y) 0
theorem fo_nan_r {op : BinOp} (ho : fop op) {y : Nat} (h : NaN y) (x : Nat) : NaN (fo op x y) := fv_nan (nan_right ho h x) 0
theorem decP_nan {r : Nat} (h : NaN r) : NaN (decP r) := fo_nan_r fS (fo_nan_r fM (fo_nan_l fM h _) _) _
theorem nan_of {a b : Nat} (h : FEq a b) (k : NaN b) : NaN a := h.elim (fun e => e ▸ k) (fun e => e.1)
theorem nan_nan : NaN Extern.MathAsm.nan := (nan_iff _).2 (by decide +kernel)
theorem inf_self : ord PINF PINF = some .eq ∧ ord NINF NINF = some .eq := by decide +kernel
section
variable (w : World) {x r : Nat} (hrun : ∀ w, (Extern.MathLog.archLog #[.float .f64 x]).run Try.prog w = .ok (.float .f64 r) w)
include hrun
set_option maxHeartbeats 800000 in
theorem dec5_nan (hx : oF x x = none) (hr : NaN r) : Calls Try.prog 5 #[.float .f64 x] w (AwPost w) := by
  have h26 := Lib.hid (fun w => dec26 hrun w)
  unfold oF at hx
  clear hrun
  go_enter Try.func5, Try.ntmps5
  go_wp2_with fail
  refine (awake12 _).mono ?_
  rintro e w1 ⟨rfl, O1⟩
  replace O1 := Lib.hid O1
  go_wp2_with fail
  refine (h26.out _).mono ?_
  rintro e w2 ⟨a, d, ha, rfl, rfl⟩
  have o3 := order_nn (nan_of ha (decP_nan hr))
  replace O1 := Lib.hid (O1.out.drewN d)
  clear ha h26 hr
  go_wp2_with fail
  go_ret
  exact ⟨rfl, O1.out⟩
set_option maxHeartbeats 800000 in
theorem dec5_neg (hx : oF x x = some .eq) (hx0 : oF x 0 = some .lt) (hr : NaN r) : Calls Try.prog 5 #[.float .f64 x] w (AwPost w) := by
  have h26 := Lib.hid (fun w => dec26 hrun w)
  unfold oF at hx hx0
  clear hrun
  go_enter Try.func5, Try.ntmps5
  go_wp2_with fail
  refine (awake12 _).mono ?_
  rintro e w1 ⟨rfl, O1⟩
  replace O1 := Lib.hid O1
  go_wp2_with fail
  refine (h26.out _).mono ?_
  rintro e w2 ⟨a, d, ha, rfl, rfl⟩
  have o3 := order_nn (nan_of ha (decP_nan hr))
  replace O1 := Lib.hid (O1.out.drewN d)
  clear ha h26 hr
  go_wp2_with fail
  go_ret
  exact ⟨rfl, O1.out⟩
set_option maxHeartbeats 800000 in
theorem dec5_zero (hx : oF x x = some .eq) (hx0 : oF x 0 = some .eq) (hr : r = Extern.MathAsm.negInf) : Calls Try.prog 5 #[.float .f64 x] w (AwPost w) := by
  have h26 := Lib.hid (fun w => dec26 hrun w)
  unfold oF at hx hx0
  clear hrun
  go_enter Try.func5, Try.ntmps5
  go_wp2_with fail
  refine (awake12 _).mono ?_
  rintro e w1 ⟨rfl, O1⟩
  replace O1 := Lib.hid O1
  go_wp2_with fail
  refine (h26.out _).mono ?_
  rintro e w2 ⟨a, d, ha, rfl, rfl⟩
  rw [hr, decP_zero] at ha
  obtain rfl : a = PINF := nz ha inf_self.1
  have hi := inf_yes
  replace O1 := Lib.hid (O1.out.drewN d)
  generalize PINF = y at *
  clear ha h26 hr
  go_wp2_with fail
  refine (hi _).mono ?_
  rintro e w2 ⟨rfl, rfl⟩
  go_wp2_with fail
  go_ret
  exact ⟨rfl, O1.out⟩
end
set_option maxHeartbeats 800000 in
theorem dec5_inf (w : World) (hrun : ∀ w, (Extern.MathLog.archLog #[.float .f64 PINF]).run Try.prog w = .ok (.float .f64 PINF) w) : Calls Try.prog 5 #[.float .f64 PINF] w (AwPost w) := by
  have h26 := Lib.hid (fun w => dec26 hrun w)
  have hx : FloatKind.f64.format.order PINF PINF = some .eq := inf_self.1
  have hx0 : FloatKind.f64.format.order PINF 0 = some .gt := by decide +kernel
  have hi := inf_yes
  have hj := inf_neg
  have hn := inf_self
  rw [decP_inf] at h26
  generalize PINF = x at *
  generalize NINF = y at *
  clear hrun
  go_enter Try.func5, Try.ntmps5
  go_wp2_with fail
  refine (awake12 _).mono ?_
  rintro e w1 ⟨rfl, O1⟩
  replace O1 := Lib.hid O1
  go_wp2_with fail
  refine (h26.out _).mono ?_
  rintro e w2 ⟨a, d, ha, rfl, rfl⟩
  obtain rfl : a = y := nz ha hn.2
  replace O1 := Lib.hid (O1.out.drewN d)
  clear ha h26 hn
  go_wp2_with fail
  refine (hi _).mono ?_
  rintro e w2 ⟨rfl, rfl⟩
  go_wp2_with fail
  refine (hj _).mono ?_
  rintro e w2 ⟨rfl, rfl⟩
  go_wp2_with fail
  go_ret
  exact ⟨rfl, O1.out⟩
section
variable (w : World) {x r : Nat} (hrun : ∀ w, (Extern.MathLog.archLog #[.float .f64 x]).run Try.prog w = .ok (.float .f64 r) w)
include hrun
set_option maxHeartbeats 1600000 in
theorem dec5_out (hx : oF x x = some .eq) (hx0 : oF x 0 = some .gt) (hm : oF x 9218868437227405311 = some .lt ∨ oF x 9218868437227405311 = some .eq)
    (ho : oF x 118622047889322841 = some .lt ∨ ((oF x 118622047889322841 = some .eq ∨ oF x 118622047889322841 = some .gt) ∧ oF x 9094988921128908188 = some .gt)) : Calls Try.prog 5 #[.float .f64 x] w (AwPost w) := by
  have h26 := Lib.hid (fun w => dec26 hrun w)
  have hi := inf_no hm
  unfold oF at hx hx0 ho
  clear hrun hm
  rcases ho with ho | ⟨ho | ho, ho2⟩
  all_goals
    go_enter Try.func5, Try.ntmps5
    go_wp2_with fail
    refine (awake12 _).mono ?_
    rintro e w1 ⟨rfl, O1⟩
    replace O1 := Lib.hid O1
    go_wp2_with fail
    refine (h26.out _).mono ?_
    rintro e w2 ⟨a, d, ha, rfl, rfl⟩
    replace O1 := Lib.hid (O1.out.drewN d)
    clear ha h26
    go_wp2_with fail
    refine (hi _).mono ?_
    rintro e w2 ⟨rfl, rfl⟩
    go_wp2_with fail
    go_ret
    exact ⟨rfl, O1.out⟩
set_option maxHeartbeats 1600000 in
theorem dec5_num (hx : oF x x = some .eq) (hx0 : oF x 0 = some .gt) (hm : oF x 9218868437227405311 = some .lt ∨ oF x 9218868437227405311 = some .eq)
    (ho : oF x 118622047889322841 = some .eq ∨ oF x 118622047889322841 = some .gt) (ho2 : oF x 9094988921128908188 = some .eq ∨ oF x 9094988921128908188 = some .lt)
    (fr : Fp.fin r) (hr : -800 ≤ Fp.val r ∧ Fp.val r ≤ 800) : Calls Try.prog 5 #[.float .f64 x] w (AwPost w) := by
  have h26 := Lib.hid (fun w => dec26 hrun w)
  have h28 := Lib.hid (fun w => dec28 hrun w)
  have hi := inf_no hm
  have rs := fun (x y : Nat) (w : World) => run_fop (P := Try.prog) w .sub 25 x y fS
  obtain ⟨fd1, fd2, o, eo, o1, o2⟩ := dec_law fr hr
  have n1 := order_refl (fin_not_nan fd1)
  have n2 := order_refl (fin_not_nan fd2)
  have o1' : FloatKind.f64.format.order o 4472454890662775134 = some .lt := o1
  have o2' : FloatKind.f64.format.order o 13695826927517550942 = some .gt := o2
  unfold oF at hx hx0 ho ho2
  clear hrun hm fd1 fd2 o1 o2 fr hr
  generalize decP r = D at *
  generalize rdecP r = D2 at *
  have e1 := fun t => fo_some eo t
  have e2 := fd_some eo
  replace n1 := Lib.hid n1
  replace n2 := Lib.hid n2
  clear eo
  rcases ho with ho | ho <;> rcases ho2 with ho2 | ho2
  all_goals
    go_enter Try.func5, Try.ntmps5
    go_wp2_with fail
    refine (awake12 _).mono ?_
    rintro e w1 ⟨rfl, O1⟩
    replace O1 := Lib.hid O1
    go_wp2_with fail
    refine (h26.out _).mono ?_
    rintro e w2 ⟨a, d, ha, rfl, rfl⟩
    obtain rfl : a = D := nz ha n1.out
    clear ha h26
    go_wp2_with fail
    refine (hi _).mono ?_
    rintro e w2 ⟨rfl, rfl⟩
    go_wp2_with fail
    refine (h28.out _).mono ?_
    rintro e w2 ⟨a2, d2, ha, rfl, rfl⟩
    obtain rfl : a2 = D2 := nz ha n2.out
    clear ha h28
    go_wp2_with fail
    go_ret
    exact ⟨rfl, O1.out.drewN _⟩
end
theorem kz_pos {x : Nat} (h : x < 2 ^ 63) : kz x = x := by unfold kz; rw [if_neg (by omega)]
theorem not_nan_lit {x : Nat} (h : x % 2 ^ 63 ≤ Fp.infR) : ¬ NaN x := fun k => by rw [nan_iff] at k; omega
theorem dec5 (w : World) {x : Nat} (hx : x < 2 ^ 64) : Calls Try.prog 5 #[.float .f64 x] w (AwPost w) := by
  obtain ⟨r, L, hrun⟩ := log_out Try.prog x
  have hrun := hrun
  have hI : Fp.infR = 0x7FF0000000000000 := rfl
  by_cases hn : NaN x
  · have hn' := (nan_iff x).1 hn
    refine dec5_nan w hrun (order_nan hn x).1 ?_
    by_cases h1 : 2 ^ 63 ≤ x
    · rw [L.neg (by omega) h1]; exact nan_nan
    · rw [L.big (by omega) (by omega)]; exact hn
  · have hs : oF x x = some .eq := order_refl hn
    have hn' : x % 2 ^ 63 ≤ Fp.infR := by rw [nan_iff] at hn; omega
    have k0 := ord_key hx (show 0 < 2 ^ 64 by decide) hn (not_nan_lit (by decide))
    have z0 : kz 0 = 0 := rfl
    by_cases h0 : x % 2 ^ 63 = 0
    · refine dec5_zero w hrun hs (k0.2.1.2 ?_) (L.zero h0)
      unfold kz
      split <;> omega
    · by_cases h1 : 2 ^ 63 ≤ x
      · refine dec5_neg w hrun hs (k0.1.2 ?_) ?_
        · rw [z0]; unfold kz; rw [if_pos h1]; omega
        · rw [L.neg h0 h1]; exact nan_nan
      · have hp := kz_pos (show x < 2 ^ 63 by omega)
        have g0 : oF x 0 = some .gt := k0.2.2.2 (by rw [z0, hp]; omega)
        by_cases h2 : x = PINF
        · subst h2
          have := L.big (by decide) (by decide)
          subst this
          exact dec5_inf w hrun
        · have hlt : x < 0x7FF0000000000000 := by unfold PINF at h2; omega
          have kM := ord_key hx (show 9218868437227405311 < 2 ^ 64 by decide) hn (not_nan_lit (by decide))
          have kA := ord_key hx (show 118622047889322841 < 2 ^ 64 by decide) hn (not_nan_lit (by decide))
          have kB := ord_key hx (show 9094988921128908188 < 2 ^ 64 by decide) hn (not_nan_lit (by decide))
          rw [hp, kz_pos (by decide)] at kM kA kB
          have hm : oF x 9218868437227405311 = some .lt ∨ oF x 9218868437227405311 = some .eq := by
            by_cases e : x = 9218868437227405311
            · exact .inr (kM.2.1.2 (by omega))
            · exact .inl (kM.1.2 (by omega))
          obtain ⟨fr, hb⟩ := log_b L (by omega) hlt
          by_cases a1 : x < 118622047889322841
          · exact dec5_out w hrun hs g0 hm (.inl (kA.1.2 (by omega)))
          · have hA : oF x 118622047889322841 = some .eq ∨ oF x 118622047889322841 = some .gt := by
              by_cases e : x = 118622047889322841
              · exact .inl (kA.2.1.2 (by omega))
              · exact .inr (kA.2.2.2 (by omega))
            by_cases b1 : 9094988921128908188 < x
            · exact dec5_out w hrun hs g0 hm (.inr ⟨hA, kB.2.2.2 (by omega)⟩)
            · refine dec5_num w hrun hs g0 hm hA ?_ fr hb
              by_cases e : x = 9094988921128908188
              · exact .inl (kB.2.1.2 (by omega))
              · exact .inr (kB.1.2 (by omega))
end Go.Proofs.Ytfaciljklligeaa.Ct
