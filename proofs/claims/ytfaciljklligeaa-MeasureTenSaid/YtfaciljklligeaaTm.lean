/- MeasureTen's plain law. -/
import Derived.Test.YtfaciljklligeaaLt
import Derived.Test.YtfaciljklligeaaDw
namespace Go.Proofs.Ytfaciljklligeaa.Ct
open Go.ChangeShapes Go.WideShapes Go.RowKit Mm
theorem dec_near {r : Nat} (fr : Fp.fin r) (hr : -800 ≤ Fp.val r ∧ Fp.val r ≤ 800) : Fp.fin (decP r) ∧ Near (Fp.val (decP r)) (cval M255 - 10 * (Fp.val r * cval KT)) (1 / 100000000000) ∧ -4000 ≤ Fp.val (decP r) ∧ Fp.val (decP r) ≤ 4000 := by
  obtain ⟨fK, vK⟩ := const_fin KT (by decide +kernel)
  obtain ⟨f10, v10⟩ := const_fin W10 (by decide +kernel)
  obtain ⟨fM, vM⟩ := const_fin M255 (by decide +kernel)
  have bK : -(44 / 100) ≤ cval KT ∧ cval KT ≤ 44 / 100 := by decide +kernel
  have b10 : cval W10 = 10 := by decide +kernel
  have bM : -49 ≤ cval M255 ∧ cval M255 ≤ 49 := by decide +kernel
  rw [b10] at v10
  have p1 := prod_b hr bK (γ := 352) (by decide +kernel)
  obtain ⟨u, eu, fu, nu⟩ := mul_near fr fK (M := 352) (by decide +kernel) (by decide +kernel) (by rw [vK]; exact p1)
  rw [vK] at nu
  have bu := near_b nu p1 (γ := 353) (by decide +kernel)
  have p2 := prod_b (x := 10) (α := 10) ⟨by decide +kernel, by decide +kernel⟩ bu (γ := 3530) (by decide +kernel)
  obtain ⟨v, ev, fv', nv⟩ := mul_near f10 fu (M := 3530) (by decide +kernel) (by decide +kernel) (by rw [v10]; exact p2)
  rw [v10] at nv
  have bv := near_b nv p2 (γ := 3531) (by decide +kernel)
  have p3 := minus_b bM bv (γ := 3580) (by decide +kernel)
  obtain ⟨d, ed, fd', nd⟩ := sub_near fM fv' (M := 3580) (by decide +kernel) (by decide +kernel) (by rw [vM]; exact p3)
  rw [vM] at nd
  have bd := near_b nd p3 (γ := 4000) (by decide +kernel)
  have heps : eps = 13 / 100000000000000000 := rfl
  rw [heps] at nu nv nd
  have e1 : decP r = d := by
    unfold decP fo
    rw [fo_some eu, fo_some ev, fo_some ed]
  rw [e1]
  refine ⟨fd', ?_, bd⟩
  clear p1 p2 p3 bu bv bM bK vK v10 vM hr bd
  generalize Fp.val r * cval KT = R at *
  generalize cval M255 = cM at *
  generalize Fp.val d = D at *
  generalize Fp.val v = V at *
  generalize Fp.val u = U at *
  unfold Near at *
  constructor <;> grind
def LO : Nat := 148827732767309341
def HI : Nat := 9094988921128908188
def C3 : Nat := 4479327984896590303
def N3 : Nat := 13702700021751366111
/-- what a word in the range is -/
theorem in_range {x : Nat} (hx : x < 2 ^ 64) (h1 : oF x LO = some .gt) (h2 : oF x HI = some .lt) : 2 ^ 52 ≤ x ∧ x < Fp.infR ∧ Fp.p2 (-991) ≤ Fp.val x ∧ Fp.val x ≤ Fp.p2 1000 := by
  have hI : Fp.infR = 9218868437227405312 := by decide +kernel
  replace h1 : ord x LO = some .gt := h1
  replace h2 : ord x HI = some .lt := h2
  have hn : ¬ NaN x := fun k => by rw [(order_nan k LO).1] at h1; cases h1
  have kA := ord_key hx (show LO < 2 ^ 64 by decide) hn (not_nan_lit (by decide))
  have kB := ord_key hx (show HI < 2 ^ 64 by decide) hn (not_nan_lit (by decide))
  have a1 := kA.2.2.1 h1
  have a2 := kB.1.1 h2
  rw [kz_pos (show LO < 2 ^ 63 by decide)] at a1
  rw [kz_pos (show HI < 2 ^ 63 by decide)] at a2
  have hz : x < 2 ^ 63 := by
    unfold kz at a1
    by_cases h : 2 ^ 63 ≤ x
    · rw [if_pos h] at a1; unfold LO at a1; omega
    · omega
  rw [kz_pos hz] at a1 a2
  unfold LO at a1
  unfold HI at a2
  have hlt : x < Fp.infR := by rw [hI]; omega
  have fx := Fp.fin_rung hlt
  refine ⟨by omega, hlt, ?_, ?_⟩
  · have v1 : Fp.fin LO ∧ Fp.p2 (-991) ≤ Fp.val LO := ⟨Fp.fin_rung (by decide +kernel), by decide +kernel⟩
    have := (ord_gt_iff fx v1.1).1.1 h1
    grind
  · have v1 : Fp.fin HI ∧ Fp.val HI ≤ Fp.p2 1000 := ⟨Fp.fin_rung (by decide +kernel), by decide +kernel⟩
    have := (ord_gt_iff fx v1.1).2.2.1 h2
    grind
/-- a tenth of a word -/
theorem tenth_word {x : Nat} (hlt : x < Fp.infR) (h1 : Fp.p2 (-991) ≤ Fp.val x) (h2 : Fp.val x ≤ Fp.p2 1000) : ∃ x', F .quo x W10 x' ∧ 2 ^ 52 ≤ x' ∧ x' < Fp.infR ∧ Rel (Fp.val x') (Fp.val x / 10) (3 / 10000000000000000) := by
  obtain ⟨f10, v10⟩ := const_fin W10 (by decide +kernel)
  have b10 : cval W10 = 10 := by decide +kernel
  rw [b10] at v10
  have fx := Fp.fin_rung hlt
  have hp := Fp.p2_pos (-991)
  have hx0 : 0 < Fp.val x := by grind
  have e10 : Fp.val x / 10 = Fp.val x * (1 / 10) := by rw [Rat.div_def]; rw [show (1 : Rat) / 10 = (10 : Rat)⁻¹ by decide +kernel]
  have hb : Fp.p2 1000 < Fp.p2 1022 := Fp.p2_lt (by omega)
  have hP := Fp.p2_pos 1022
  obtain ⟨x', v, hr, hf, hq, hd⟩ := Fp.div_rd fx f10 (by rw [v10]; decide +kernel) (by rw [v10, e10]; grind) (by rw [v10, e10]; grind)
  rw [v10] at hq
  have hlow : Fp.p2 (-995) ≤ Fp.val x / 10 := by
    have : Fp.p2 (-995) ≤ Fp.p2 (-991) * (1 / 10) := by decide +kernel
    rw [e10]; grind
  have hp5 := Fp.p2_pos (-995)
  have k1 := nq_rel hq (by grind)
  unfold Rel at k1
  have hv : Fp.p2 (-996) ≤ v := by
    have : Fp.p2 (-995) = 2 * Fp.p2 (-996) := Fp.p2_split (-995)
    have := Fp.p2_pos (-996)
    grind
  have hp6 := Fp.p2_pos (-996)
  have k2 : Rel (Fp.val x') v (15 / 100000000000000000) := by
    have k := hd.pos (by grind)
    have a2 : Fp.p2 (-53) ≤ 12 / 100000000000000000 := by decide +kernel
    have a3 : Fp.p2 (-1075) ≤ Fp.p2 (-996) * (1 / 100000000000000000000) := by decide +kernel
    have b2 := Rat.mul_le_mul_of_nonneg_left a2 (show 0 ≤ v by grind)
    unfold Rel
    constructor <;> grind
  have hrel : Rel (Fp.val x') (Fp.val x / 10) (3 / 10000000000000000) := by
    generalize Fp.val x / 10 = y at *
    unfold Rel at k2 ⊢
    constructor <;> grind
  have hlow' : Fp.p2 (-1000) ≤ Fp.val x' := by
    have : Fp.p2 (-1000) ≤ Fp.p2 (-995) * (1 / 10) := by decide +kernel
    unfold Rel at hrel
    grind
  have hpl : Plus x' := plus_quo ⟨_, _, Fp.read_rung hlt⟩ ⟨_, _, (by decide +kernel : Ieee.double.read W10 = .number false (2 ^ 52 + W10 % 2 ^ 52) (-1074 + (W10 / 2 ^ 52 - 1 : Nat)))⟩ hr hf
  have hw : ∃ rr, rr < Fp.infR ∧ x' = Ieee.double.word false rr := by
    have k : Ieee.double.div x W10 = some x' := hr
    unfold Ieee.Format.div at k
    obtain ⟨m, e, hxr⟩ : ∃ m e, Ieee.double.read x = .number false m e := ⟨_, _, Fp.read_rung hlt⟩
    rw [hxr, (by decide +kernel : Ieee.double.read W10 = .number false (2 ^ 52 + W10 % 2 ^ 52) (-1074 + (W10 / 2 ^ 52 - 1 : Nat)))] at k
    simp only [Ieee.Datum.quotient] at k
    rw [if_neg (by decide)] at k
    injection k with k
    rw [← k] at hf ⊢
    obtain ⟨rr, h1, h2⟩ := fin_word hf
    exact ⟨rr, h1, h2⟩
  obtain ⟨rr, hrr, hww⟩ := hw
  have hw2 : Ieee.double.word false rr = rr := rfl
  obtain rfl : x' = rr := hww.trans hw2
  refine ⟨x', hr, ?_, hrr, hrel⟩
  rcases Nat.lt_or_ge x' (2 ^ 52) with h | h
  · exfalso
    rw [Fp.val_rung hrr] at hlow'
    unfold Fp.rmag Fp.rplace at hlow'
    rw [if_pos h, if_pos h] at hlow'
    have a : (x' : Rat) ≤ ((2 ^ 52 : Nat) : Rat) := by exact_mod_cast Nat.le_of_lt h
    have b := Rat.mul_le_mul_of_nonneg_right a (Rat.le_of_lt (Fp.p2_pos (-1074)))
    have c : ((2 ^ 52 : Nat) : Rat) * Fp.p2 (-1074) < Fp.p2 (-1000) := by decide +kernel
    grind
  · exact h
/-- what MeasureTen asks -/
structure TenFacts (x y x' r r' q z1 z2 s : Nat) : Prop where
  h1 : F .quo x W10 x'
  l1 : ∀ w, (Extern.MathLog.archLog #[.float .f64 x]).run Try.prog w = .ok (.float .f64 r) w
  l2 : ∀ w, (Extern.MathLog.archLog #[.float .f64 x']).run Try.prog w = .ok (.float .f64 r') w
  l3 : ∀ w, (Extern.MathLog.archLog #[.float .f64 y]).run Try.prog w = .ok (.float .f64 q) w
  h2 : F .sub (decP r') (decP r) z1
  h3 : F .sub z1 W10 z2
  o1 : ord z2 C3 = some .lt
  o2 : ord z2 N3 = some .gt
  h4 : F .add (decP r) C3 s
  o3 : ord x y = some .gt ∨ (ord x y = some .lt ∨ ord x y = some .eq) ∧ ord (decP q) s = some .lt
  d1 : ord (decP r) (decP r) = some .eq
  d2 : ord (decP r') (decP r') = some .eq
  d3 : ord (decP q) (decP q) = some .eq
theorem ten_facts {x y : Nat} (hx : x < 2 ^ 64) (hy : y < 2 ^ 64) (x1 : oF x LO = some .gt) (x2 : oF x HI = some .lt) (y1 : oF y LO = some .gt) (y2 : oF y HI = some .lt) :
    ∃ x' r r' q z1 z2 s, TenFacts x y x' r r' q z1 z2 s := by
  obtain ⟨a1, a2, a3, a4⟩ := in_range hx x1 x2
  obtain ⟨b1, b2, b3, b4⟩ := in_range hy y1 y2
  obtain ⟨x', hq, c1, c2', hrel⟩ := tenth_word a2 a3 a4
  obtain ⟨r, k, m, l1, F1⟩ := arch_fine Try.prog x a1 a2
  obtain ⟨r', k', m', l2, F2⟩ := arch_fine Try.prog x' c1 c2'
  obtain ⟨q, kq, mq, l3, F3⟩ := arch_fine Try.prog y b1 b2
  have t := log_ten F1 F2 hrel
  have mono := fun h => log_mono F1 F3 h
  obtain ⟨fd1, n1, i1⟩ := dec_near F1.fin F1.b
  obtain ⟨fd2, n2, i2⟩ := dec_near F2.fin F2.b
  obtain ⟨fd3, n3, i3⟩ := dec_near F3.fin F3.b
  have kT : Near (10 * (LT * cval KT)) 10 (1 / 1000000000) := by unfold Near; decide +kernel
  have kT0 : 0 ≤ cval KT ∧ cval KT ≤ 44 / 100 := by decide +kernel
  have r1 := F1.b
  have r2 := F2.b
  have r3 := F3.b
  have e1 := prod_b (x := Fp.val r - Fp.val r' - LT) (y := cval KT) (α := 1 / 10000000000) (β := 44 / 100) (γ := 44 / 1000000000000) (by unfold Near at t; constructor <;> grind) ⟨by grind, kT0.2⟩ (by decide +kernel)
  have diff : Near (Fp.val (decP r') - Fp.val (decP r)) 10 (18 / 10000000000) := by
    generalize cval M255 = cM at *
    generalize cval KT = K at *
    generalize LT = L at *
    generalize Fp.val r = u at *
    generalize Fp.val r' = u' at *
    generalize Fp.val (decP r) = D at *
    generalize Fp.val (decP r') = D' at *
    clear mono F1 F2 F3 r1 r2 r3 i1 i2 i3 n3 a3 a4 b3 b4 hrel
    unfold Near at *
    constructor <;> grind
  obtain ⟨fc, vc⟩ := const_fin W10 (by decide +kernel)
  have b10 : cval W10 = 10 := by decide +kernel
  rw [b10] at vc
  obtain ⟨z1, h2, fz1, nz1⟩ := sub_near fd2 fd1 (M := 20) (by decide +kernel) (by decide +kernel) (by unfold Near at diff; constructor <;> grind)
  rw [eps_val] at nz1
  have bz1 : Near (Fp.val z1) 10 (19 / 10000000000) := by unfold Near at *; constructor <;> grind
  obtain ⟨z2, h3, fz2, nz2⟩ := sub_near fz1 fc (M := 1) (by decide +kernel) (by decide +kernel) (by rw [vc]; unfold Near at bz1; constructor <;> grind)
  rw [eps_val, vc] at nz2
  have vC3 : Fp.fin C3 ∧ 29 / 10000000000 ≤ Fp.val C3 ∧ Fp.val C3 ≤ 1 / 100000000 := ⟨Fp.fin_rung (by decide +kernel), by decide +kernel, by decide +kernel⟩
  have vN3 : Fp.fin N3 ∧ Fp.val N3 ≤ -(29 / 10000000000) := ⟨⟨true, _, _, (show Ieee.double.word true (N3 - 2 ^ 63) = N3 by decide +kernel) ▸ Fp.read_word true (N3 - 2 ^ 63) (by decide +kernel)⟩, by decide +kernel⟩
  obtain ⟨s, h4, fs, ns⟩ := add_near fd1 vC3.1 (M := 5000) (by decide +kernel) (by decide +kernel) (by have := vC3.2; constructor <;> grind)
  rw [eps_val] at ns
  have oxy := ord_gt_iff (Fp.fin_rung a2) (Fp.fin_rung b2)
  refine ⟨x', r, r', q, z1, z2, s, ⟨hq, l1, l2, l3, h2, h3, (ord_gt_iff fz2 vC3.1).2.2.2 ?_, (ord_gt_iff fz2 vN3.1).1.2 ?_, h4, ?_, order_refl (fin_not_nan fd1), order_refl (fin_not_nan fd2), order_refl (fin_not_nan fd3)⟩⟩
  · have := vC3.2.1; unfold Near at bz1 nz2; grind
  · have := vN3.2; unfold Near at bz1 nz2; grind
  · by_cases hxy : Fp.val y < Fp.val x
    · exact .inl (oxy.1.2 hxy)
    · right
      have hle : Fp.val x ≤ Fp.val y := Rat.not_lt.1 hxy
      refine ⟨?_, (ord_gt_iff fd3 fs).2.2.2 ?_⟩
      · rcases Rat.le_iff_lt_or_eq.1 hle with hlt | heq
        · exact .inl (oxy.2.2.2 hlt)
        · exact .inr (oxy.2.1.2 heq)
      · have mm := mono hle
        have m1 := Rat.mul_le_mul_of_nonneg_right mm kT0.1
        have := vC3.2.1
        generalize cval M255 = cM at *
        generalize cval KT = K at *
        generalize Fp.val r = u at *
        generalize Fp.val q = u' at *
        generalize Fp.val (decP r) = D at *
        generalize Fp.val (decP q) = D' at *
        generalize Fp.val s = S at *
        generalize Fp.val C3 = C at *
        clear F1 F2 F3 r1 r2 r3 n2 a3 a4 b3 b4 hrel oxy diff bz1 nz1 nz2 t e1 kT mono
        unfold Near at *
        grind
end Go.Proofs.Ytfaciljklligeaa.Ct
