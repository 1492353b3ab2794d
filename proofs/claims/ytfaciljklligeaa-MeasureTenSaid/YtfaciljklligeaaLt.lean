/- The logarithm of a tenth, and of a greater number. -/
import Derived.Test.YtfaciljklligeaaLo
import Derived.Test.YtfaciljklligeaaTr
namespace Go.Proofs.Ytfaciljklligeaa.Ct
open Go.ChangeShapes Go.WideShapes Go.RowKit Mm
def cK : Rat := cval 0x3FE6A09E667F3BCD
theorem cK_b : 70710678 / 100000000 ≤ cK ∧ cK ≤ 70710679 / 100000000 := by unfold cK; decide +kernel
def expoI (x : Nat) (small : Bool) : Int := ((x / 2 ^ 52 : Nat) : Int) - 1022 - (if small then 1 else 0)
theorem expo_eq (x : Nat) (small : Bool) : expoR x small = (expoI x small : Rat) := by
  unfold expoR expoI
  generalize x / 2 ^ 52 = e
  cases small
  · simp only [Bool.false_eq_true, if_false]; push_cast; rfl
  · simp only [if_true]; push_cast; rfl
theorem val_mant {x : Nat} (h : 2 ^ 52 ≤ x) (h1 : x < Fp.infR) (small : Bool) : Fp.val x = mantR x small * Fp.p2 (expoI x small) := by
  rw [Fp.val_rung h1]
  unfold Fp.rmag Fp.rplace mantR expoI
  rw [if_neg (by omega), if_neg (by omega)]
  have hE : 1 ≤ x / 2 ^ 52 := by omega
  generalize x / 2 ^ 52 = E at *
  generalize 2 ^ 52 + x % 2 ^ 52 = M
  rw [Rat.mul_assoc, Rat.mul_assoc]
  congr 1
  cases small
  · simp only [Bool.false_eq_true, if_false]
    rw [Rat.one_mul, ← Fp.p2_add]
    congr 1
    omega
  · simp only [if_true]
    rw [← Fp.p2_one, ← Fp.p2_add, ← Fp.p2_add]
    congr 1
    omega
/-- the mantissa, in its bounds -/
theorem mant_fine (x : Nat) (small : Bool) (hs : (!Extern.MathAsm.lt 0x3FE6A09E667F3BCD (x % 2 ^ 52 + Extern.MathAsm.half)) = small) : cK < mantR x small ∧ mantR x small ≤ 2 * cK := by
  have hfr : x % 2 ^ 52 < 2 ^ 52 := Nat.mod_lt _ (by omega)
  obtain ⟨fm, vm⟩ := mant_val _ hfr
  obtain ⟨fc, vc⟩ := const_fin 0x3FE6A09E667F3BCD (by decide +kernel)
  obtain ⟨c0, c1⟩ := cK_b
  have hp : ((4503599627370496 : Nat) : Rat) * Fp.p2 (-53) = 1 / 2 := by decide +kernel
  have hp2 : ((9007199254740992 : Nat) : Rat) * Fp.p2 (-53) = 1 := by decide +kernel
  have hpp := Fp.p2_pos (-53)
  have hN : 4503599627370496 ≤ 2 ^ 52 + x % 2 ^ 52 ∧ 2 ^ 52 + x % 2 ^ 52 < 9007199254740992 := by omega
  have hl : ((4503599627370496 : Nat) : Rat) * Fp.p2 (-53) ≤ ((2 ^ 52 + x % 2 ^ 52 : Nat) : Rat) * Fp.p2 (-53) := Rat.mul_le_mul_of_nonneg_right (by exact_mod_cast hN.1) (Rat.le_of_lt hpp)
  have hh : ((2 ^ 52 + x % 2 ^ 52 : Nat) : Rat) * Fp.p2 (-53) < ((9007199254740992 : Nat) : Rat) * Fp.p2 (-53) := Rat.mul_lt_mul_of_pos_right (by exact_mod_cast hN.2) hpp
  rw [lt_val fc fm, vc] at hs
  change (!decide (cK < _)) = small at hs
  unfold mantR
  rw [← vm]
  rw [← vm] at hl hh
  rw [hp] at hl
  rw [hp2] at hh
  by_cases h : cK < Fp.val (x % 2 ^ 52 + Extern.MathAsm.half)
  · rw [decide_eq_true h] at hs
    subst hs
    simp only [Bool.not_true, Bool.false_eq_true, if_false]
    constructor <;> grind
  · rw [decide_eq_false h] at hs
    subst hs
    simp only [Bool.not_false, if_true]
    constructor <;> grind
def c2 : Rat := cval KHi + cval KLo
/-- what the logarithm of a number is near to: a whole power and a mantissa -/
structure Fine (x r : Nat) (k : Int) (m : Rat) : Prop where
  fin : Fp.fin r
  near : Near (Fp.val r) ((k : Rat) * c2 + TT (sq m)) (1 / 1000000000000)
  lo : cK < m
  hi : m ≤ 2 * cK
  val : Fp.val x = m * Fp.p2 k
  b : -800 ≤ Fp.val r ∧ Fp.val r ≤ 800
theorem arch_fine (P : Program) (x : Nat) (h0 : 2 ^ 52 ≤ x) (h1 : x < Fp.infR) :
    ∃ r k m, (∀ w, (Extern.MathLog.archLog #[.float .f64 x]).run P w = .ok (.float .f64 r) w) ∧ Fine x r k m := by
  have h1' : x < 2047 * 2 ^ 52 := h1
  obtain ⟨small, hs, m0, m1, m2, m3⟩ := mant_bounds x
  obtain ⟨g0, g1'⟩ := mant_fine x small hs
  obtain ⟨k, c, g, f, pre, fk, ff, vk, vf⟩ := pre_ex x (by omega) small
  have hke := expo_b (show x < 2 ^ 63 by omega) small
  obtain ⟨s0, s, s2, s4, a1, a2, a3, a4, a5, a6, t1, b1, b2, b3, b4, t2, R, hf0, hf, c1, c2, c3, inner, kh, g1, g2, r, L, fr, nr⟩ := log_ex ff fk (by rw [vf]; constructor <;> grind) (by rw [vk]; exact hke)
  rw [vk, vf] at nr
  rw [show 2 + (mantR x small - 1) = mantR x small + 1 by grind] at nr
  refine ⟨r, expoI x small, mantR x small, ?_, fr, ?_, g0, g1', val_mant h0 h1 small, ?_⟩
  · have hx0 : (x % 2 ^ 63 == 0) = false := by rw [beq_eq_false_iff_ne]; omega
    have hx1 : ¬ x ≥ 2 ^ 63 := by omega
    have hx2 : ¬ x ≥ Extern.MathAsm.posInf := by unfold Extern.MathAsm.posInf; omega
    exact fun w => arch_run1 w x hx0 hx1 hx2 hs pre L
  · rw [← expo_eq]
    unfold Ct.c2 TT sq
    exact nr
  · have hk : -(7 / 10) ≤ cval KHi + cval KLo ∧ cval KHi + cval KLo ≤ 7 / 10 := by decide +kernel
    have hq := quot_b m0 m1
    have hu := prod_b hq hq (γ := 1 / 10) (by decide +kernel)
    have hp := poly_b hu
    have e1 := prod_b hke hk (γ := 770) (by decide +kernel)
    have e2 := prod_b hq (plus_b (x := 2) (α := 2) ⟨by decide +kernel, by decide +kernel⟩ hp (γ := 3) (by decide +kernel)) (γ := 1) (by decide +kernel)
    exact near_b nr (α := 790) (plus_b e1 e2 (by decide +kernel)) (by decide +kernel)
theorem quot_v {m n b : Rat} (hm : 0 < m) (hn : 0 < n) (h1 : -b * (m + n) ≤ m - n) (h2 : m - n ≤ b * (m + n)) : -b ≤ (m - n) / (m + n) ∧ (m - n) / (m + n) ≤ b :=
  ⟨le_div' (by grind) h1, div_le' (by grind) h2⟩
/-- the two ways in which a tenth's mantissa comes about -/
theorem tenth_a {m m' : Rat} (h0 : cK < m) (h1 : m ≤ 2 * cK) (g0 : cK < m') (_ : m' ≤ 2 * cK) (h : Near m' (4 / 5 * m) (1 / 1000000000000000)) : Near (TT (sq m) - TT (sq m')) (TT (1 / 18) - TT (-9 / 161)) (4 / 1000000000000) := by
  obtain ⟨c0, c1⟩ := cK_b
  have hh := h
  unfold Near at hh
  have hv := quot_v (m := m) (n := 19 / 17) (b := 12 / 100) (by grind) (by decide +kernel) (by grind) (by grind)
  have e1 := sq_shift (m := m) (n := 19 / 17) (by grind) (by decide +kernel)
  have e2 := sq_shift (m := 4 / 5 * m) (n := 76 / 85) (by grind) (by decide +kernel)
  have e3 : (4 / 5 * m - 76 / 85) / (4 / 5 * m + 76 / 85) = (m - 19 / 17) / (m + 19 / 17) := by
    have a1 : (m - 19 / 17) / (m + 19 / 17) * (m + 19 / 17) = m - 19 / 17 := Rat.div_mul_cancel (by grind)
    have a2 : (4 / 5 * m - 76 / 85) / (4 / 5 * m + 76 / 85) * (4 / 5 * m + 76 / 85) = 4 / 5 * m - 76 / 85 := Rat.div_mul_cancel (by grind)
    refine Fp.mulc (show 4 / 5 * m + 76 / 85 ≠ 0 by grind) ?_
    rw [a2]
    grind
  rw [e3] at e2
  rw [show sq (19 / 17) = 1 / 18 by decide +kernel] at e1
  rw [show sq (76 / 85) = -9 / 161 by decide +kernel] at e2
  generalize (m - 19 / 17) / (m + 19 / 17) = v at *
  have t1 := TT_add (c := 1 / 18) hv (by decide +kernel)
  have t2 := TT_add (c := -9 / 161) hv (by decide +kernel)
  rw [e1] at t1
  rw [e2] at t2
  have n1 := TT_near (sq_near (by grind) (by grind) h) (quot_b (m := 4 / 5 * m) (by grind) (by grind))
  unfold Near at *
  constructor <;> grind
theorem tenth_b {m m' : Rat} (h0 : cK < m) (_ : m ≤ 2 * cK) (_ : cK < m') (g1 : m' ≤ 2 * cK) (h : Near m' (8 / 5 * m) (1 / 1000000000000000)) : Near (TT (sq m) - TT (sq m')) (TT (-21 / 179) - TT (33 / 283)) (4 / 1000000000000) := by
  obtain ⟨c0, c1⟩ := cK_b
  have hh := h
  unfold Near at hh
  have hv := quot_v (m := m) (n := 79 / 100) (b := 6 / 100) (by grind) (by decide +kernel) (by grind) (by grind)
  have e1 := sq_shift (m := m) (n := 79 / 100) (by grind) (by decide +kernel)
  have e2 := sq_shift (m := 8 / 5 * m) (n := 158 / 125) (by grind) (by decide +kernel)
  have e3 : (8 / 5 * m - 158 / 125) / (8 / 5 * m + 158 / 125) = (m - 79 / 100) / (m + 79 / 100) := by
    have a1 : (m - 79 / 100) / (m + 79 / 100) * (m + 79 / 100) = m - 79 / 100 := Rat.div_mul_cancel (by grind)
    have a2 : (8 / 5 * m - 158 / 125) / (8 / 5 * m + 158 / 125) * (8 / 5 * m + 158 / 125) = 8 / 5 * m - 158 / 125 := Rat.div_mul_cancel (by grind)
    refine Fp.mulc (show 8 / 5 * m + 158 / 125 ≠ 0 by grind) ?_
    rw [a2]
    grind
  rw [e3] at e2
  rw [show sq (79 / 100) = -21 / 179 by decide +kernel] at e1
  rw [show sq (158 / 125) = 33 / 283 by decide +kernel] at e2
  generalize (m - 79 / 100) / (m + 79 / 100) = v at *
  have t1 := TT_add (c := -21 / 179) hv (by decide +kernel)
  have t2 := TT_add (c := 33 / 283) hv (by decide +kernel)
  rw [e1] at t1
  rw [e2] at t2
  have n1 := TT_near (sq_near (by grind) (by grind) h) (quot_b (m := 8 / 5 * m) (by grind) (by grind))
  unfold Near at *
  constructor <;> grind
/-- ten's logarithm -/
def LT : Rat := 2302585092994 / 1000000000000
theorem log_ten {x x' r r' : Nat} {k k' : Int} {m m' : Rat} (h : Fine x r k m) (h' : Fine x' r' k' m') (ht : Rel (Fp.val x') (Fp.val x / 10) (3 / 10000000000000000)) : Near (Fp.val r - Fp.val r') LT (1 / 10000000000) := by
  obtain ⟨c0, c1⟩ := cK_b
  have hm0 := h.lo
  have hm1 := h.hi
  have hm0' := h'.lo
  have hm1' := h'.hi
  obtain ⟨j, hj⟩ : ∃ j, k = k' + j := ⟨k - k', by omega⟩
  -- the mantissas
  have hrel : Rel m' (m * Fp.p2 j / 10) (3 / 10000000000000000) := by
    have hp := Fp.p2_pos k'
    rw [h.val, h'.val, hj, Fp.p2_add] at ht
    have e : m * (Fp.p2 k' * Fp.p2 j) / 10 = m * Fp.p2 j / 10 * Fp.p2 k' := by rw [Rat.div_def, Rat.div_def]; grind
    rw [e] at ht
    generalize m * Fp.p2 j / 10 = y at *
    unfold Rel at *
    constructor
    · exact Rat.le_of_mul_le_mul_right (c := Fp.p2 k') (by grind) hp
    · exact Rat.le_of_mul_le_mul_right (c := Fp.p2 k') (by grind) hp
  have hpj := Fp.p2_pos j
  have hd : m * Fp.p2 j / 10 = m * Fp.p2 j * (1 / 10) := by rw [Rat.div_def]; rw [show (1 : Rat) / 10 = (10 : Rat)⁻¹ by decide +kernel]
  rw [hd] at hrel
  have n1 := h.near
  have n2 := h'.near
  have hjj : j = 3 ∨ j = 4 := by
    rcases Int.lt_or_le j 3 with h3 | h3
    · exfalso
      have a1 : Fp.p2 j ≤ Fp.p2 2 := Fp.p2_le (by omega)
      have a2 : Fp.p2 2 = 4 := by decide +kernel
      have a3 := Rat.mul_le_mul_of_nonneg_left a1 (show 0 ≤ m by grind)
      rw [a2] at a3
      clear a1 a2 n1 n2 ht h h' hd hj hpj
      unfold Rel at hrel
      generalize m * Fp.p2 j = z at *
      grind
    · rcases Int.lt_or_le 4 j with h4 | h4
      · exfalso
        have a1 : Fp.p2 5 ≤ Fp.p2 j := Fp.p2_le (by omega)
        have a2 : Fp.p2 5 = 32 := by decide +kernel
        have a3 := Rat.mul_le_mul_of_nonneg_left a1 (show 0 ≤ m by grind)
        rw [a2] at a3
        clear a1 a2 n1 n2 ht h h' hd hj hpj
        unfold Rel at hrel
        generalize m * Fp.p2 j = z at *
        grind
      · omega
  rcases hjj with rfl | rfl
  · have a2 : Fp.p2 3 = 8 := by decide +kernel
    rw [a2] at hrel
    have t := tenth_a hm0 hm1 hm0' hm1' (by unfold Rel at hrel; unfold Near; constructor <;> grind)
    have e : (k : Rat) = (k' : Rat) + 3 := by rw [hj]; push_cast; rfl
    rw [e] at n1
    have hc : Near (3 * c2 + (TT (1 / 18) - TT (-9 / 161))) LT (2 / 1000000000000) := by unfold Near; decide +kernel
    clear h h' ht hrel hd hpj a2 c0 c1 hm0 hm1 hm0' hm1' hj e
    generalize TT (1 / 18) - TT (-9 / 161) = Q at *
    generalize TT (sq m) = A at *
    generalize TT (sq m') = B at *
    generalize c2 = q at *
    generalize LT = L at *
    generalize Fp.val r = u at *
    generalize Fp.val r' = v at *
    generalize (k' : Rat) = w at *
    unfold Near at *
    constructor <;> grind
  · have a2 : Fp.p2 4 = 16 := by decide +kernel
    rw [a2] at hrel
    have t := tenth_b hm0 hm1 hm0' hm1' (by unfold Rel at hrel; unfold Near; constructor <;> grind)
    have e : (k : Rat) = (k' : Rat) + 4 := by rw [hj]; push_cast; rfl
    rw [e] at n1
    have hc : Near (4 * c2 + (TT (-21 / 179) - TT (33 / 283))) LT (2 / 1000000000000) := by unfold Near; decide +kernel
    clear h h' ht hrel hd hpj a2 c0 c1 hm0 hm1 hm0' hm1' hj e
    generalize TT (-21 / 179) - TT (33 / 283) = Q at *
    generalize TT (sq m) = A at *
    generalize TT (sq m') = B at *
    generalize c2 = q at *
    generalize LT = L at *
    generalize Fp.val r = u at *
    generalize Fp.val r' = v at *
    generalize (k' : Rat) = w at *
    unfold Near at *
    constructor <;> grind
theorem log_mono {x x' r r' : Nat} {k k' : Int} {m m' : Rat} (h : Fine x r k m) (h' : Fine x' r' k' m') (ht : Fp.val x ≤ Fp.val x') : Fp.val r - Fp.val r' ≤ 1 / 10000000000 := by
  obtain ⟨c0, c1⟩ := cK_b
  have hm0 := h.lo
  have hm1 := h.hi
  have hm0' := h'.lo
  have hm1' := h'.hi
  have n1 := h.near
  have n2 := h'.near
  have hc2 : 0 ≤ c2 := by decide +kernel
  rw [h.val, h'.val] at ht
  rcases Int.lt_or_le k k' with hk | hk
  · have t1 := TT_mono (sq_mono (show 0 < m by grind) hm1)
    have t2 := TT_mono (sq_mono (show 0 < cK by grind) (Rat.le_of_lt hm0'))
    have hc : TT (sq (2 * cK)) - TT (sq cK) ≤ c2 + 1 / 100000000000 := by decide +kernel
    have hkr : (k : Rat) + 1 ≤ (k' : Rat) := by
      have : k + 1 ≤ k' := by omega
      have := Rat.intCast_le_intCast.2 this
      rw [Rat.intCast_add] at this
      exact this
    have := Rat.mul_le_mul_of_nonneg_right hkr hc2
    clear h h' ht hk hkr hc2 c0 c1 hm0 hm1 hm0' hm1'
    generalize TT (sq m) = A at *
    generalize TT (sq m') = B at *
    generalize TT (sq (2 * cK)) = C at *
    generalize TT (sq cK) = D at *
    generalize c2 = q at *
    generalize Fp.val r = u at *
    generalize Fp.val r' = v at *
    unfold Near at *
    grind
  · rcases Int.lt_or_le k' k with hk2 | hk2
    · exfalso
      obtain ⟨j, hj⟩ : ∃ j : Int, k = k' + 1 + j := ⟨k - k' - 1, by omega⟩
      have hp := Fp.p2_pos k'
      have a1 : Fp.p2 (k' + 1) ≤ Fp.p2 k := Fp.p2_le (by omega)
      rw [Fp.p2_add, Fp.p2_one] at a1
      have a2 := Rat.mul_le_mul_of_nonneg_left a1 (show 0 ≤ m by grind)
      have a3 := Rat.mul_lt_mul_of_pos_right (show 2 * cK < 2 * m by grind) hp
      have a4 := Rat.mul_le_mul_of_nonneg_right hm1' (Rat.le_of_lt hp)
      grind
    · obtain rfl : k = k' := by omega
      have hmm : m ≤ m' := Rat.le_of_mul_le_mul_right ht (Fp.p2_pos k)
      have t := TT_mono (sq_mono (show 0 < m by grind) hmm)
      clear h h' ht hk hk2 hc2 c0 c1 hm0 hm1 hm0' hm1'
      generalize TT (sq m) = A at *
      generalize TT (sq m') = B at *
      generalize (k : Rat) * c2 = q at *
      generalize Fp.val r = u at *
      generalize Fp.val r' = v at *
      unfold Near at *
      grind
end Go.Proofs.Ytfaciljklligeaa.Ct
