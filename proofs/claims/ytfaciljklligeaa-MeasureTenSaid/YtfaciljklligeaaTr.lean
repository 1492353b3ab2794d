/- MeasureTriangle's plain law. -/
import Derived.Test.YtfaciljklligeaaSe
namespace Go.Proofs.Ytfaciljklligeaa.Ct
open Go.ChangeShapes Go.WideShapes Go.RowKit Mm
/-! ### whole numbers: Cauchy and Schwarz; the peak's share -/
theorem sq_nonneg (x : Int) : 0 ≤ x * x := by
  rcases Int.le_total 0 x with h | h
  · exact Int.mul_nonneg h h
  · rw [← Int.neg_mul_neg]; exact Int.mul_nonneg (by omega) (by omega)
theorem le_of_sq {x y : Int} (hy : 0 ≤ y) (h : x * x ≤ y * y) : x ≤ y := by
  rcases Int.lt_or_le y x with k | k
  · have h1 : (y + 1) * (y + 1) ≤ x * x := Int.mul_le_mul (by omega) (by omega) (by omega) (by omega)
    have : (y + 1) * (y + 1) = y * y + 2 * y + 1 := by grind
    omega
  · exact k
def dotK (l l2 l3 : List Nat) : Nat → Int
  | 0 => 0
  | k + 1 => dotK l l2 l3 k + dI l l2 k * dI l2 l3 k
theorem sqK_nonneg (l l2 : List Nat) (k : Nat) : 0 ≤ sqK l l2 k := by
  induction k with
  | zero => simp [sqK]
  | succ k ih => unfold sqK; have := sq_nonneg (dI l l2 k); omega
theorem sqK_split (l l2 l3 : List Nat) (k : Nat) : sqK l l3 k = sqK l l2 k + sqK l2 l3 k + 2 * dotK l l2 l3 k := by
  induction k with
  | zero => simp [sqK, dotK]
  | succ k ih =>
    unfold sqK dotK
    have e : dI l l3 k = dI l l2 k + dI l2 l3 k := by unfold dI; omega
    rw [ih, e]
    grind
theorem dot_cauchy (l l2 l3 : List Nat) (k : Nat) : dotK l l2 l3 k * dotK l l2 l3 k ≤ sqK l l2 k * sqK l2 l3 k := by
  induction k with
  | zero => simp [dotK, sqK]
  | succ k ih =>
    unfold sqK dotK
    have hA := sqK_nonneg l l2 k
    have hB := sqK_nonneg l2 l3 k
    generalize sqK l l2 k = A at *
    generalize sqK l2 l3 k = B at *
    generalize dotK l l2 l3 k = G at *
    generalize dI l l2 k = a at *
    generalize dI l2 l3 k = b at *
    have h0 : 0 ≤ A * (b * b) + B * (a * a) := Int.add_nonneg (Int.mul_nonneg hA (sq_nonneg b)) (Int.mul_nonneg hB (sq_nonneg a))
    have key : 2 * (G * (a * b)) ≤ A * (b * b) + B * (a * a) := by
      refine le_of_sq h0 ?_
      have h1 : (A * B - G * G) * ((a * b) * (a * b)) ≥ 0 := Int.mul_nonneg (by omega) (sq_nonneg _)
      have h2 := sq_nonneg (A * (b * b) - B * (a * a))
      grind
    grind
theorem peak_share (l l2 : List Nat) (k : Nat) : pkK l l2 k * pkK l l2 k ≤ sqK l l2 k := by
  induction k with
  | zero => simp [pkK, sqK]
  | succ k ih =>
    have h1 := sq_nonneg (dI l l2 k)
    have h2 := sqK_nonneg l l2 k
    have hs : pkK l l2 (k + 1) = max (pkK l l2 k) (max (dI l l2 k) (- dI l l2 k)) := rfl
    unfold sqK
    have : pkK l l2 (k + 1) = pkK l l2 k ∨ pkK l l2 (k + 1) = dI l l2 k ∨ pkK l l2 (k + 1) = - dI l l2 k := by omega
    rcases this with e | e | e <;> rw [e]
    · omega
    · omega
    · rw [Int.neg_mul_neg]; omega
/-! ### relative errors -/
def Rel (y x d : Rat) : Prop := x - x * d ≤ y ∧ y ≤ x + x * d
theorem rd_rel {y x : Rat} (h : Fp.Rd y x) (h0 : 1 / 1000000 ≤ x) : Rel y x (2 / 10000000000000000) := by
  have k := h.pos (by grind)
  have a2 : Fp.p2 (-53) ≤ 12 / 100000000000000000 := by decide +kernel
  have a3 : Fp.p2 (-1075) ≤ 1 / 100000000000000000000000000000 := by decide +kernel
  have b2 := Rat.mul_le_mul_of_nonneg_left a2 (show 0 ≤ x by grind)
  unfold Rel
  constructor <;> grind
theorem nq_rel {y x : Rat} (h : Fp.Nq y x) (h0 : 0 ≤ x) : Rel y x (1 / 10000000000000000) := by
  have k := h.pos h0
  have a2 : Fp.p2 (-54) ≤ 1 / 10000000000000000 := by decide +kernel
  have b2 := Rat.mul_le_mul_of_nonneg_left a2 h0
  unfold Rel
  constructor <;> grind
/-- the mean square: nothing, or near the quotient -/
theorem apart_rel {l l2 : List Nat} {N : Nat} (e : l.length = N) (h : Byts l) (h2 : Byts l2) (h0 : 1 ≤ N) (hn : N ≤ 1600) :
    Fp.fin (apartP l l2) ∧ (sqK l l2 N = 0 ∧ Fp.val (apartP l l2) = 0 ∨ 1 ≤ sqK l l2 N ∧ Rel (Fp.val (apartP l l2)) ((sqK l l2 N : Rat) / (N : Rat)) (1 / 1000000000000000)) ∧ 0 ≤ (sqK l l2 N : Rat) / (N : Rat) ∧ (sqK l l2 N : Rat) / (N : Rat) ≤ 65025 ∧ (1 ≤ sqK l l2 N → 1 / 1600 ≤ (sqK l l2 N : Rat) / (N : Rat)) := by
  obtain ⟨_, hf, v, hq, hd⟩ := apart_bits h h2 (by omega) (by omega)
  rw [e] at hq
  obtain ⟨s0, s1⟩ := sqK_le h h2 N
  have hnr : (0 : Rat) < (N : Rat) := by exact_mod_cast h0
  have hx0 : 0 ≤ ((sqK l l2 N : Int) : Rat) / (N : Rat) := by
    refine le_div' hnr ?_
    have : (0 : Rat) ≤ ((sqK l l2 N : Int) : Rat) := by exact_mod_cast s0
    grind
  have hx1 : ((sqK l l2 N : Int) : Rat) / (N : Rat) ≤ 65025 := by
    refine div_le' hnr ?_
    have : ((sqK l l2 N : Int) : Rat) ≤ ((65025 * (N : Int) : Int) : Rat) := Rat.intCast_le_intCast.2 s1
    rw [Rat.intCast_mul] at this
    exact this
  have hx2 : 1 ≤ sqK l l2 N → 1 / 1600 ≤ ((sqK l l2 N : Int) : Rat) / (N : Rat) := by
    intro h1
    refine le_div' hnr ?_
    have a : (1 : Rat) ≤ ((sqK l l2 N : Int) : Rat) := by exact_mod_cast h1
    have b : (N : Rat) ≤ 1600 := by exact_mod_cast hn
    grind
  refine ⟨hf, ?_, hx0, hx1, hx2⟩
  by_cases hz : sqK l l2 N = 0
  · left
    refine ⟨hz, ?_⟩
    rw [hz] at hq
    have e : (((0 : Int) : Rat)) / (N : Rat) = 0 := by rw [Rat.div_def, show ((0 : Int) : Rat) = 0 from rfl, Rat.zero_mul]
    rw [e] at hq
    have hv : v = 0 := hq.exact 0 (by omega) rfl
    subst hv
    exact hd.exact 0 0 (by omega) (by omega) (by rw [show ((0 : Int) : Rat) = 0 from rfl, Rat.zero_mul])
  · right
    have h1 : 1 ≤ sqK l l2 N := by omega
    have hlo := hx2 h1
    refine ⟨h1, ?_⟩
    generalize ((sqK l l2 N : Int) : Rat) / (N : Rat) = x at *
    have k1 := nq_rel hq hx0
    unfold Rel at k1
    have k2 := rd_rel hd (by grind)
    unfold Rel at k2 ⊢
    constructor <;> grind
theorem rat_le_of_sq {x y : Rat} (hy : 0 ≤ y) (h : x * x ≤ y * y) : x ≤ y := by
  refine Rat.not_lt.1 fun k => ?_
  have h1 := Rat.mul_lt_mul_of_pos_right k (show 0 < x by grind)
  have h2 := Rat.mul_le_mul_of_nonneg_left (Rat.le_of_lt k) hy
  grind
/-- the root of a word: nothing, or near -/
theorem root_rel {a : Nat} (ha : Fp.fin a) (h : Fp.val a = 0 ∨ 1 / 2000 ≤ Fp.val a ∧ Fp.val a ≤ 70000) :
    ∃ r, Ieee.double.sqrt a = some r ∧ Fp.fin r ∧ 0 ≤ Fp.val r ∧ Fp.val r ≤ 300 ∧ (Fp.val a = 0 → Fp.val r = 0) ∧ (Fp.val a ≠ 0 → 1 / 100 ≤ Fp.val r) ∧ Rel (Fp.val r * Fp.val r) (Fp.val a) (1 / 1000000000000000) := by
  have h0 : 0 ≤ Fp.val a := by rcases h with h | h <;> grind
  have hlt : Fp.val a < Fp.p2 1023 := p2_big' (by rcases h with h | h <;> grind)
  obtain ⟨r, v, hr, hf, v0, v1, v2, hd⟩ := Fp.sqrt_rd ha h0 hlt
  have a1 : Fp.p2 (-54) ≤ 1 / 10000000000000000 := by decide +kernel
  have b1 := Rat.mul_le_mul_of_nonneg_left a1 h0
  rcases h with h | ⟨h1, h2⟩
  · rw [h] at v1 v2 b1
    have hv : v = 0 := by
      have : v ≤ 0 := rat_le_of_sq (by grind) (by grind)
      grind
    subst hv
    have hz := hd.exact 0 0 (by omega) (by omega) (by simp)
    refine ⟨r, hr, hf, by rw [hz]; grind, by rw [hz]; grind, fun _ => hz, fun k => absurd h k, ?_⟩
    rw [hz, h]; unfold Rel; constructor <;> grind
  · generalize Fp.val a = x at *
    have hv1 : 1 / 50 ≤ v := rat_le_of_sq v0 (by grind)
    have hv2 : v ≤ 265 := rat_le_of_sq (by grind) (by grind)
    have k := rd_rel hd (by grind)
    refine ⟨r, hr, hf, ?_⟩
    generalize Fp.val r = y at *
    unfold Rel at k
    have m0 : v * (2 / 10000000000000000) ≥ 0 := by grind
    have hy0 : 0 ≤ y := by grind
    have u1 : v * (1 - 2 / 10000000000000000) ≤ y := by grind
    have u2 : y ≤ v * (1 + 2 / 10000000000000000) := by grind
    have s1 := Rat.mul_le_mul_of_nonneg_left u1 (show 0 ≤ v * (1 - 2 / 10000000000000000) by grind)
    have s2 := Rat.mul_le_mul_of_nonneg_right u1 hy0
    have s3 := Rat.mul_le_mul_of_nonneg_left u2 hy0
    have s4 := Rat.mul_le_mul_of_nonneg_right u2 (show 0 ≤ v * (1 + 2 / 10000000000000000) by grind)
    refine ⟨hy0, by grind, fun k => by grind, fun _ => by grind, ?_⟩
    have t1 : v * v * ((1 - 2 / 10000000000000000) * (1 - 2 / 10000000000000000)) ≤ y * y := by grind
    have t2 : y * y ≤ v * v * ((1 + 2 / 10000000000000000) * (1 + 2 / 10000000000000000)) := by grind
    unfold Rel
    generalize v * v = V at *
    constructor <;> grind
/-- the reals behind -/
theorem triangle_real {P Q R G A B C d : Rat} (hd1 : d ≤ 1 / 100000000000000) (hP : 0 ≤ P) (hQ : 0 ≤ Q) (hR : 0 ≤ R) (hG : G * G ≤ P * Q) (hs : R = P + Q + 2 * G) (hA : 0 ≤ A) (hB : 0 ≤ B)
    (rA : P - P * d ≤ A * A) (rB : Q - Q * d ≤ B * B) (rC : C * C ≤ R + R * d) : C ≤ (A + B) * (1 + 1 / 10000000000) := by
  have hAB := Rat.mul_nonneg hA hB
  have e1 : 0 ≤ P - P * d := by have := Rat.mul_le_mul_of_nonneg_left (show d ≤ 1 by grind) hP; grind
  have e2 : 0 ≤ Q - Q * d := by have := Rat.mul_le_mul_of_nonneg_left (show d ≤ 1 by grind) hQ; grind
  have hG1 : G * (1 - d) ≤ A * B := by
    refine rat_le_of_sq hAB ?_
    have h1 := Rat.mul_le_mul_of_nonneg_right rA (show 0 ≤ B * B by exact Rat.mul_nonneg hB hB)
    have h2 := Rat.mul_le_mul_of_nonneg_left rB e1
    have h3 := Rat.mul_le_mul_of_nonneg_right hG (show 0 ≤ (1 - d) * (1 - d) by exact Rat.mul_nonneg (by grind) (by grind))
    grind
  have h4 : R * (1 - d) ≤ (A + B) * (A + B) := by rw [hs]; grind
  refine rat_le_of_sq (Rat.mul_nonneg (by grind) (by grind)) ?_
  have hd2 := Rat.mul_le_mul_of_nonneg_left hd1 hR
  have hS := Rat.mul_nonneg (show 0 ≤ A + B by grind) (show 0 ≤ A + B by grind)
  generalize (A + B) = S at *
  have e3 : S * (1 + 1 / 10000000000) * (S * (1 + 1 / 10000000000)) = S * S * ((1 + 1 / 10000000000) * (1 + 1 / 10000000000)) := by grind
  rw [e3]
  generalize S * S = SS at *
  grind
theorem ord_le {a b : Nat} (ha : Fp.fin a) (hb : Fp.fin b) (h : Fp.val a ≤ Fp.val b) : ord a b = some .lt ∨ ord a b = some .eq := by
  have ho := ord_gt_iff ha hb
  rcases Rat.le_iff_lt_or_eq.1 h with hlt | heq
  · exact .inl (ho.2.2.2 hlt)
  · exact .inr (ho.2.1.2 heq)
theorem ord_ge {a b : Nat} (ha : Fp.fin a) (hb : Fp.fin b) (h : Fp.val b ≤ Fp.val a) : ord a b = some .gt ∨ ord a b = some .eq := by
  have ho := ord_gt_iff ha hb
  rcases Rat.le_iff_lt_or_eq.1 h with hlt | heq
  · exact .inl (ho.1.2 hlt)
  · exact .inr (ho.2.1.2 heq.symm)
/-- a product with a word near 1 -/
theorem mul_rel {a b : Nat} (ha : Fp.fin a) (hb : Fp.fin b) (h : Fp.val a = 0 ∨ 1 / 10000 ≤ Fp.val a ∧ Fp.val a ≤ 1000000) (h1 : 1 / 2 ≤ Fp.val b ∧ Fp.val b ≤ 2) :
    ∃ r, F .mul a b r ∧ Fp.fin r ∧ (Fp.val a = 0 → Fp.val r = 0) ∧ (Fp.val a ≠ 0 → Rel (Fp.val r) (Fp.val a * Fp.val b) (2 / 10000000000000000)) := by
  rcases h with h | ⟨h2, h3⟩
  · obtain ⟨r, hr, hf, hd⟩ := Fp.mul_rd ha hb (by rw [h, Rat.zero_mul]; exact Fp.p2_pos _) (by rw [h, Rat.zero_mul]; have := Fp.p2_pos 1023; grind)
    rw [h, Rat.zero_mul] at hd
    exact ⟨r, hr, hf, fun _ => hd.exact 0 0 (by omega) (by omega) (by rw [show ((0 : Int) : Rat) = 0 from rfl, Rat.zero_mul]), fun k => absurd h k⟩
  · have m1 := Rat.mul_le_mul_of_nonneg_left h1.1 (show 0 ≤ Fp.val a by grind)
    have m2 := Rat.mul_le_mul_of_nonneg_left h1.2 (show 0 ≤ Fp.val a by grind)
    have hb3 := p2_big' (M := 10000000) (by decide +kernel)
    obtain ⟨r, hr, hf, hd⟩ := Fp.mul_rd ha hb (by grind) (by grind)
    exact ⟨r, hr, hf, fun k => by grind, fun _ => rd_rel hd (by grind)⟩
/-- what MeasureTriangle asks -/
structure TriFacts (p q r : Nat) (K : Int) (N : Nat) (m1 d m2 a b c t u : Nat) : Prop where
  h1 : F .mul (floatOfInt .f64 (K * K)) 4607182418800021912 m1
  h2 : F .quo (floatOfInt .f64 (K * K)) (floatOfInt .f64 (N : Int)) d
  h3 : F .mul d 4607182418800008401 m2
  ha : Ieee.double.sqrt r = some a
  hb : Ieee.double.sqrt p = some b
  hc : Ieee.double.sqrt q = some c
  h4 : F .add b c t
  h5 : F .mul t 4607182418804521008 u
  o1 : ord p m1 = some .lt ∨ ord p m1 = some .eq
  o2 : ord p m2 = some .gt ∨ ord p m2 = some .eq
  o3 : ord a u = some .lt ∨ ord a u = some .eq
theorem cw12 : Fp.fin 4607182418800021912 ∧ 1 + 9 / 10000000000000 ≤ Fp.val 4607182418800021912 ∧ Fp.val 4607182418800021912 ≤ 2 := ⟨Fp.fin_rung (by decide +kernel), by decide +kernel, by decide +kernel⟩
theorem cwl : Fp.fin 4607182418800008401 ∧ 1 / 2 ≤ Fp.val 4607182418800008401 ∧ Fp.val 4607182418800008401 ≤ 1 - 9 / 10000000000000 := ⟨Fp.fin_rung (by decide +kernel), by decide +kernel, by decide +kernel⟩
theorem cw9 : Fp.fin 4607182418804521008 ∧ 1 + 9 / 10000000000 ≤ Fp.val 4607182418804521008 ∧ Fp.val 4607182418804521008 ≤ 2 := ⟨Fp.fin_rung (by decide +kernel), by decide +kernel, by decide +kernel⟩
theorem tri_facts {N : Nat} (h0 : 1 ≤ N) (hN : N ≤ 1600) {l1 l2 l3 : List Nat} (e1 : l1.length = N) (e2 : l2.length = N) (b1 : Byts l1) (b2 : Byts l2) (b3 : Byts l3) :
    ∃ m1 d m2 a b c t u, TriFacts (apartP l1 l2) (apartP l2 l3) (apartP l1 l3) (pkK l1 l2 N) N m1 d m2 a b c t u := by
  obtain ⟨fp, cp, P0, P1, P2⟩ := apart_rel e1 b1 b2 h0 hN
  obtain ⟨fq, cq, Q0, Q1, Q2⟩ := apart_rel e2 b2 b3 h0 hN
  obtain ⟨fr, cr, R0, R1, R2⟩ := apart_rel e1 b1 b3 h0 hN
  have hnr : (0 : Rat) < (N : Rat) := by exact_mod_cast h0
  have hn1 : (1 : Rat) ≤ (N : Rat) := by exact_mod_cast h0
  have hn2 : (N : Rat) ≤ 1600 := by exact_mod_cast hN
  obtain ⟨k0, k1⟩ := pkK_le b1 b2 N
  have hpk := sqK_le_peak l1 l2 N N (Nat.le_refl _)
  have hps := peak_share l1 l2 N
  have hsp := sqK_split l1 l2 l3 N
  have hdc := dot_cauchy l1 l2 l3 N
  have sn := sqK_nonneg l1 l2 N
  have hR : ((sqK l1 l3 N : Int) : Rat) / (N : Rat) = ((sqK l1 l2 N : Int) : Rat) / (N : Rat) + ((sqK l2 l3 N : Int) : Rat) / (N : Rat) + 2 * (((dotK l1 l2 l3 N : Int) : Rat) / (N : Rat)) := by
    rw [hsp]; push_cast; rw [Rat.div_def, Rat.div_def, Rat.div_def, Rat.div_def]; grind
  have hG : (((dotK l1 l2 l3 N : Int) : Rat) / (N : Rat)) * (((dotK l1 l2 l3 N : Int) : Rat) / (N : Rat)) ≤ (((sqK l1 l2 N : Int) : Rat) / (N : Rat)) * (((sqK l2 l3 N : Int) : Rat) / (N : Rat)) := by
    have h : ((dotK l1 l2 l3 N : Int) : Rat) * ((dotK l1 l2 l3 N : Int) : Rat) ≤ ((sqK l1 l2 N : Int) : Rat) * ((sqK l2 l3 N : Int) : Rat) := by exact_mod_cast hdc
    have hi : 0 ≤ (N : Rat)⁻¹ * (N : Rat)⁻¹ := Rat.mul_nonneg (Rat.le_of_lt (Rat.inv_pos.2 hnr)) (Rat.le_of_lt (Rat.inv_pos.2 hnr))
    have := Rat.mul_le_mul_of_nonneg_right h hi
    rw [Rat.div_def, Rat.div_def, Rat.div_def]
    grind
  -- the peak's square
  obtain ⟨K, hK⟩ : ∃ K : Nat, pkK l1 l2 N = K := ⟨(pkK l1 l2 N).toNat, by omega⟩
  rw [hK] at hpk hps ⊢
  have hKK : K * K ≤ 255 * 255 := Nat.mul_le_mul (by omega) (by omega)
  rw [show ((K : Int) * (K : Int)) = ((K * K : Nat) : Int) by push_cast; rfl] at hpk hps
  have eKK : ((K : Int) * (K : Int)) = ((K * K : Nat) : Int) := by push_cast; rfl
  have eF : ∀ m1 d m2 a b c t u, TriFacts (apartP l1 l2) (apartP l2 l3) (apartP l1 l3) (K : Int) N m1 d m2 a b c t u ↔ TriFacts (apartP l1 l2) (apartP l2 l3) (apartP l1 l3) (K : Int) N m1 d m2 a b c t u := fun _ _ _ _ _ _ _ _ => Iff.rfl
  clear eF
  obtain ⟨fm, vm⟩ := foi_val (K * K) (by omega)
  obtain ⟨fn, vn⟩ := foi_val N (by omega)
  generalize hM : K * K = M at *
  have hM1 : (M : Rat) ≤ 65025 := by exact_mod_cast hKK
  have hM0 : M ≠ 0 → (1 : Rat) ≤ (M : Rat) := fun h => by exact_mod_cast Nat.pos_of_ne_zero h
  have hPM : ((sqK l1 l2 N : Int) : Rat) / (N : Rat) ≤ (M : Rat) := by
    refine div_le' hnr ?_
    have : ((sqK l1 l2 N : Int) : Rat) ≤ (((N : Int) * (M : Int) : Int) : Rat) := by exact_mod_cast hpk
    push_cast at this
    grind
  have hMP : (M : Rat) / (N : Rat) ≤ ((sqK l1 l2 N : Int) : Rat) / (N : Rat) := by
    have : (((M : Nat) : Int) : Rat) ≤ ((sqK l1 l2 N : Int) : Rat) := by exact_mod_cast hps
    have h2 := Rat.mul_le_mul_of_nonneg_right this (Rat.le_of_lt (Rat.inv_pos.2 hnr))
    rw [Rat.div_def, Rat.div_def]
    exact h2
  have hz : M = 0 → sqK l1 l2 N = 0 := by rintro rfl; simp at hpk; omega
  -- the first product
  have hvm : Fp.val (floatOfInt .f64 (M : Int)) = 0 ∨ 1 / 10000 ≤ Fp.val (floatOfInt .f64 (M : Int)) ∧ Fp.val (floatOfInt .f64 (M : Int)) ≤ 1000000 := by
    rw [vm]
    by_cases h : M = 0
    · left; subst h; rfl
    · right; have := hM0 h; constructor <;> grind
  obtain ⟨m1, hm1, fm1, zm1, rm1⟩ := mul_rel fm cw12.1 hvm (by have := cw12.2; constructor <;> grind)
  rw [vm] at zm1 rm1
  have x0 : 0 ≤ (M : Rat) / (N : Rat) := le_div' hnr (by rw [Rat.zero_mul]; exact_mod_cast Nat.zero_le M)
  have x1 : (M : Rat) / (N : Rat) ≤ 65025 := by grind
  obtain ⟨d, v, hd, fd, qd, rd⟩ := Fp.div_rd fm fn (by rw [vn]; exact Rat.ne_of_gt hnr) (by rw [vm, vn]; have := p2_big (M := 65026) (by decide +kernel); grind) (by rw [vm, vn]; have := Fp.p2_pos 1022; grind)
  rw [vm, vn] at qd
  have hdv : M = 0 ∧ Fp.val d = 0 ∨ M ≠ 0 ∧ 1 / 1600 ≤ (M : Rat) / (N : Rat) ∧ Rel (Fp.val d) ((M : Rat) / (N : Rat)) (1 / 1000000000000000) := by
    by_cases h : M = 0
    · left
      refine ⟨h, ?_⟩
      subst h
      have e : ((0 : Nat) : Rat) / (N : Rat) = 0 := by rw [Rat.div_def, show ((0 : Nat) : Rat) = 0 from rfl, Rat.zero_mul]
      rw [e] at qd
      have hv : v = 0 := qd.exact 0 (by omega) rfl
      subst hv
      exact rd.exact 0 0 (by omega) (by omega) (by rw [show ((0 : Int) : Rat) = 0 from rfl, Rat.zero_mul])
    · right
      have hm := hM0 h
      have hlo : 1 / 1600 ≤ (M : Rat) / (N : Rat) := le_div' hnr (by grind)
      refine ⟨h, hlo, ?_⟩
      generalize (M : Rat) / (N : Rat) = x at *
      have k1 := nq_rel qd x0
      unfold Rel at k1
      have k2 := rd_rel rd (by grind)
      unfold Rel at k2 ⊢
      constructor <;> grind
  obtain ⟨m2, hm2, fm2, zm2, rm2⟩ := mul_rel fd cwl.1 (by
    rcases hdv with ⟨_, h⟩ | ⟨_, h, k⟩
    · exact .inl h
    · unfold Rel at k; right; constructor <;> grind) (by have := cwl.2; constructor <;> grind)
  -- the roots
  have root : ∀ {x : Nat} {S : Int}, Fp.fin x → (S = 0 ∧ Fp.val x = 0 ∨ 1 ≤ S ∧ Rel (Fp.val x) ((S : Rat) / (N : Rat)) (1 / 1000000000000000)) → 0 ≤ (S : Rat) / (N : Rat) → (S : Rat) / (N : Rat) ≤ 65025 → (1 ≤ S → 1 / 1600 ≤ (S : Rat) / (N : Rat)) →
      ∃ r, Ieee.double.sqrt x = some r ∧ Fp.fin r ∧ 0 ≤ Fp.val r ∧ Fp.val r ≤ 300 ∧ (Fp.val r = 0 ∨ 1 / 100 ≤ Fp.val r) ∧ (S : Rat) / (N : Rat) - (S : Rat) / (N : Rat) * (3 / 1000000000000000) ≤ Fp.val r * Fp.val r ∧ Fp.val r * Fp.val r ≤ (S : Rat) / (N : Rat) + (S : Rat) / (N : Rat) * (3 / 1000000000000000) := by
    intro x S fx cx s0 s1 s2
    rcases cx with ⟨hS, hx⟩ | ⟨hS, hx⟩
    · obtain ⟨r, hr, hf, r0, r3, rz, _, rr⟩ := root_rel fx (.inl hx)
      refine ⟨r, hr, hf, r0, r3, .inl (rz hx), ?_⟩
      have e : (S : Rat) / (N : Rat) = 0 := by rw [hS, Rat.div_def, show ((0 : Int) : Rat) = 0 from rfl, Rat.zero_mul]
      rw [e, rz hx]
      constructor <;> grind
    · have lo := s2 hS
      unfold Rel at hx
      generalize (S : Rat) / (N : Rat) = y at *
      have m1 := Rat.mul_le_mul_of_nonneg_left (show (1 : Rat) / 1000000000000000 ≤ 1 / 1000 by decide +kernel) s0
      obtain ⟨r, hr, hf, r0, r3, _, rn, rr⟩ := root_rel fx (.inr ⟨by grind, by grind⟩)
      refine ⟨r, hr, hf, r0, r3, .inr (rn (by grind)), ?_⟩
      unfold Rel at rr
      constructor <;> grind
  obtain ⟨a, ha, fa, a0, a3, az, aa⟩ := root fr cr R0 R1 R2
  obtain ⟨b, hb, fb, b0, b3, bz, bb⟩ := root fp cp P0 P1 P2
  obtain ⟨c, hc, fc, c0, c3, cz, cc⟩ := root fq cq Q0 Q1 Q2
  have tri := triangle_real (d := 3 / 1000000000000000) (by decide +kernel) P0 Q0 R0 hG hR b0 c0 bb.1 cc.1 aa.2
  obtain ⟨t, ht, ft, dt⟩ := Fp.add_rd fb fc (by have := p2_big' (M := 700) (by decide +kernel); grind) (by have := Fp.p2_pos 1023; grind)
  have htz : Fp.val b + Fp.val c = 0 ∧ Fp.val t = 0 ∨ 1 / 100 ≤ Fp.val b + Fp.val c ∧ Rel (Fp.val t) (Fp.val b + Fp.val c) (2 / 10000000000000000) := by
    by_cases h : Fp.val b + Fp.val c = 0
    · left
      refine ⟨h, ?_⟩
      rw [h] at dt
      exact dt.exact 0 0 (by omega) (by omega) (by rw [show ((0 : Int) : Rat) = 0 from rfl, Rat.zero_mul])
    · right
      have : 1 / 100 ≤ Fp.val b + Fp.val c := by rcases bz with h1 | h1 <;> rcases cz with h2 | h2 <;> grind
      exact ⟨this, rd_rel dt (by grind)⟩
  obtain ⟨u, hu, fu, zu, ru⟩ := mul_rel ft cw9.1 (by
    rcases htz with ⟨_, h⟩ | ⟨h, k⟩
    · exact .inl h
    · unfold Rel at k; right; constructor <;> grind) (by have := cw9.2; constructor <;> grind)
  refine ⟨m1, d, m2, a, b, c, t, u, ⟨by rw [eKK]; exact hm1, by rw [eKK]; exact hd, hm2, ha, hb, hc, ht, hu, ord_le fp fm1 ?_, ord_ge fp fm2 ?_, ord_le fa fu ?_⟩⟩
  · by_cases h : M = 0
    · have hs := hz h
      rcases cp with ⟨_, k⟩ | ⟨k, _⟩
      · rw [k, zm1 (by subst h; rfl)]; exact Rat.le_refl
      · omega
    · have hm := hM0 h
      have k := rm1 (by grind)
      have c12 := Rat.mul_le_mul_of_nonneg_left cw12.2.1 (show (0 : Rat) ≤ (M : Rat) by grind)
      unfold Rel at k
      have hp : Fp.val (apartP l1 l2) ≤ (M : Rat) + (M : Rat) * (1 / 1000000000000000) := by
        rcases cp with ⟨_, k⟩ | ⟨_, k⟩
        · rw [k]; grind
        · unfold Rel at k; grind
      generalize (M : Rat) * Fp.val 4607182418800021912 = z at *
      grind
  · rcases hdv with ⟨h, hv⟩ | ⟨h, lo, hv⟩
    · rw [zm2 hv]
      rcases cp with ⟨_, k⟩ | ⟨h1, k⟩
      · rw [k]; exact Rat.le_refl
      · unfold Rel at k
        have := P2 h1
        grind
    · have h1 : 1 ≤ sqK l1 l2 N := by
        rcases Int.lt_or_le 0 (sqK l1 l2 N) with h1 | h1
        · omega
        · exfalso
          have : M ≤ 0 := by omega
          omega
      rcases cp with ⟨h2, _⟩ | ⟨_, k⟩
      · omega
      · unfold Rel at k hv
        have hd0 : 0 ≤ Fp.val d := by grind
        have cl := Rat.mul_le_mul_of_nonneg_left cwl.2.2 hd0
        have k2 := rm2 (by grind)
        unfold Rel at k2
        have cl0 : 0 ≤ Fp.val d * Fp.val 4607182418800008401 := Rat.mul_nonneg hd0 (by have := cwl.2.1; grind)
        generalize Fp.val d * Fp.val 4607182418800008401 = z at *
        grind
  · rcases htz with ⟨h, hv⟩ | ⟨h, hv⟩
    · rw [zu hv]
      rw [h] at tri
      grind
    · unfold Rel at hv
      have ht0 : 0 ≤ Fp.val t := by grind
      have cl := Rat.mul_le_mul_of_nonneg_left cw9.2.1 ht0
      have k2 := ru (by grind)
      unfold Rel at k2
      generalize Fp.val t * Fp.val 4607182418804521008 = z at *
      generalize Fp.val b + Fp.val c = y at *
      grind
end Go.Proofs.Ytfaciljklligeaa.Ct
