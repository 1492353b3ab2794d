/- How much a tile is alike, in doubles: every step is a number, and how near it is. -/
import Derived.Test.YtfaciljklligeaaTl
namespace Go.Proofs.Ytfaciljklligeaa.Ct
open Go.ChangeShapes Go.WideShapes Go.RowKit Mm
def Near (a A d : Rat) : Prop := a - A ≤ d ∧ A - a ≤ d
theorem prod_le {x y α d : Rat} (hx : -α ≤ x ∧ x ≤ α) (hy : -d ≤ y ∧ y ≤ d) : x * y ≤ α * d ∧ -(x * y) ≤ α * d := by
  have h1 := Rat.mul_nonneg (show 0 ≤ α - x by grind) (show 0 ≤ d + y by grind)
  have h2 := Rat.mul_nonneg (show 0 ≤ α + x by grind) (show 0 ≤ d - y by grind)
  have h3 := Rat.mul_nonneg (show 0 ≤ α - x by grind) (show 0 ≤ d - y by grind)
  have h4 := Rat.mul_nonneg (show 0 ≤ α + x by grind) (show 0 ≤ d + y by grind)
  constructor <;> grind
theorem near_mul {a A b B da db α β : Rat} (ha : Near a A da) (hb : Near b B db) (h1 : -α ≤ A ∧ A ≤ α) (h2 : -β ≤ B ∧ B ≤ β) : Near (a * b) (A * B) (α * db + β * da + da * db) := by
  have p1 := prod_le h1 (show -db ≤ b - B ∧ b - B ≤ db by unfold Near at hb; grind)
  have p2 := prod_le h2 (show -da ≤ a - A ∧ a - A ≤ da by unfold Near at ha; grind)
  have p3 := prod_le (show -da ≤ a - A ∧ a - A ≤ da by unfold Near at ha; grind) (show -db ≤ b - B ∧ b - B ≤ db by unfold Near at hb; grind)
  have e : a * b - A * B = A * (b - B) + B * (a - A) + (a - A) * (b - B) := by grind
  unfold Near
  constructor <;> grind
theorem near_tri {a b c d e : Rat} (h : Near a b d) (k : Near b c e) : Near a c (d + e) := by unfold Near at *; constructor <;> grind
theorem near_le {a b d e : Rat} (h : Near a b d) (k : d ≤ e) : Near a b e := by unfold Near at *; constructor <;> grind
theorem near_add {a A b B d e : Rat} (h : Near a A d) (k : Near b B e) : Near (a + b) (A + B) (d + e) := by unfold Near at *; constructor <;> grind
theorem near_sub {a A b B d e : Rat} (h : Near a A d) (k : Near b B e) : Near (a - b) (A - B) (d + e) := by unfold Near at *; constructor <;> grind
theorem near_self (a : Rat) : Near a a 0 := by unfold Near; constructor <;> grind
/-- a rounding -/
def eps : Rat := 13 / 100000000000000000
theorem rd_near {y x M : Rat} (h : Fp.Rd y x) (h1 : -M ≤ x ∧ x ≤ M) (hM : 1 ≤ M) : Near y x (M * eps) := by
  have a2 : Fp.p2 (-53) ≤ 12 / 100000000000000000 := by decide +kernel
  have a3 : Fp.p2 (-1075) ≤ 1 / 100000000000000000 := by decide +kernel
  have a4 := Fp.p2_pos (-53)
  unfold Near eps
  rcases Rat.le_total (a := 0) (b := x) with hx | hx
  · have k := h.pos hx
    have b2 := Rat.mul_le_mul_of_nonneg_left a2 hx
    constructor <;> grind
  · have k := h.neg hx
    have b2 := Rat.mul_le_mul_of_nonneg_left a2 (show 0 ≤ -x by grind)
    constructor <;> grind
theorem p2_big {M : Rat} (hM : M ≤ 1000000000000000000) : M < Fp.p2 1022 := by
  have h1 : Fp.p2 60 < Fp.p2 1022 := Fp.p2_lt (by omega)
  have h2 : Fp.p2 60 = 1152921504606846976 := by decide +kernel
  grind
theorem p2_big' {M : Rat} (hM : M ≤ 1000000000000000000) : M < Fp.p2 1023 := by
  have h1 : Fp.p2 60 < Fp.p2 1023 := Fp.p2_lt (by omega)
  have h2 : Fp.p2 60 = 1152921504606846976 := by decide +kernel
  grind
section
variable {a b : Nat} (ha : Fp.fin a) (hb : Fp.fin b) (M : Rat) (hM : 1 ≤ M) (hM2 : M ≤ 1000000000000000000)
include ha hb hM hM2
theorem add_near (h : -M ≤ Fp.val a + Fp.val b ∧ Fp.val a + Fp.val b ≤ M) : ∃ r, floatBits .add .f64 a b = some r ∧ Fp.fin r ∧ Near (Fp.val r) (Fp.val a + Fp.val b) (M * eps) := by
  have hp := p2_big' hM2
  obtain ⟨r, hr, hf, hd⟩ := Fp.add_rd ha hb (by grind) (by grind)
  exact ⟨r, hr, hf, rd_near hd h hM⟩
theorem sub_near (h : -M ≤ Fp.val a - Fp.val b ∧ Fp.val a - Fp.val b ≤ M) : ∃ r, floatBits .sub .f64 a b = some r ∧ Fp.fin r ∧ Near (Fp.val r) (Fp.val a - Fp.val b) (M * eps) := by
  have hp := p2_big' hM2
  obtain ⟨r, hr, hf, hd⟩ := Fp.sub_rd ha hb (by grind) (by grind)
  exact ⟨r, hr, hf, rd_near hd h hM⟩
theorem mul_near (h : -M ≤ Fp.val a * Fp.val b ∧ Fp.val a * Fp.val b ≤ M) : ∃ r, floatBits .mul .f64 a b = some r ∧ Fp.fin r ∧ Near (Fp.val r) (Fp.val a * Fp.val b) (M * eps) := by
  have hp := p2_big' hM2
  obtain ⟨r, hr, hf, hd⟩ := Fp.mul_rd ha hb (by grind) (by grind)
  exact ⟨r, hr, hf, rd_near hd h hM⟩
theorem div_near (h0 : Fp.val b ≠ 0) (h : -M ≤ Fp.val a / Fp.val b ∧ Fp.val a / Fp.val b ≤ M) : ∃ r, floatBits .quo .f64 a b = some r ∧ Fp.fin r ∧ Near (Fp.val r) (Fp.val a / Fp.val b) (3 * M * eps) := by
  have hp := p2_big hM2
  obtain ⟨r, v, hr, hf, hq, hd⟩ := Fp.div_rd ha hb h0 (by grind) (by grind)
  refine ⟨r, hr, hf, ?_⟩
  generalize Fp.val a / Fp.val b = x at *
  have a1 : Fp.p2 (-54) ≤ eps := by decide +kernel
  have a1' := Fp.p2_pos (-54)
  have e0 : eps ≤ 1 := by decide +kernel
  have hv : Near v x (M * eps) := by
    unfold Near
    rcases Rat.le_total (a := 0) (b := x) with hx | hx
    · have k := hq.pos hx
      have b2 := Rat.mul_le_mul_of_nonneg_left a1 hx
      have b3 := Rat.mul_le_mul_of_nonneg_right h.2 (show 0 ≤ eps by decide +kernel)
      constructor <;> grind
    · have k := hq.neg hx
      have b2 := Rat.mul_le_mul_of_nonneg_left a1 (show 0 ≤ -x by grind)
      have b3 := Rat.mul_le_mul_of_nonneg_right (show -x ≤ M by grind) (show 0 ≤ eps by decide +kernel)
      constructor <;> grind
  have hme : M * eps ≤ M * 1 := Rat.mul_le_mul_of_nonneg_left e0 (by grind)
  have hv2 := rd_near hd (M := 2 * M) (by unfold Near at hv; constructor <;> grind) (by grind)
  exact near_le (near_tri hv2 hv) (by grind)
end
/-- a whole number's quotient -/
theorem quo_int (s n : Nat) (h0 : 1 ≤ n) (hn : n ≤ 64) (K : Nat) (hK : 1 ≤ K) (hK2 : K ≤ 65025) (hs : s ≤ K * n) :
    ∃ r, floatBits .quo .f64 (floatOfInt .f64 (s : Int)) (floatOfInt .f64 (n : Int)) = some r ∧ Fp.fin r ∧ Near (Fp.val r) ((s : Rat) / (n : Rat)) (3 * K * eps) ∧ 0 ≤ (s : Rat) / (n : Rat) ∧ (s : Rat) / (n : Rat) ≤ K := by
  have hkn : K * n ≤ 65025 * 64 := Nat.mul_le_mul hK2 hn
  obtain ⟨f1, v1⟩ := foi_val s (by omega)
  obtain ⟨f2, v2⟩ := foi_val n (by omega)
  have hnr : (0 : Rat) < (n : Rat) := by exact_mod_cast h0
  have x0 : 0 ≤ (s : Rat) / (n : Rat) := by
    refine le_div' hnr ?_
    rw [Rat.zero_mul]
    exact_mod_cast Nat.zero_le s
  have x1 : (s : Rat) / (n : Rat) ≤ K := by
    refine div_le' hnr ?_
    exact_mod_cast hs
  have k1 : (1 : Rat) ≤ (K : Rat) := by exact_mod_cast hK
  have k2 : (K : Rat) ≤ 65025 := by exact_mod_cast hK2
  obtain ⟨r, hr, hf, hd⟩ := div_near f1 f2 (K : Rat) k1 (by grind) (by rw [v2]; grind) (by rw [v1, v2]; constructor <;> grind)
  rw [v1, v2] at hd
  exact ⟨r, hr, hf, hd, x0, x1⟩
end Go.Proofs.Ytfaciljklligeaa.Ct
