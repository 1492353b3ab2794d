/- The logarithm's polynomial: it grows; it is near where its argument is near; it adds up. -/
import Derived.Test.YtfaciljklligeaaLn
namespace Go.Proofs.Ytfaciljklligeaa.Ct
open Go.ChangeShapes Go.WideShapes Go.RowKit Mm
theorem sqr_nonneg (s : Rat) : 0 ≤ s * s := by
  rcases Rat.le_total (a := 0) (b := s) with h | h
  · exact Rat.mul_nonneg h h
  · have := Rat.mul_nonneg (show 0 ≤ -s by grind) (show 0 ≤ -s by grind); grind
theorem odd_nonneg {s : Rat} (hs : 0 ≤ s) (l : List Rat) (h : ∀ c ∈ l, 0 ≤ c) : 0 ≤ odd s l := by
  induction l with
  | nil => simp [odd]
  | cons c l ih =>
    simp only [odd]
    have h1 := Rat.mul_nonneg (h c (by simp)) hs
    have h2 := Rat.mul_nonneg (sqr_nonneg s) (ih (fun c hc => h c (by simp [hc])))
    grind
theorem odd_mono0 {s t : Rat} (hs : 0 ≤ s) (hst : s ≤ t) (l : List Rat) (h : ∀ c ∈ l, 0 ≤ c) : odd s l ≤ odd t l := by
  induction l with
  | nil => simp [odd]
  | cons c l ih =>
    simp only [odd]
    have h1 := Rat.mul_le_mul_of_nonneg_left hst (h c (by simp))
    have h2 := ih (fun c hc => h c (by simp [hc]))
    have h3 := odd_nonneg (show 0 ≤ t by grind) l (fun c hc => h c (by simp [hc]))
    have h4 : s * s ≤ t * t := by
      have a := Rat.mul_le_mul_of_nonneg_left hst hs
      have b := Rat.mul_le_mul_of_nonneg_right hst (show 0 ≤ t by grind)
      grind
    have h5 := Rat.mul_le_mul_of_nonneg_left h2 (sqr_nonneg s)
    have h6 := Rat.mul_le_mul_of_nonneg_right h4 h3
    grind
theorem odd_neg (s : Rat) (l : List Rat) : odd (-s) l = - odd s l := by
  induction l with
  | nil => simp [odd]
  | cons c l ih => simp only [odd]; rw [ih]; grind
theorem tco_nonneg : ∀ c ∈ tco, 0 ≤ c := by decide +kernel
theorem TT_mono {s t : Rat} (h : s ≤ t) : TT s ≤ TT t := by
  rw [← odd_TT, ← odd_TT]
  rcases Rat.le_total (a := 0) (b := s) with h0 | h0
  · exact odd_mono0 h0 h tco tco_nonneg
  · rcases Rat.le_total (a := 0) (b := t) with h1 | h1
    · have a := odd_nonneg (show 0 ≤ -s by grind) tco tco_nonneg
      have b := odd_nonneg h1 tco tco_nonneg
      rw [odd_neg] at a
      grind
    · have a := odd_mono0 (show 0 ≤ -t by grind) (show -t ≤ -s by grind) tco tco_nonneg
      rw [odd_neg, odd_neg] at a
      grind
theorem near_mulD {a b A B da db α β δ : Rat} (na : Near a A da) (nb : Near b B db) (hA : -α ≤ A ∧ A ≤ α) (hB : -β ≤ B ∧ B ≤ β) (h : decide (α * db + β * da + da * db ≤ δ) = true) : Near (a * b) (A * B) δ :=
  near_le (near_mul na nb hA hB) (of_decide_eq_true h)
theorem near_addD {a b A B da db δ : Rat} (na : Near a A da) (nb : Near b B db) (h : decide (da + db ≤ δ) = true) : Near (a + b) (A + B) δ :=
  near_le (near_add na nb) (of_decide_eq_true h)
/-- near arguments, near answers -/
theorem TT_near {s t : Rat} (n : Near s t (1 / 100000000000000)) (ht : -(2 / 10) ≤ t ∧ t ≤ 2 / 10) : Near (TT s) (TT t) (1 / 1000000000000) := by
  have k1 : -1 ≤ cval K1 ∧ cval K1 ≤ 1 := by decide +kernel
  have k2 : -1 ≤ cval K2 ∧ cval K2 ≤ 1 := by decide +kernel
  have k3 : -1 ≤ cval K3 ∧ cval K3 ≤ 1 := by decide +kernel
  have k4 : -1 ≤ cval K4 ∧ cval K4 ≤ 1 := by decide +kernel
  have k5 : -1 ≤ cval K5 ∧ cval K5 ≤ 1 := by decide +kernel
  have k6 : -1 ≤ cval K6 ∧ cval K6 ≤ 1 := by decide +kernel
  have k7 : -1 ≤ cval K7 ∧ cval K7 ≤ 1 := by decide +kernel
  unfold TT polyR
  generalize cval K1 = c1 at *
  generalize cval K2 = c2 at *
  generalize cval K3 = c3 at *
  generalize cval K4 = c4 at *
  generalize cval K5 = c5 at *
  generalize cval K6 = c6 at *
  generalize cval K7 = c7 at *
  have nz : Near (s * s) (t * t) (1 / 100000000000000) := near_mulD n n ht ht (by decide +kernel)
  have bz : -(1 / 10) ≤ t * t ∧ t * t ≤ 1 / 10 := prod_b ht ht (by decide +kernel)
  generalize s * s = z at *
  generalize t * t = y at *
  have nw : Near (z * z) (y * y) (1 / 100000000000000) := near_mulD nz nz bz bz (by decide +kernel)
  have bw : -(1 / 100) ≤ y * y ∧ y * y ≤ 1 / 100 := prod_b bz bz (by decide +kernel)
  generalize z * z = w at *
  generalize y * y = v at *
  have a1 : -2 ≤ c5 + v * c7 ∧ c5 + v * c7 ≤ 2 := plus_b k5 (prod_b bw k7 (γ := 1 / 100) (by decide +kernel)) (by decide +kernel)
  have n1 : Near (c5 + w * c7) (c5 + v * c7) (2 / 100000000000000) := near_addD (near_self c5) (near_mulD nw (near_self c7) bw k7 (δ := 2 / 100000000000000) (by decide +kernel)) (by decide +kernel)
  have a2 : -2 ≤ c3 + v * (c5 + v * c7) ∧ c3 + v * (c5 + v * c7) ≤ 2 := plus_b k3 (prod_b bw a1 (γ := 2 / 100) (by decide +kernel)) (by decide +kernel)
  have n2 : Near (c3 + w * (c5 + w * c7)) (c3 + v * (c5 + v * c7)) (3 / 100000000000000) := near_addD (near_self c3) (near_mulD nw n1 bw a1 (δ := 3 / 100000000000000) (by decide +kernel)) (by decide +kernel)
  have a3 : -2 ≤ c1 + v * (c3 + v * (c5 + v * c7)) ∧ c1 + v * (c3 + v * (c5 + v * c7)) ≤ 2 := plus_b k1 (prod_b bw a2 (γ := 2 / 100) (by decide +kernel)) (by decide +kernel)
  have n3 : Near (c1 + w * (c3 + w * (c5 + w * c7))) (c1 + v * (c3 + v * (c5 + v * c7))) (4 / 100000000000000) := near_addD (near_self c1) (near_mulD nw n2 bw a2 (δ := 4 / 100000000000000) (by decide +kernel)) (by decide +kernel)
  have a4 := prod_b bz a3 (γ := 2 / 10) (by decide +kernel)
  have n4 := near_mulD nz n3 bz a3 (δ := 5 / 100000000000000) (by decide +kernel)
  have b1 : -2 ≤ c4 + v * c6 ∧ c4 + v * c6 ≤ 2 := plus_b k4 (prod_b bw k6 (γ := 1 / 100) (by decide +kernel)) (by decide +kernel)
  have m1 : Near (c4 + w * c6) (c4 + v * c6) (2 / 100000000000000) := near_addD (near_self c4) (near_mulD nw (near_self c6) bw k6 (δ := 2 / 100000000000000) (by decide +kernel)) (by decide +kernel)
  have b2 : -2 ≤ c2 + v * (c4 + v * c6) ∧ c2 + v * (c4 + v * c6) ≤ 2 := plus_b k2 (prod_b bw b1 (γ := 2 / 100) (by decide +kernel)) (by decide +kernel)
  have m2 : Near (c2 + w * (c4 + w * c6)) (c2 + v * (c4 + v * c6)) (3 / 100000000000000) := near_addD (near_self c2) (near_mulD nw m1 bw b1 (δ := 3 / 100000000000000) (by decide +kernel)) (by decide +kernel)
  have b3 := prod_b bw b2 (γ := 2 / 100) (by decide +kernel)
  have m3 := near_mulD nw m2 bw b2 (δ := 5 / 100000000000000) (by decide +kernel)
  have n5 := near_addD n4 m3 (δ := 10 / 100000000000000) (by decide +kernel)
  have p5 := plus_b a4 b3 (γ := 1) (by decide +kernel)
  have n6 := near_addD (near_self (2 : Rat)) n5 (δ := 10 / 100000000000000) (by decide +kernel)
  have p6 := plus_b (x := 2) (α := 2) ⟨by decide +kernel, by decide +kernel⟩ p5 (γ := 3) (by decide +kernel)
  exact near_mulD n n6 ht p6 (by decide +kernel)
/-- it adds up, but for little -/
theorem TT_add {c b v : Rat} (hv : -b ≤ v ∧ v ≤ b) (h : (decide (pabs (restP c) b ≤ 1 / 10000000000000) && decide (-(1 / 100) ≤ c * b) && decide (c * b ≤ 1 / 100)) = true) : Near (TT ((c + v) / (1 + c * v))) (TT c + TT v) (1 / 1000000000000) := by
  simp only [Bool.and_eq_true, decide_eq_true_eq] at h
  obtain ⟨⟨h1, h2⟩, h3⟩ := h
  have hcv : -(1 / 100) ≤ c * v ∧ c * v ≤ 1 / 100 := by
    rcases Rat.le_total (a := 0) (b := c) with hc | hc
    · have a1 := Rat.mul_le_mul_of_nonneg_left hv.1 hc
      have a2 := Rat.mul_le_mul_of_nonneg_left hv.2 hc
      constructor <;> grind
    · have a1 := Rat.mul_le_mul_of_nonneg_left hv.1 (show 0 ≤ -c by grind)
      have a2 := Rat.mul_le_mul_of_nonneg_left hv.2 (show 0 ≤ -c by grind)
      constructor <;> grind
  have he := rest_eq c v (by grind)
  have hp := pev_le (restP c) hv
  rw [he] at hp
  generalize TT ((c + v) / (1 + c * v)) = X at *
  generalize TT c = Y at *
  generalize TT v = Z at *
  obtain ⟨e, he2⟩ : ∃ e, e = (1 + c * v) * (1 + c * v) := ⟨_, rfl⟩
  have e1 : 98 / 100 ≤ e := by
    have := Rat.mul_nonneg (show 0 ≤ 1 + c * v - 99 / 100 by grind) (show 0 ≤ 1 + c * v + 99 / 100 by grind)
    grind
  rw [← he2] at hp
  obtain ⟨f, hf⟩ : ∃ f, f = e * e := ⟨_, rfl⟩
  have f1 : 96 / 100 ≤ f := by
    have := Rat.mul_nonneg (show 0 ≤ e - 98 / 100 by grind) (show 0 ≤ e + 98 / 100 by grind)
    grind
  obtain ⟨g, hg⟩ : ∃ g, g = f * f := ⟨_, rfl⟩
  have g1 : 92 / 100 ≤ g := by
    have := Rat.mul_nonneg (show 0 ≤ f - 96 / 100 by grind) (show 0 ≤ f + 96 / 100 by grind)
    grind
  have g2 : 1 / 2 ≤ g * g := by
    have := Rat.mul_nonneg (show 0 ≤ g - 92 / 100 by grind) (show 0 ≤ g + 92 / 100 by grind)
    grind
  have e8 : e ^ 8 = g * g := by rw [hg, hf]; simp only [Rat.pow_succ, Rat.pow_zero]; grind
  rw [e8] at hp
  generalize g * g = P at *
  generalize hD : X - Y - Z = D at *
  have hD2 : -(2 / 10000000000000) ≤ D ∧ D ≤ 2 / 10000000000000 := by
    constructor
    · refine Rat.not_lt.1 fun k => ?_
      have := Rat.mul_lt_mul_of_pos_right k (show 0 < P by grind)
      grind
    · refine Rat.not_lt.1 fun k => ?_
      have := Rat.mul_lt_mul_of_pos_right k (show 0 < P by grind)
      grind
  unfold Near
  constructor <;> grind
def sq (m : Rat) : Rat := (m - 1) / (m + 1)
theorem sq_shift {m n : Rat} (hm : 0 < m) (hn : 0 < n) : (sq n + (m - n) / (m + n)) / (1 + sq n * ((m - n) / (m + n))) = sq m := by
  have e1 : (m - n) / (m + n) * (m + n) = m - n := Rat.div_mul_cancel (by grind)
  have e2 : sq n * (n + 1) = n - 1 := Rat.div_mul_cancel (by grind)
  have e3 : sq m * (m + 1) = m - 1 := Rat.div_mul_cancel (by grind)
  generalize (m - n) / (m + n) = v at *
  generalize sq n = c at *
  generalize sq m = s at *
  have hp : 0 < (m + n) * (n + 1) := Rat.mul_pos (by grind) (by grind)
  have hnm := Rat.mul_pos hn (show 0 < m + 1 by grind)
  have k1 : (1 + c * v) * ((m + n) * (n + 1)) = 2 * n * (m + 1) := by
    have : c * v * ((m + n) * (n + 1)) = (c * (n + 1)) * (v * (m + n)) := by grind
    rw [Rat.add_mul, this, e1, e2]; grind
  have k2 : (c + v) * ((m + n) * (n + 1)) = 2 * n * (m - 1) := by
    have : (c + v) * ((m + n) * (n + 1)) = (c * (n + 1)) * (m + n) + (v * (m + n)) * (n + 1) := by grind
    rw [this, e1, e2]; grind
  have hne : 1 + c * v ≠ 0 := by
    intro h
    rw [h] at k1
    grind
  have k3 : c + v = s * (1 + c * v) := by
    refine Fp.mulc (Rat.ne_of_gt hp) ?_
    have : s * (1 + c * v) * ((m + n) * (n + 1)) = s * ((1 + c * v) * ((m + n) * (n + 1))) := by grind
    rw [this, k1, k2]
    grind
  rw [k3, Rat.div_def, Rat.mul_assoc, Rat.mul_inv_cancel _ hne, Rat.mul_one]
theorem sq_mono {m n : Rat} (hm : 0 < m) (h : m ≤ n) : sq m ≤ sq n := by
  have e2 : sq n * (n + 1) = n - 1 := Rat.div_mul_cancel (by grind)
  refine div_le' (show 0 < m + 1 by grind) ?_
  have h1 : 0 < n + 1 := by grind
  refine Rat.le_of_mul_le_mul_right (c := n + 1) ?_ h1
  have : sq n * (m + 1) * (n + 1) = (sq n * (n + 1)) * (m + 1) := by grind
  rw [this, e2]
  grind
/-- sq of near numbers -/
theorem sq_near {m n : Rat} (hm : 1 / 2 ≤ m) (hn : 1 / 2 ≤ n) (h : Near m n (1 / 1000000000000000)) : Near (sq m) (sq n) (1 / 100000000000000) := by
  have e1 : sq m * (m + 1) = m - 1 := Rat.div_mul_cancel (by grind)
  have e2 : sq n * (n + 1) = n - 1 := Rat.div_mul_cancel (by grind)
  unfold Near at *
  have hp : 1 ≤ (m + 1) * (n + 1) := by
    have := Rat.mul_nonneg (show 0 ≤ m by grind) (show 0 ≤ n by grind)
    grind
  generalize sq m = a at *
  generalize sq n = b at *
  have k : (a - b) * ((m + 1) * (n + 1)) = 2 * (m - n) := by
    have : (a - b) * ((m + 1) * (n + 1)) = (a * (m + 1)) * (n + 1) - (b * (n + 1)) * (m + 1) := by grind
    rw [this, e1, e2]; grind
  generalize (m + 1) * (n + 1) = P at *
  constructor
  · refine Rat.not_lt.1 fun q => ?_
    have := Rat.mul_lt_mul_of_pos_right q (show 0 < P by grind)
    grind
  · refine Rat.not_lt.1 fun q => ?_
    have := Rat.mul_lt_mul_of_pos_right q (show 0 < P by grind)
    grind
end Go.Proofs.Ytfaciljklligeaa.Ct
