/- TopApart's plain law: the mean square is symmetric, not below 0, and at most the peak's square. -/
import Derived.Test.YtfaciljklligeaaSi
namespace Go.Proofs.Ytfaciljklligeaa.Ct
open Go.ChangeShapes Go.WideShapes Go.RowKit Mm
theorem sqK_symm (l l2 : List Nat) (k : Nat) : sqK l l2 k = sqK l2 l k := by
  induction k with
  | zero => rfl
  | succ k ih =>
    unfold sqK
    rw [ih]
    congr 1
    unfold dI
    rw [← Int.neg_mul_neg, Int.neg_sub]
theorem apartP_symm {l l2 : List Nat} (h : l.length = l2.length) : apartP l l2 = apartP l2 l := by unfold apartP; rw [sqK_symm, h]
theorem pkK_symm (l l2 : List Nat) (k : Nat) : pkK l l2 k = pkK l2 l k := by
  induction k with
  | zero => rfl
  | succ k ih =>
    unfold pkK
    rw [ih]
    unfold dI
    omega
theorem pairE_symm (W H C : Int) (n : Nat) (W2 H2 C2 : Int) (n2 : Nat) : pairE W H C n W2 H2 C2 n2 = pairE W2 H2 C2 n2 W H C n := by
  unfold pairE
  rw [Bool.and_comm]
  congr 1
  by_cases h : W = W2 ∧ H = H2 ∧ C = C2
  · rw [if_pos h, if_pos ⟨h.1.symm, h.2.1.symm, h.2.2.symm⟩]
  · rw [if_neg h, if_neg (fun k => h ⟨k.1.symm, k.2.1.symm, k.2.2.symm⟩)]
/-- every square is at most the peak's -/
theorem sqK_peak (l l2 : List Nat) (k : Nat) : pkK l l2 k ≤ pkK l l2 (k + 1) ∧ dI l l2 k * dI l l2 k ≤ pkK l l2 (k + 1) * pkK l l2 (k + 1) := by
  have h0 : 0 ≤ pkK l l2 k := by
    induction k with
    | zero => simp [pkK]
    | succ k ih => unfold pkK; omega
  have hs : pkK l l2 (k + 1) = max (pkK l l2 k) (max (dI l l2 k) (- dI l l2 k)) := rfl
  refine ⟨by omega, ?_⟩
  have h1 : dI l l2 k ≤ pkK l l2 (k + 1) := by omega
  have h2 : - dI l l2 k ≤ pkK l l2 (k + 1) := by omega
  rcases Int.le_total 0 (dI l l2 k) with h | h
  · exact Int.mul_le_mul h1 h1 h (by omega)
  · rw [← Int.neg_mul_neg]
    exact Int.mul_le_mul h2 h2 (by omega) (by omega)
theorem pkK_mono (l l2 : List Nat) {j k : Nat} (h : j ≤ k) : pkK l l2 j ≤ pkK l l2 k := by
  induction k with
  | zero => have : j = 0 := by omega
            subst this; exact Int.le_refl _
  | succ k ih =>
    by_cases hj : j = k + 1
    · subst hj; exact Int.le_refl _
    · exact Int.le_trans (ih (by omega)) (sqK_peak l l2 k).1
theorem pkK_nonneg (l l2 : List Nat) (k : Nat) : 0 ≤ pkK l l2 k := by
  have := pkK_mono l l2 (Nat.zero_le k)
  simpa [pkK] using this
theorem sqK_le_peak (l l2 : List Nat) (m : Nat) : ∀ k, k ≤ m → sqK l l2 k ≤ k * (pkK l l2 m * pkK l l2 m) := by
  intro k
  induction k with
  | zero => intro _; simp [sqK]
  | succ k ih =>
    intro hk
    have h1 := ih (by omega)
    have h2 := (sqK_peak l l2 k).2
    have h3 := pkK_mono l l2 hk
    have h4 : pkK l l2 (k + 1) * pkK l l2 (k + 1) ≤ pkK l l2 m * pkK l l2 m := Int.mul_le_mul h3 h3 (pkK_nonneg _ _ _) (pkK_nonneg _ _ _)
    unfold sqK
    rw [show ((k + 1 : Nat) : Int) = (k : Int) + 1 by omega, Int.add_mul, Int.one_mul]
    omega
/-- nothing apart: the same -/
theorem sqK_nil {l l2 : List Nat} (k : Nat) (h : sqK l l2 k = 0) : ∀ j, j < k → dI l l2 j = 0 := by
  induction k with
  | zero => intro j hj; omega
  | succ k ih =>
    have h0 : ∀ k, 0 ≤ sqK l l2 k := by
      intro k
      induction k with
      | zero => simp [sqK]
      | succ k ih =>
        unfold sqK
        have : 0 ≤ dI l l2 k * dI l l2 k := by
          rcases Int.le_total 0 (dI l l2 k) with h | h
          · exact Int.mul_nonneg h h
          · rw [← Int.neg_mul_neg]; exact Int.mul_nonneg (by omega) (by omega)
        omega
    have hk := h0 k
    unfold sqK at h
    have hd : 0 ≤ dI l l2 k * dI l l2 k := by
      rcases Int.le_total 0 (dI l l2 k) with h | h
      · exact Int.mul_nonneg h h
      · rw [← Int.neg_mul_neg]; exact Int.mul_nonneg (by omega) (by omega)
    intro j hj
    by_cases hjk : j = k
    · subst hjk
      have : dI l l2 j * dI l l2 j = 0 := by omega
      rcases Int.mul_eq_zero.1 this with h | h <;> exact h
    · exact ih (by omega) j (by omega)
theorem same_of_zero {l l2 : List Nat} (hn : l.length = l2.length) (h : sqK l l2 l.length = 0) : l = l2 := by
  refine List.ext_getElem hn fun j h1 h2 => ?_
  have := sqK_nil _ h j h1
  unfold dI at this
  have a : l.getD j 0 = l[j] := by simp [h1]
  have b : l2.getD j 0 = l2[j] := by simp [h2]
  omega
theorem sqK_self (l : List Nat) (k : Nat) : sqK l l k = 0 := by
  induction k with
  | zero => rfl
  | succ k ih => unfold sqK; rw [ih]; unfold dI; simp
theorem pkK_self (l : List Nat) (k : Nat) : pkK l l k = 0 := by
  induction k with
  | zero => rfl
  | succ k ih => unfold pkK; rw [ih]; unfold dI; simp
theorem ord_gt_iff {a b : Nat} (ha : Fp.fin a) (hb : Fp.fin b) : (ord a b = some .gt ↔ Fp.val b < Fp.val a) ∧ (ord a b = some .eq ↔ Fp.val a = Fp.val b) ∧ (ord a b = some .lt ↔ Fp.val a < Fp.val b) :=
  ⟨(Fp.order_val ha hb).2.2, (Fp.order_val ha hb).2.1, (Fp.order_val ha hb).1⟩
theorem fin_0 : Fp.fin 0 ∧ Fp.val 0 = 0 := ⟨⟨_, _, _, Fp.read_0⟩, by decide +kernel⟩
/-- the mean square held against 0 -/
theorem apart_0 {l l2 : List Nat} (h : Byts l) (h2 : Byts l2) (h0 : 0 < l.length) (hn : l.length ≤ 17179344900) :
    (sqK l l2 l.length = 0 → ord (apartP l l2) 0 = some .eq) ∧ (sqK l l2 l.length ≠ 0 → ord (apartP l l2) 0 = some .gt) := by
  obtain ⟨_, hf, v, hq, hd⟩ := apart_bits h h2 h0 hn
  obtain ⟨s0, s1⟩ := sqK_le h h2 l.length
  have hnr : (0 : Rat) < (l.length : Rat) := by exact_mod_cast h0
  have ho := ord_gt_iff hf fin_0.1
  rw [fin_0.2] at ho
  refine ⟨fun hz => ?_, fun hz => ?_⟩
  · rw [hz] at hq
    have e : (((0 : Int) : Rat)) / (l.length : Rat) = 0 := by rw [Rat.div_def]; simp
    rw [e] at hq
    have hv : v = 0 := hq.exact 0 (by omega) rfl
    subst hv
    have := hd.exact 0 0 (by omega) (by omega) (by simp)
    exact ho.2.1.2 this
  · refine ho.1.2 ?_
    have hs : 1 ≤ sqK l l2 l.length := by omega
    have hs' : (1 : Rat) ≤ ((sqK l l2 l.length : Int) : Rat) := by exact_mod_cast hs
    have hx : (1 : Rat) / 17179344900 ≤ ((sqK l l2 l.length : Int) : Rat) / (l.length : Rat) := by
      refine le_div' hnr ?_
      have : (l.length : Rat) ≤ 17179344900 := by exact_mod_cast hn
      grind
    generalize ((sqK l l2 l.length : Int) : Rat) / (l.length : Rat) = x at *
    have k1 := hq.pos (by grind)
    have k2 := hd.pos k1.1
    have a1 : Fp.p2 (-54) ≤ 1 / 1000000000 := by decide +kernel
    have a2 : Fp.p2 (-53) ≤ 1 / 1000000000 := by decide +kernel
    have a3 : Fp.p2 (-1075) ≤ 1 / 100000000000 / 1000000000 := by decide +kernel
    have b1 := Rat.mul_le_mul_of_nonneg_left a1 (show 0 ≤ x by grind)
    have b2 := Rat.mul_le_mul_of_nonneg_left a2 k1.1
    grind
/-- the bound out of the peak -/
def capP (p : Int) : Nat := fo .mul (floatOfInt .f64 (p * p)) 4607182419250377371
theorem cap_bits {p : Int} (h0 : 0 ≤ p) (h1 : p ≤ 255) : floatBits .mul .f64 (floatOfInt .f64 (p * p)) 4607182419250377371 = some (capP p) ∧ Fp.fin (capP p) ∧ ((p * p : Int) : Rat) ≤ Fp.val (capP p) ∧ (1 ≤ p → ((p * p : Int) : Rat) * (1 + 1 / 100000000) ≤ Fp.val (capP p)) := by
  obtain ⟨q, rfl⟩ : ∃ q : Nat, p = q := ⟨p.toNat, by omega⟩
  have hq : q * q ≤ 255 * 255 := Nat.mul_le_mul (by omega) (by omega)
  obtain ⟨f1, v1⟩ := foi_val (q * q) (by omega)
  have f2 : Fp.fin 4607182419250377371 := ⟨_, _, _, (by decide +kernel : Ieee.double.read 4607182419250377371 = .number false 4503600077730459 (-52))⟩
  have v2 : (1 + 1 / 20000000 : Rat) ≤ Fp.val 4607182419250377371 ∧ Fp.val 4607182419250377371 ≤ 2 := by decide +kernel
  have e : ((q : Int) * (q : Int)) = ((q * q : Nat) : Int) := by push_cast; rfl
  rw [e]
  generalize q * q = s at *
  have hs : (0 : Rat) ≤ (s : Rat) := by exact_mod_cast Nat.zero_le s
  have hs2 : (s : Rat) ≤ 65025 := by exact_mod_cast hq
  have m1 := Rat.mul_le_mul_of_nonneg_left v2.1 hs
  have m2 := Rat.mul_le_mul_of_nonneg_left v2.2 hs
  have hP : (130050 : Rat) < Fp.p2 1023 := by
    have h1 : Fp.p2 17 < Fp.p2 1023 := Fp.p2_lt (by omega)
    have h2 : Fp.p2 17 = 131072 := by decide +kernel
    grind
  obtain ⟨r, hr, hf, hd⟩ := Fp.mul_rd f1 f2 (by rw [v1]; grind) (by rw [v1]; grind)
  rw [v1] at hd
  have hb : floatBits .mul .f64 (floatOfInt .f64 (s : Int)) 4607182419250377371 = some r := hr
  have hc : capP (q : Int) = r := by unfold capP fo; rw [e]; exact fo_some hb 0
  rw [hc]
  have k := hd.pos (by grind)
  have a2 : Fp.p2 (-53) ≤ 1 / 1000000000 := by decide +kernel
  have a3 : Fp.p2 (-1075) ≤ 1 / 1000000000 := by decide +kernel
  have b2 := Rat.mul_le_mul_of_nonneg_left a2 (show 0 ≤ (s : Rat) * Fp.val 4607182419250377371 by grind)
  rw [show (((s : Nat) : Int) : Rat) = (s : Rat) from rfl]
  refine ⟨hb, hf, ?_, ?_⟩
  · by_cases h0 : s = 0
    · subst h0
      have := k.1
      simpa using this
    · have : (1 : Rat) ≤ (s : Rat) := by exact_mod_cast Nat.pos_of_ne_zero h0
      grind
  · intro _
    by_cases h0 : s = 0
    · subst h0
      have := k.1
      simpa using this
    · have : (1 : Rat) ≤ (s : Rat) := by exact_mod_cast Nat.pos_of_ne_zero h0
      grind
theorem apart_cap {l l2 : List Nat} (h : Byts l) (h2 : Byts l2) (h0 : 0 < l.length) (hn : l.length ≤ 17179344900) :
    ord (apartP l l2) (capP (pkK l l2 l.length)) = some .lt ∨ ord (apartP l l2) (capP (pkK l l2 l.length)) = some .eq := by
  obtain ⟨_, hf, v, hq, hd⟩ := apart_bits h h2 h0 hn
  obtain ⟨s0, s1⟩ := sqK_le h h2 l.length
  obtain ⟨p0, p1⟩ := pkK_le h h2 l.length
  obtain ⟨_, cf, cv, cv2⟩ := cap_bits p0 p1
  have hnr : (0 : Rat) < (l.length : Rat) := by exact_mod_cast h0
  have hsp := sqK_le_peak l l2 l.length l.length (Nat.le_refl _)
  have ho := ord_gt_iff hf cf
  suffices hle : Fp.val (apartP l l2) ≤ Fp.val (capP (pkK l l2 l.length)) by
    rcases Rat.le_iff_lt_or_eq.1 hle with hlt | heq
    · exact .inl (ho.2.2.2 hlt)
    · exact .inr (ho.2.1.2 heq)
  have hx : ((sqK l l2 l.length : Int) : Rat) / (l.length : Rat) ≤ ((pkK l l2 l.length * pkK l l2 l.length : Int) : Rat) := by
    refine div_le' hnr ?_
    have : ((sqK l l2 l.length : Int) : Rat) ≤ (((l.length : Int) * (pkK l l2 l.length * pkK l l2 l.length) : Int) : Rat) := by exact_mod_cast hsp
    push_cast at this ⊢
    grind
  have hx0 : 0 ≤ ((sqK l l2 l.length : Int) : Rat) / (l.length : Rat) := by
    refine le_div' hnr ?_
    have : (0 : Rat) ≤ ((sqK l l2 l.length : Int) : Rat) := by exact_mod_cast s0
    grind
  generalize ((sqK l l2 l.length : Int) : Rat) / (l.length : Rat) = x at *
  have k1 := hq.pos hx0
  have k2 := hd.pos k1.1
  have a1 : Fp.p2 (-54) ≤ 1 / 1000000000 := by decide +kernel
  have a2 : Fp.p2 (-53) ≤ 1 / 1000000000 := by decide +kernel
  have a3 : Fp.p2 (-1075) ≤ 1 / 1000000000 := by decide +kernel
  have b1 := Rat.mul_le_mul_of_nonneg_left a1 hx0
  have b2 := Rat.mul_le_mul_of_nonneg_left a2 k1.1
  by_cases hp : pkK l l2 l.length = 0
  · rw [hp] at hx cv
    have hx1 : x = 0 := by
      have : x ≤ 0 := by simpa using hx
      grind
    subst hx1
    have hv : v = 0 := hq.exact 0 (by omega) rfl
    subst hv
    have := hd.exact 0 0 (by omega) (by omega) (by simp)
    rw [this, hp]
    simpa using cv
  · have hp1 : 1 ≤ pkK l l2 l.length := by omega
    have hpp : 1 * 1 ≤ pkK l l2 l.length * pkK l l2 l.length := Int.mul_le_mul hp1 hp1 (by omega) (by omega)
    have hpr : (1 : Rat) ≤ ((pkK l l2 l.length * pkK l l2 l.length : Int) : Rat) := by exact_mod_cast hpp
    have c2 := cv2 hp1
    generalize ((pkK l l2 l.length * pkK l l2 l.length : Int) : Rat) = P at *
    grind
theorem pk_zero {l l2 : List Nat} (hn : l.length = l2.length) : pkK l l2 l.length = 0 ↔ l = l2 := by
  constructor
  · intro h
    refine same_of_zero hn ?_
    have := sqK_le_peak l l2 l.length l.length (Nat.le_refl _)
    rw [h] at this
    have h0 : ∀ k, 0 ≤ sqK l l2 k := by
      intro k
      induction k with
      | zero => simp [sqK]
      | succ k ih =>
        unfold sqK
        have : 0 ≤ dI l l2 k * dI l l2 k := by
          rcases Int.le_total 0 (dI l l2 k) with h | h
          · exact Int.mul_nonneg h h
          · rw [← Int.neg_mul_neg]; exact Int.mul_nonneg (by omega) (by omega)
        omega
    have := h0 l.length
    simp at *
    omega
  · rintro rfl
    exact pkK_self _ _
end Go.Proofs.Ytfaciljklligeaa.Ct
