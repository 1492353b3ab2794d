/- The library's logarithm of a double, step by step: how near it is. -/
import Derived.Test.YtfaciljklligeaaLl
namespace Go.Proofs.Ytfaciljklligeaa.Ct
open Go.ChangeShapes Go.WideShapes Go.RowKit Mm
section
variable {a b : Nat} {A B da db α β M δ : Rat}
theorem mulN (ha : Fp.fin a) (hb : Fp.fin b) (na : Near (Fp.val a) A da) (nb : Near (Fp.val b) B db) (h1 : -α ≤ A ∧ A ≤ α) (h2 : -β ≤ B ∧ B ≤ β) (M δ : Rat)
    (c : (decide (1 ≤ M) && decide (M ≤ 1000000000000000000) && decide (α * β + (α * db + β * da + da * db) ≤ M) && decide (α * db + β * da + da * db + M * eps ≤ δ)) = true) : ∃ r, F .mul a b r ∧ Fp.fin r ∧ Near (Fp.val r) (A * B) δ := by
  simp only [Bool.and_eq_true, decide_eq_true_eq] at c
  obtain ⟨⟨⟨c1, c2⟩, c3⟩, c4⟩ := c
  have m := near_mul na nb h1 h2
  have p := prod_le h1 h2
  obtain ⟨r, hr, hf, hn⟩ := mul_near ha hb M c1 c2 (by unfold Near at m; constructor <;> grind)
  exact ⟨r, hr, hf, near_le (near_tri hn m) (by grind)⟩
theorem addN (ha : Fp.fin a) (hb : Fp.fin b) (na : Near (Fp.val a) A da) (nb : Near (Fp.val b) B db) (h1 : -α ≤ A + B ∧ A + B ≤ α) (M δ : Rat)
    (c : (decide (1 ≤ M) && decide (M ≤ 1000000000000000000) && decide (α + (da + db) ≤ M) && decide (da + db + M * eps ≤ δ)) = true) : ∃ r, F .add a b r ∧ Fp.fin r ∧ Near (Fp.val r) (A + B) δ := by
  simp only [Bool.and_eq_true, decide_eq_true_eq] at c
  obtain ⟨⟨⟨c1, c2⟩, c3⟩, c4⟩ := c
  have m := near_add na nb
  obtain ⟨r, hr, hf, hn⟩ := add_near ha hb M c1 c2 (by unfold Near at m; constructor <;> grind)
  exact ⟨r, hr, hf, near_le (near_tri hn m) (by grind)⟩
theorem subN (ha : Fp.fin a) (hb : Fp.fin b) (na : Near (Fp.val a) A da) (nb : Near (Fp.val b) B db) (h1 : -α ≤ A - B ∧ A - B ≤ α) (M δ : Rat)
    (c : (decide (1 ≤ M) && decide (M ≤ 1000000000000000000) && decide (α + (da + db) ≤ M) && decide (da + db + M * eps ≤ δ)) = true) : ∃ r, F .sub a b r ∧ Fp.fin r ∧ Near (Fp.val r) (A - B) δ := by
  simp only [Bool.and_eq_true, decide_eq_true_eq] at c
  obtain ⟨⟨⟨c1, c2⟩, c3⟩, c4⟩ := c
  have m := near_sub na nb
  obtain ⟨r, hr, hf, hn⟩ := sub_near ha hb M c1 c2 (by unfold Near at m; constructor <;> grind)
  exact ⟨r, hr, hf, near_le (near_tri hn m) (by grind)⟩
end
theorem sum_b {x y α β γ : Rat} (hx : x ≤ α ∧ -x ≤ α) (hy : -β ≤ y ∧ y ≤ β) (h : decide (α + β ≤ γ) = true) : -γ ≤ x + y ∧ x + y ≤ γ := by
  have h := of_decide_eq_true h
  constructor <;> grind
theorem pb_of {x α γ : Rat} (hx : x ≤ α ∧ -x ≤ α) (h : decide (α ≤ γ) = true) : -γ ≤ x ∧ x ≤ γ := by
  have h := of_decide_eq_true h
  constructor <;> grind
theorem bb {x α : Rat} (h : -α ≤ x ∧ x ≤ α) : x ≤ α ∧ -x ≤ α := by constructor <;> grind
theorem pos_b {x a γ : Rat} (h0 : a ≤ x ∧ x ≤ γ) (h : decide (-γ ≤ a) = true) : -γ ≤ x ∧ x ≤ γ := by
  have h := of_decide_eq_true h
  constructor <;> grind
theorem neg_b {x α : Rat} (h : -α ≤ x ∧ x ≤ α) : -α ≤ -x ∧ -x ≤ α := by constructor <;> grind
/-- a constant word -/
def cval (w : Nat) : Rat := ((2 ^ 52 + w % 2 ^ 52 : Nat) : Rat) * Fp.p2 (-1074 + (w / 2 ^ 52 - 1 : Nat))
theorem const_fin (w : Nat) (h : (decide (2 ^ 52 ≤ w) && decide (w < Fp.infR)) = true) : Fp.fin w ∧ Fp.val w = cval w := by
  simp only [Bool.and_eq_true, decide_eq_true_eq] at h
  have hr := Fp.read_word false w h.2
  have hw : Ieee.double.word false w = w := rfl
  rw [hw] at hr
  refine ⟨⟨_, _, _, hr⟩, ?_⟩
  unfold Fp.val
  rw [hr]
  unfold Fp.dval Fp.sg Fp.rmag Fp.rplace cval
  rw [if_neg (by omega), if_neg (by omega)]
  simp
def K1 : Nat := 0x3FE5555555555593
def K2 : Nat := 0x3FD999999997FA04
def K3 : Nat := 0x3FD2492494229359
def K4 : Nat := 0x3FCC71C51D8E78AF
def K5 : Nat := 0x3FC7466496CB03DE
def K6 : Nat := 0x3FC39A09D078C69F
def K7 : Nat := 0x3FC2F112DF3E5244
def KLo : Nat := 0x3DEA39EF35793C76
def KHi : Nat := 0x3FE62E42FEE00000
def KH : Nat := 0x3FE0000000000000
def K1o : Nat := 0x3FF0000000000000
def K2o : Nat := 0x4000000000000000
/-- the polynomial behind -/
def polyR (z : Rat) : Rat := z * (cval K1 + z * z * (cval K3 + z * z * (cval K5 + z * z * cval K7))) + z * z * (cval K2 + z * z * (cval K4 + z * z * cval K6))
theorem polyR_eq (z u : Rat) (hu : z * z = u) : polyR z = z * (((cval K7 * u + cval K5) * u + cval K3) * u + cval K1) + u * ((cval K6 * u + cval K4) * u + cval K2) := by
  unfold polyR
  rw [hu]
  generalize cval K1 = k1
  generalize cval K2 = k2
  generalize cval K3 = k3
  generalize cval K4 = k4
  generalize cval K5 = k5
  generalize cval K6 = k6
  generalize cval K7 = k7
  grind
theorem log_id (x kH kL y S Q : Rat) (hS : S * (2 + y) = y) : x * kH - (1 / 2 * y * y - (S * (Q + 1 / 2 * y * y) + kL * x) - y) = x * (kH + kL) + S * (2 + Q) := by
  have h1 : y - 1 / 2 * y * y + S * (1 / 2 * y * y) = 2 * S := by
    have h3 : y - S * y = 2 * S := by grind
    have h4 : 1 / 2 * y * y - S * (1 / 2 * y * y) = 1 / 2 * y * (y - S * y) := by grind
    rw [h3] at h4
    grind
  grind
/-- the run of the latter part: m is 1 + f, whole steps of 2^-53 -/
structure LogRun (f k s0 s s2 s4 a1 a2 a3 a4 a5 a6 t1 b1 b2 b3 b4 t2 R hf0 hf c1 c2 c3 inner kh g1 g2 r : Nat) : Prop where
  h1 : F .add K2o f s0
  h2 : F .quo f s0 s
  h3 : F .mul s s s2
  h4 : F .mul s2 s2 s4
  h5 : F .mul K7 s4 a1
  h6 : F .add a1 K5 a2
  h7 : F .mul a2 s4 a3
  h8 : F .add a3 K3 a4
  h9 : F .mul a4 s4 a5
  h10 : F .add a5 K1 a6
  h11 : F .mul s2 a6 t1
  h12 : F .mul K6 s4 b1
  h13 : F .add b1 K4 b2
  h14 : F .mul b2 s4 b3
  h15 : F .add b3 K2 b4
  h16 : F .mul s4 b4 t2
  h17 : F .add t1 t2 R
  h18 : F .mul KH f hf0
  h19 : F .mul hf0 f hf
  h20 : F .add R hf c1
  h21 : F .mul s c1 c2
  h22 : F .mul KLo k c3
  h23 : F .add c2 c3 inner
  h24 : F .mul k KHi kh
  h25 : F .sub hf inner g1
  h26 : F .sub g1 f g2
  h27 : F .sub kh g2 r
set_option maxHeartbeats 3200000 in
theorem log_ex {f k : Nat} (ff : Fp.fin f) (fk : Fp.fin k) (hf1 : -(293 / 1000) ≤ Fp.val f ∧ Fp.val f ≤ 415 / 1000) (hk : -1100 ≤ Fp.val k ∧ Fp.val k ≤ 1100) :
    ∃ s0 s s2 s4 a1 a2 a3 a4 a5 a6 t1 b1 b2 b3 b4 t2 R hf0 hf c1 c2 c3 inner kh g1 g2 r, LogRun f k s0 s s2 s4 a1 a2 a3 a4 a5 a6 t1 b1 b2 b3 b4 t2 R hf0 hf c1 c2 c3 inner kh g1 g2 r ∧ Fp.fin r ∧
      Near (Fp.val r) (Fp.val k * (cval KHi + cval KLo) + (Fp.val f / (2 + Fp.val f)) * (2 + polyR ((Fp.val f / (2 + Fp.val f)) * (Fp.val f / (2 + Fp.val f))))) (1 / 1000000000000) := by
  obtain ⟨e1, v1⟩ := const_fin K1 (by decide +kernel)
  obtain ⟨e2, v2⟩ := const_fin K2 (by decide +kernel)
  obtain ⟨e3, v3⟩ := const_fin K3 (by decide +kernel)
  obtain ⟨e4, v4⟩ := const_fin K4 (by decide +kernel)
  obtain ⟨e5, v5⟩ := const_fin K5 (by decide +kernel)
  obtain ⟨e6, v6⟩ := const_fin K6 (by decide +kernel)
  obtain ⟨e7, v7⟩ := const_fin K7 (by decide +kernel)
  obtain ⟨eL, vL⟩ := const_fin KLo (by decide +kernel)
  obtain ⟨eH, vH⟩ := const_fin KHi (by decide +kernel)
  obtain ⟨eh, vh⟩ := const_fin KH (by decide +kernel)
  obtain ⟨e2o, v2o⟩ := const_fin K2o (by decide +kernel)
  have q1 : 66 / 100 ≤ cval K1 ∧ cval K1 ≤ 67 / 100 := by decide +kernel
  have q2 : 39 / 100 ≤ cval K2 ∧ cval K2 ≤ 41 / 100 := by decide +kernel
  have q3 : 28 / 100 ≤ cval K3 ∧ cval K3 ≤ 29 / 100 := by decide +kernel
  have q4 : 22 / 100 ≤ cval K4 ∧ cval K4 ≤ 23 / 100 := by decide +kernel
  have q5 : 18 / 100 ≤ cval K5 ∧ cval K5 ≤ 19 / 100 := by decide +kernel
  have q6 : 15 / 100 ≤ cval K6 ∧ cval K6 ≤ 16 / 100 := by decide +kernel
  have q7 : 14 / 100 ≤ cval K7 ∧ cval K7 ≤ 15 / 100 := by decide +kernel
  have qL : 0 ≤ cval KLo ∧ cval KLo ≤ 1 / 1000000000 := by decide +kernel
  have qH : 69 / 100 ≤ cval KHi ∧ cval KHi ≤ 70 / 100 := by decide +kernel
  have qh : cval KH = 1 / 2 := by decide +kernel
  have q2o : cval K2o = 2 := by decide +kernel
  have nf := near_self (Fp.val f)
  have nk := near_self (Fp.val k)
  have n1 : Near (Fp.val K1) (cval K1) 0 := by rw [v1]; exact near_self _
  have n2 : Near (Fp.val K2) (cval K2) 0 := by rw [v2]; exact near_self _
  have n3 : Near (Fp.val K3) (cval K3) 0 := by rw [v3]; exact near_self _
  have n4 : Near (Fp.val K4) (cval K4) 0 := by rw [v4]; exact near_self _
  have n5 : Near (Fp.val K5) (cval K5) 0 := by rw [v5]; exact near_self _
  have n6 : Near (Fp.val K6) (cval K6) 0 := by rw [v6]; exact near_self _
  have n7 : Near (Fp.val K7) (cval K7) 0 := by rw [v7]; exact near_self _
  have nL : Near (Fp.val KLo) (cval KLo) 0 := by rw [vL]; exact near_self _
  have nH : Near (Fp.val KHi) (cval KHi) 0 := by rw [vH]; exact near_self _
  have nh : Near (Fp.val KH) (1 / 2) 0 := by rw [vh, qh]; exact near_self _
  have n2o : Near (Fp.val K2o) 2 0 := by rw [v2o, q2o]; exact near_self _
  obtain ⟨s0, w1, fs0, ns0⟩ := addN (α := 3) e2o ff n2o nf (by grind) 4 (6 / 10000000000000000) (by decide +kernel)
  have s0p : 17 / 10 ≤ Fp.val s0 ∧ Fp.val s0 ≤ 3 := by unfold Near at ns0; constructor <;> grind
  have hden : (0 : Rat) < 2 + Fp.val f := by grind
  have hS : Fp.val f / (2 + Fp.val f) * (2 + Fp.val f) = Fp.val f := Rat.div_mul_cancel (Rat.ne_of_gt hden)
  have hy : Fp.val f / Fp.val s0 * Fp.val s0 = Fp.val f := Rat.div_mul_cancel (by grind)
  have S1 : Fp.val f / (2 + Fp.val f) ≤ 172 / 1000 := div_le' hden (by grind)
  have S0 : -(172 / 1000) ≤ Fp.val f / (2 + Fp.val f) := le_div' hden (by grind)
  have y1 : Fp.val f / Fp.val s0 ≤ 1 := div_le' (by grind) (by grind)
  have y0 : -1 ≤ Fp.val f / Fp.val s0 := le_div' (by grind) (by grind)
  obtain ⟨s, w2, fs, ns⟩ := div_near ff fs0 1 (by decide +kernel) (by decide +kernel) (by grind) ⟨y0, y1⟩
  generalize Fp.val f / (2 + Fp.val f) = S at *
  generalize Fp.val f / Fp.val s0 = y at *
  have hyS : Near y S (6 / 10000000000000000) := by
    have p := prod_le (x := S) (y := 2 + Fp.val f - Fp.val s0) (α := 172 / 1000) (d := 6 / 10000000000000000) (by grind) (by unfold Near at ns0; grind)
    have e : (y - S) * Fp.val s0 = S * (2 + Fp.val f - Fp.val s0) := by grind
    have h1 : (y - S) * Fp.val s0 ≤ 6 / 10000000000000000 * Fp.val s0 := by grind
    have h2 : (S - y) * Fp.val s0 ≤ 6 / 10000000000000000 * Fp.val s0 := by grind
    exact ⟨Rat.le_of_mul_le_mul_right h1 (by grind), Rat.le_of_mul_le_mul_right h2 (by grind)⟩
  have nS : Near (Fp.val s) S (1 / 1000000000000000) := near_le (near_tri ns hyS) (by decide +kernel)
  clear ns hyS hy y0 y1 ns0
  have z0 := prod_le (x := S) (y := S) (α := 172 / 1000) (d := 172 / 1000) (by grind) (by grind)
  have zz : 0 ≤ S * S := by
    rcases Rat.le_total (a := 0) (b := S) with h | h
    · exact Rat.mul_nonneg h h
    · have := Rat.mul_nonneg (show 0 ≤ -S by grind) (show 0 ≤ -S by grind); grind
  have Sb : -(172 / 1000) ≤ S ∧ S ≤ 172 / 1000 := ⟨S0, S1⟩
  have fb : -(415 / 1000) ≤ Fp.val f ∧ Fp.val f ≤ 415 / 1000 := by constructor <;> grind
  have g7 := pos_b q7 (by decide +kernel)
  have g6 := pos_b q6 (by decide +kernel)
  have g5 := pos_b q5 (by decide +kernel)
  have g4 := pos_b q4 (by decide +kernel)
  have g3 := pos_b q3 (by decide +kernel)
  have g2' := pos_b q2 (by decide +kernel)
  have g1' := pos_b q1 (by decide +kernel)
  have gL := pos_b qL (by decide +kernel)
  have gH := pos_b qH (by decide +kernel)
  obtain ⟨s2, w3, fs2, ns2⟩ := mulN fs fs nS nS Sb Sb 1 (5 / 10000000000000000) (by decide +kernel)
  generalize hz : S * S = z at z0 zz ns2 ⊢
  have zb : -(3 / 100) ≤ z ∧ z ≤ 3 / 100 := pb_of z0 (by decide +kernel)
  obtain ⟨s4, w4, fs4, ns4⟩ := mulN fs2 fs2 ns2 ns2 zb zb 1 (2 / 10000000000000000) (by decide +kernel)
  have ub0 := prod_le zb zb
  generalize hu : z * z = u at ub0 ns4
  have ub : -(9 / 10000) ≤ u ∧ u ≤ 9 / 10000 := pb_of ub0 (by decide +kernel)
  obtain ⟨a1, w5, fa1, na1⟩ := mulN e7 fs4 n7 ns4 g7 ub 1 (2 / 10000000000000000) (by decide +kernel)
  have x1 := sum_b (γ := 2 / 10) (prod_le g7 ub) g5 (by decide +kernel)
  obtain ⟨a2, w6, fa2, na2⟩ := addN fa1 e5 na1 n5 x1 1 (4 / 10000000000000000) (by decide +kernel)
  obtain ⟨a3, w7, fa3, na3⟩ := mulN fa2 fs4 na2 ns4 x1 ub 1 (2 / 10000000000000000) (by decide +kernel)
  have x2 := sum_b (γ := 3 / 10) (prod_le x1 ub) g3 (by decide +kernel)
  obtain ⟨a4, w8, fa4, na4⟩ := addN fa3 e3 na3 n3 x2 1 (4 / 10000000000000000) (by decide +kernel)
  obtain ⟨a5, w9, fa5, na5⟩ := mulN fa4 fs4 na4 ns4 x2 ub 1 (2 / 10000000000000000) (by decide +kernel)
  have x3 := sum_b (γ := 7 / 10) (prod_le x2 ub) g1' (by decide +kernel)
  obtain ⟨a6, w10, fa6, na6⟩ := addN fa5 e1 na5 n1 x3 1 (4 / 10000000000000000) (by decide +kernel)
  obtain ⟨t1, w11, ft1, nt1⟩ := mulN fs2 fa6 ns2 na6 zb x3 1 (6 / 10000000000000000) (by decide +kernel)
  have y1' := prod_le zb x3
  obtain ⟨b1, w12, fb1, nb1⟩ := mulN e6 fs4 n6 ns4 g6 ub 1 (2 / 10000000000000000) (by decide +kernel)
  have x5 := sum_b (γ := 3 / 10) (prod_le g6 ub) g4 (by decide +kernel)
  obtain ⟨b2, w13, fb2, nb2⟩ := addN fb1 e4 nb1 n4 x5 1 (4 / 10000000000000000) (by decide +kernel)
  obtain ⟨b3, w14, fb3, nb3⟩ := mulN fb2 fs4 nb2 ns4 x5 ub 1 (2 / 10000000000000000) (by decide +kernel)
  have x6 := sum_b (γ := 5 / 10) (prod_le x5 ub) g2' (by decide +kernel)
  obtain ⟨b4, w15, fb4, nb4⟩ := addN fb3 e2 nb3 n2 x6 1 (4 / 10000000000000000) (by decide +kernel)
  obtain ⟨t2, w16, ft2, nt2⟩ := mulN fs4 fb4 ns4 nb4 ub x6 1 (3 / 10000000000000000) (by decide +kernel)
  have x7 := sum_b (γ := 3 / 100) y1' (pb_of (γ := 5 / 10000) (prod_le ub x6) (by decide +kernel)) (by decide +kernel)
  obtain ⟨R, w17, fR, nR⟩ := addN ft1 ft2 nt1 nt2 x7 1 (11 / 10000000000000000) (by decide +kernel)
  obtain ⟨hf0, w18, fhf0, nhf0⟩ := mulN (α := 1 / 2) (β := 415 / 1000) eh ff nh nf (by constructor <;> decide +kernel) fb 1 (2 / 10000000000000000) (by decide +kernel)
  have hb0 : -(21 / 100) ≤ 1 / 2 * Fp.val f ∧ 1 / 2 * Fp.val f ≤ 21 / 100 := by constructor <;> grind
  obtain ⟨hf, w19, fhf, nhf⟩ := mulN fhf0 ff nhf0 nf hb0 fb 1 (3 / 10000000000000000) (by decide +kernel)
  have hGb := prod_le hb0 fb
  have hGb' := pb_of (γ := 88 / 1000) hGb (by decide +kernel)
  have x8 := sum_b (γ := 13 / 100) (bb x7) hGb' (by decide +kernel)
  obtain ⟨c1, w20, fc1, nc1⟩ := addN fR fhf nR nhf x8 1 (2 / 1000000000000000) (by decide +kernel)
  obtain ⟨c2, w21, fc2, nc2⟩ := mulN fs fc1 nS nc1 Sb x8 1 (1 / 1000000000000000) (by decide +kernel)
  obtain ⟨c3, w22, fc3, nc3⟩ := mulN (β := 1100) eL fk nL nk gL hk 1 (2 / 10000000000000000) (by decide +kernel)
  have x9 := sum_b (γ := 1) (prod_le Sb x8) (pb_of (γ := 1 / 100000) (prod_le gL hk) (by decide +kernel)) (by decide +kernel)
  obtain ⟨inner, w23, fin_, nin⟩ := addN fc2 fc3 nc2 nc3 x9 2 (2 / 1000000000000000) (by decide +kernel)
  obtain ⟨kh, w24, fkh, nkh⟩ := mulN fk eH nk nH hk gH 771 (11 / 100000000000000) (by decide +kernel)
  have x10 := sum_b (γ := 2) (bb hGb') (neg_b x9) (by decide +kernel)
  rw [← Rat.sub_eq_add_neg] at x10
  obtain ⟨g1, w25, fg1, ng1⟩ := subN fhf fin_ nhf nin x10 3 (3 / 1000000000000000) (by decide +kernel)
  have x11 := sum_b (γ := 3) (bb x10) (neg_b fb) (by decide +kernel)
  rw [← Rat.sub_eq_add_neg] at x11
  obtain ⟨g2, w26, fg2, ng2⟩ := subN fg1 ff ng1 nf x11 4 (4 / 1000000000000000) (by decide +kernel)
  have x12 := sum_b (γ := 780) (prod_le hk gH) (neg_b x11) (by decide +kernel)
  rw [← Rat.sub_eq_add_neg] at x12
  obtain ⟨r, w27, fr, nr⟩ := subN fkh fg2 nkh ng2 x12 790 (4 / 10000000000000) (by decide +kernel)
  refine ⟨s0, s, s2, s4, a1, a2, a3, a4, a5, a6, t1, b1, b2, b3, b4, t2, R, hf0, hf, c1, c2, c3, inner, kh, g1, g2, r, ⟨w1, w2, w3, w4, w5, w6, w7, w8, w9, w10, w11, w12, w13, w14, w15, w16, w17, w18, w19, w20, w21, w22, w23, w24, w25, w26, w27⟩, fr, ?_⟩
  rw [polyR_eq z u hu]
  generalize z * (((cval K7 * u + cval K5) * u + cval K3) * u + cval K1) + u * ((cval K6 * u + cval K4) * u + cval K2) = Q at nr ⊢
  rw [← log_id (Fp.val k) (cval KHi) (cval KLo) (Fp.val f) S Q hS]
  exact near_le nr (by decide +kernel)
end Go.Proofs.Ytfaciljklligeaa.Ct
