/- The library's logarithm of a double: the whole run. -/
import Derived.Test.YtfaciljklligeaaLg
import Derived.Test.YtfaciljklligeaaMn
namespace Go.Proofs.Ytfaciljklligeaa.Ct
open Go.ChangeShapes Go.WideShapes Go.RowKit Mm
theorem arith_run {P : Program} {op : BinOp} {x y r : Nat} (ho : fop op) (h : F op x y r) (w : World) : (Extern.MathAsm.arith op x y).run P w = .ok r w := by
  unfold F floatBits at h
  unfold Extern.MathAsm.arith Op.floatArith
  rcases ho with rfl | rfl | rfl | rfl <;> simp only at h <;> simp [h]
theorem ofInt_val (n : Int) (h : n.natAbs ≤ 2 ^ 53) : Fp.fin (Extern.MathAsm.ofInt32 n) ∧ Fp.val (Extern.MathAsm.ofInt32 n) = (n : Rat) := by
  have e : Extern.MathAsm.ofInt32 n = Ieee.double.write (.number (decide (n < 0)) n.natAbs 0) := rfl
  have hb : (n.natAbs : Rat) * Fp.p2 0 < Fp.p2 1023 := by
    rw [Fp.p2_zero, Rat.mul_one]
    have h1 : (n.natAbs : Rat) ≤ ((2 ^ 53 : Nat) : Rat) := by exact_mod_cast h
    have h2 : ((2 ^ 53 : Nat) : Rat) = Fp.p2 53 := (Fp.p2_nat 53).symm
    have h3 : Fp.p2 53 < Fp.p2 1023 := Fp.p2_lt (by omega)
    grind
  rw [e]
  obtain ⟨m', e', hr, hrd⟩ := Fp.write_rd (decide (n < 0)) n.natAbs 0 hb
  refine ⟨⟨_, _, _, hr⟩, ?_⟩
  unfold Fp.val
  rw [hr]
  have hd : Fp.dval (.number (decide (n < 0)) n.natAbs 0) = (n : Rat) := by
    rw [Fp.number_of_int n 0 (decide (n < 0)) (fun _ => rfl), Fp.p2_zero, Rat.mul_one]
  rw [hd] at hrd
  exact hrd.exact n 0 h (by omega) (by rw [Fp.p2_zero, Rat.mul_one])
section
variable {a b : Nat} (ha : Fp.fin a) (hb : Fp.fin b) (n : Int) (q : Int) (hn : n.natAbs ≤ 2 ^ 53) (hq : -1074 ≤ q) (hq2 : q ≤ 100)
include ha hb hn hq hq2
omit ha hb hq in
theorem big_exact : (n : Rat) * Fp.p2 q < Fp.p2 1023 ∧ -((n : Rat) * Fp.p2 q) < Fp.p2 1023 := by
  have h1 : ((n.natAbs : Nat) : Rat) ≤ Fp.p2 53 := by rw [show Fp.p2 53 = ((2 ^ 53 : Nat) : Rat) from Fp.p2_nat 53]; exact_mod_cast hn
  have h2 : Fp.p2 q ≤ Fp.p2 100 := Fp.p2_le hq2
  have h3 := Fp.p2_pos q
  have h4 : Fp.p2 53 * Fp.p2 100 = Fp.p2 153 := (Fp.p2_add 53 100).symm
  have h5 : Fp.p2 153 < Fp.p2 1023 := Fp.p2_lt (by omega)
  have hnn : (n : Rat) ≤ ((n.natAbs : Nat) : Rat) ∧ -(n : Rat) ≤ ((n.natAbs : Nat) : Rat) := by
    constructor
    · have : n ≤ (n.natAbs : Int) := by omega
      exact_mod_cast this
    · have : -n ≤ (n.natAbs : Int) := by omega
      exact_mod_cast this
  have h6 : ((n.natAbs : Nat) : Rat) * Fp.p2 q ≤ Fp.p2 53 * Fp.p2 100 := Rat.le_trans (Rat.mul_le_mul_of_nonneg_right h1 (Rat.le_of_lt h3)) (Rat.mul_le_mul_of_nonneg_left h2 (Rat.le_of_lt (Fp.p2_pos _)))
  have h7 := Rat.mul_le_mul_of_nonneg_right hnn.1 (Rat.le_of_lt h3)
  have h8 := Rat.mul_le_mul_of_nonneg_right hnn.2 (Rat.le_of_lt h3)
  constructor <;> grind
theorem add_exact (h : Fp.val a + Fp.val b = (n : Rat) * Fp.p2 q) : ∃ r, F .add a b r ∧ Fp.fin r ∧ Fp.val r = Fp.val a + Fp.val b := by
  obtain ⟨b1, b2⟩ := big_exact n q hn hq2
  obtain ⟨r, hr, hf, hd⟩ := Fp.add_rd ha hb (by rw [h]; exact b1) (by rw [h]; exact b2)
  exact ⟨r, hr, hf, hd.exact n q hn hq h⟩
theorem sub_exact (h : Fp.val a - Fp.val b = (n : Rat) * Fp.p2 q) : ∃ r, F .sub a b r ∧ Fp.fin r ∧ Fp.val r = Fp.val a - Fp.val b := by
  obtain ⟨b1, b2⟩ := big_exact n q hn hq2
  obtain ⟨r, hr, hf, hd⟩ := Fp.sub_rd ha hb (by rw [h]; exact b1) (by rw [h]; exact b2)
  exact ⟨r, hr, hf, hd.exact n q hn hq h⟩
theorem mul_exact (h : Fp.val a * Fp.val b = (n : Rat) * Fp.p2 q) : ∃ r, F .mul a b r ∧ Fp.fin r ∧ Fp.val r = Fp.val a * Fp.val b := by
  obtain ⟨b1, b2⟩ := big_exact n q hn hq2
  obtain ⟨r, hr, hf, hd⟩ := Fp.mul_rd ha hb (by rw [h]; exact b1) (by rw [h]; exact b2)
  exact ⟨r, hr, hf, hd.exact n q hn hq h⟩
end
def KC : Nat := 0x3FE6A09E667F3BCD
theorem fin_one : Fp.fin Extern.MathAsm.one ∧ Fp.val Extern.MathAsm.one = 1 := ⟨⟨_, _, _, (by decide +kernel : Ieee.double.read Extern.MathAsm.one = .number false (2 ^ 52) (-52))⟩, by decide +kernel⟩
/-- what is taken from a word: the mantissa as N steps of 2^-53, and the power -/
theorem mant_val (fr : Nat) (h : fr < 2 ^ 52) : Fp.fin (fr + Extern.MathAsm.half) ∧ Fp.val (fr + Extern.MathAsm.half) = ((2 ^ 52 + fr : Nat) : Rat) * Fp.p2 (-53) := by
  have e : fr + Extern.MathAsm.half = 2 ^ 52 * 1022 + fr := by unfold Extern.MathAsm.half; omega
  rw [e]
  have hr := Fp.read_word false (2 ^ 52 * 1022 + fr) (by unfold Fp.infR; omega)
  have hw : Ieee.double.word false (2 ^ 52 * 1022 + fr) = 2 ^ 52 * 1022 + fr := rfl
  rw [hw] at hr
  refine ⟨⟨_, _, _, hr⟩, ?_⟩
  unfold Fp.val
  rw [hr]
  unfold Fp.dval Fp.sg Fp.rmag Fp.rplace
  rw [if_neg (by omega), if_neg (by omega), show (2 ^ 52 * 1022 + fr) % 2 ^ 52 = fr by omega, show (2 ^ 52 * 1022 + fr) / 2 ^ 52 = 1022 by omega]
  simp
structure PreRun (x : Nat) (small : Bool) (k c g f : Nat) : Prop where
  h1 : F .sub (Extern.MathAsm.ofInt32 (Int.ofNat (x / 2 ^ 52) - 0x3FE)) (if small then Extern.MathAsm.one else 0) k
  h2 : F .add (if small then Extern.MathAsm.one else 0) Extern.MathAsm.one c
  h3 : F .mul (x % 2 ^ 52 + Extern.MathAsm.half) c g
  h4 : F .sub g Extern.MathAsm.one f
/-- the mantissa that goes into the polynomial -/
def mantR (x : Nat) (small : Bool) : Rat := ((2 ^ 52 + x % 2 ^ 52 : Nat) : Rat) * Fp.p2 (-53) * (if small then 2 else 1)
def expoR (x : Nat) (small : Bool) : Rat := ((x / 2 ^ 52 : Nat) : Rat) - 1022 - (if small then 1 else 0)
theorem pre_ex (x : Nat) (hx : x < 2 ^ 63) (small : Bool) :
    ∃ k c g f, PreRun x small k c g f ∧ Fp.fin k ∧ Fp.fin f ∧ Fp.val k = expoR x small ∧ Fp.val f = mantR x small - 1 := by
  have hfr : x % 2 ^ 52 < 2 ^ 52 := Nat.mod_lt _ (by omega)
  have he : x / 2 ^ 52 < 2048 := by omega
  have hN : 2 ^ 52 + x % 2 ^ 52 ≤ 9007199254740991 ∧ 4503599627370496 ≤ 2 ^ 52 + x % 2 ^ 52 := by omega
  obtain ⟨fm, vm⟩ := mant_val _ hfr
  obtain ⟨fk, vk⟩ := ofInt_val (Int.ofNat (x / 2 ^ 52) - 0x3FE) (by have : Int.ofNat (x / 2 ^ 52) = ((x / 2 ^ 52 : Nat) : Int) := rfl; omega)
  obtain ⟨f1, v1⟩ := fin_one
  obtain ⟨f0, v0⟩ := fin_0
  have p52 : Fp.p2 (-53) * 2 = Fp.p2 (-52) := by have := Fp.p2_split (-52); rw [this]; grind
  obtain ⟨T, hT, hTr⟩ : ∃ T : Int, T = 9007199254740992 ∧ (T : Rat) * Fp.p2 (-53) = 1 := ⟨_, rfl, by decide +kernel⟩
  obtain ⟨U, hU, hUr⟩ : ∃ U : Int, U = 4503599627370496 ∧ (U : Rat) * Fp.p2 (-52) = 1 := ⟨_, rfl, by decide +kernel⟩
  have hkr : ((Int.ofNat (x / 2 ^ 52) - 0x3FE : Int) : Rat) = ((x / 2 ^ 52 : Nat) : Rat) - 1022 := by
    rw [show Int.ofNat (x / 2 ^ 52) = ((x / 2 ^ 52 : Nat) : Int) from rfl]
    generalize x / 2 ^ 52 = E
    push_cast
    rfl
  have hki : (Int.ofNat (x / 2 ^ 52) - 0x3FE : Int).natAbs ≤ 2000 := by rw [show Int.ofNat (x / 2 ^ 52) = ((x / 2 ^ 52 : Nat) : Int) from rfl]; omega
  unfold mantR expoR
  rw [hkr] at vk
  cases small
  · obtain ⟨k, h1, fk1, e1⟩ := sub_exact fk f0 (Int.ofNat (x / 2 ^ 52) - 0x3FE) 0 (by omega) (by omega) (by omega) (by rw [hkr, vk, v0, Fp.p2_zero]; grind)
    obtain ⟨c, h2, fc, e2⟩ := add_exact f0 f1 1 0 (by omega) (by omega) (by omega) (by rw [v0, v1, Fp.p2_zero]; decide +kernel)
    generalize 2 ^ 52 + x % 2 ^ 52 = N at *
    obtain ⟨g, h3, fg, e3⟩ := mul_exact fm fc (N : Int) (-53) (by omega) (by omega) (by omega) (by rw [vm, e2, v0, v1]; push_cast; grind)
    obtain ⟨f, h4, ff, e4⟩ := sub_exact fg f1 ((N : Int) - T) (-53) (by omega) (by omega) (by omega) (by
      rw [e3, e2, v0, vm, v1]
      push_cast
      grind)
    refine ⟨k, c, g, f, ⟨h1, h2, h3, h4⟩, fk1, ff, ?_, ?_⟩
    · rw [e1, vk, v0]; simp
    · rw [e4, e3, e2, v0, v1, vm]
      simp only [Bool.false_eq_true, if_false]
      grind
  · obtain ⟨k, h1, fk1, e1⟩ := sub_exact fk f1 (Int.ofNat (x / 2 ^ 52) - 0x3FE - 1) 0 (by omega) (by omega) (by omega) (by
      rw [vk, v1, Fp.p2_zero, Rat.intCast_sub, hkr, Rat.mul_one]; rfl)
    obtain ⟨c, h2, fc, e2⟩ := add_exact f1 f1 2 0 (by omega) (by omega) (by omega) (by rw [v1, Fp.p2_zero]; decide +kernel)
    generalize 2 ^ 52 + x % 2 ^ 52 = N at *
    obtain ⟨g, h3, fg, e3⟩ := mul_exact fm fc (N : Int) (-52) (by omega) (by omega) (by omega) (by rw [vm, e2, v1, ← p52]; push_cast; grind)
    obtain ⟨f, h4, ff, e4⟩ := sub_exact fg f1 ((N : Int) - U) (-52) (by omega) (by omega) (by omega) (by
      rw [e3, e2, vm, v1]
      push_cast
      rw [← p52] at hUr ⊢
      grind)
    refine ⟨k, c, g, f, ⟨h1, h2, h3, h4⟩, fk1, ff, ?_, ?_⟩
    · rw [e1, vk, v1]; simp
    · rw [e4, e3, e2, v1, vm]
      simp only [if_true]
      grind
theorem lt_val {a b : Nat} (ha : Fp.fin a) (hb : Fp.fin b) : Extern.MathAsm.lt a b = decide (Fp.val a < Fp.val b) := by
  have h := Fp.order_val ha hb
  unfold Extern.MathAsm.lt
  by_cases hl : Fp.val a < Fp.val b
  · have := h.1.2 hl
    rw [decide_eq_true hl]
    show (Ieee.double.order a b == some .lt) = true
    rw [this]; rfl
  · rw [decide_eq_false hl]
    show (Ieee.double.order a b == some .lt) = false
    cases ho : Ieee.double.order a b with
    | none => rfl
    | some o =>
      cases o
      · exact absurd (h.1.1 ho) hl
      · rfl
      · rfl
/-- what the logarithm is near to -/
def logR (x : Nat) (small : Bool) : Rat := expoR x small * (cval KHi + cval KLo) + ((mantR x small - 1) / (mantR x small + 1)) * (2 + polyR (((mantR x small - 1) / (mantR x small + 1)) * ((mantR x small - 1) / (mantR x small + 1))))
theorem mant_bounds (x : Nat) : ∃ small : Bool, (!Extern.MathAsm.lt 0x3FE6A09E667F3BCD (x % 2 ^ 52 + Extern.MathAsm.half)) = small ∧ 7071067 / 10000000 ≤ mantR x small ∧ mantR x small ≤ 14142136 / 10000000 ∧ (small = false → mantR x small < 1) ∧ (small = true → 1 ≤ mantR x small) := by
  have hfr : x % 2 ^ 52 < 2 ^ 52 := Nat.mod_lt _ (by omega)
  obtain ⟨fm, vm⟩ := mant_val _ hfr
  obtain ⟨fc, vc⟩ := const_fin 0x3FE6A09E667F3BCD (by decide +kernel)
  have hc : 70710678 / 100000000 ≤ cval 0x3FE6A09E667F3BCD ∧ cval 0x3FE6A09E667F3BCD ≤ 70710679 / 100000000 := by decide +kernel
  have hp : ((4503599627370496 : Nat) : Rat) * Fp.p2 (-53) = 1 / 2 := by decide +kernel
  have hp2 : ((9007199254740992 : Nat) : Rat) * Fp.p2 (-53) = 1 := by decide +kernel
  have hpp := Fp.p2_pos (-53)
  have hN : 4503599627370496 ≤ 2 ^ 52 + x % 2 ^ 52 ∧ 2 ^ 52 + x % 2 ^ 52 < 9007199254740992 := by omega
  have hl : ((4503599627370496 : Nat) : Rat) * Fp.p2 (-53) ≤ ((2 ^ 52 + x % 2 ^ 52 : Nat) : Rat) * Fp.p2 (-53) := Rat.mul_le_mul_of_nonneg_right (by exact_mod_cast hN.1) (Rat.le_of_lt hpp)
  have hh : ((2 ^ 52 + x % 2 ^ 52 : Nat) : Rat) * Fp.p2 (-53) < ((9007199254740992 : Nat) : Rat) * Fp.p2 (-53) := Rat.mul_lt_mul_of_pos_right (by exact_mod_cast hN.2) hpp
  rw [lt_val fc fm, vc]
  unfold mantR
  rw [← vm]
  rw [← vm] at hl hh
  rw [hp] at hl
  rw [hp2] at hh
  by_cases h : cval 0x3FE6A09E667F3BCD < Fp.val (x % 2 ^ 52 + Extern.MathAsm.half)
  · refine ⟨false, by rw [decide_eq_true h]; rfl, ?_, ?_, ?_, by simp⟩
    · simp only [Bool.false_eq_true, if_false]; grind
    · simp only [Bool.false_eq_true, if_false]; grind
    · intro _; simp only [Bool.false_eq_true, if_false]; grind
  · refine ⟨true, by rw [decide_eq_false h]; rfl, ?_, ?_, by simp, ?_⟩
    · simp only [if_true]; grind
    · simp only [if_true]; grind
    · intro _; simp only [if_true]; grind
theorem arch_run1 {P : Program} (w : World) (x : Nat) {small : Bool} {k c g f s0 s s2 s4 a1 a2 a3 a4 a5 a6 t1 b1 b2 b3 b4 t2 R hf0 hf c1 c2 c3 inner kh g1 g2 r : Nat} (hx0 : (x % 2 ^ 63 == 0) = false) (hx1 : ¬ x ≥ 2 ^ 63) (hx2 : ¬ x ≥ Extern.MathAsm.posInf) (hs : (!Extern.MathAsm.lt 0x3FE6A09E667F3BCD (x % 2 ^ 52 + Extern.MathAsm.half)) = small)
    (pre : PreRun x small k c g f) (L : LogRun f k s0 s s2 s4 a1 a2 a3 a4 a5 a6 t1 b1 b2 b3 b4 t2 R hf0 hf c1 c2 c3 inner kh g1 g2 r) : (Extern.MathLog.archLog #[.float .f64 x]).run P w = .ok (.float .f64 r) w := by
    change Sem.run P (ite _ _ _) w = _
    rw [if_neg (by simp [hx0]), if_neg hx1, if_neg hx2]
    dsimp only
    rw [hs]
    simp only [Extern.MathAsm.add, Extern.MathAsm.sub, Extern.MathAsm.mul, Extern.MathAsm.div]
    rw [Sem.run_bind, arith_run fS pre.h1, Result.andThen_ok]
    rw [Sem.run_bind, arith_run fA pre.h2, Result.andThen_ok]
    rw [Sem.run_bind, arith_run fM pre.h3, Result.andThen_ok]
    rw [Sem.run_bind, arith_run fS pre.h4, Result.andThen_ok]
    rw [Sem.run_bind, arith_run fA (show F .add Extern.MathAsm.two f s0 from L.h1), Result.andThen_ok]
    rw [Sem.run_bind, arith_run fQ (show F .quo f s0 s from L.h2), Result.andThen_ok]
    rw [Sem.run_bind, arith_run fM (show F .mul s s s2 from L.h3), Result.andThen_ok]
    rw [Sem.run_bind, arith_run fM (show F .mul s2 s2 s4 from L.h4), Result.andThen_ok]
    rw [Sem.run_bind, arith_run fM (show F .mul 4594499633228436036 s4 a1 from L.h5), Result.andThen_ok]
    rw [Sem.run_bind, arith_run fA (show F .add a1 4595719342595441630 a2 from L.h6), Result.andThen_ok]
    rw [Sem.run_bind, arith_run fM (show F .mul a2 s4 a3 from L.h7), Result.andThen_ok]
    rw [Sem.run_bind, arith_run fA (show F .add a3 4598818590951641945 a4 from L.h8), Result.andThen_ok]
    rw [Sem.run_bind, arith_run fM (show F .mul a4 s4 a5 from L.h9), Result.andThen_ok]
    rw [Sem.run_bind, arith_run fA (show F .add a5 4604180019048437139 a6 from L.h10), Result.andThen_ok]
    rw [Sem.run_bind, arith_run fM (show F .mul s2 a6 t1 from L.h11), Result.andThen_ok]
    rw [Sem.run_bind, arith_run fM (show F .mul 4594685411790997151 s4 b1 from L.h12), Result.andThen_ok]
    rw [Sem.run_bind, arith_run fA (show F .add b1 4597174411056806063 b2 from L.h13), Result.andThen_ok]
    rw [Sem.run_bind, arith_run fM (show F .mul b2 s4 b3 from L.h14), Result.andThen_ok]
    rw [Sem.run_bind, arith_run fA (show F .add b3 4600877379321592324 b4 from L.h15), Result.andThen_ok]
    rw [Sem.run_bind, arith_run fM (show F .mul s4 b4 t2 from L.h16), Result.andThen_ok]
    rw [Sem.run_bind, arith_run fA (show F .add t1 t2 R from L.h17), Result.andThen_ok]
    rw [Sem.run_bind, arith_run fM (show F .mul Extern.MathAsm.half f hf0 from L.h18), Result.andThen_ok]
    rw [Sem.run_bind, arith_run fM (show F .mul hf0 f hf from L.h19), Result.andThen_ok]
    rw [Sem.run_bind, arith_run fA (show F .add R hf c1 from L.h20), Result.andThen_ok]
    rw [Sem.run_bind, arith_run fM (show F .mul s c1 c2 from L.h21), Result.andThen_ok]
    rw [Sem.run_bind, arith_run fM (show F .mul 4461442080421002358 k c3 from L.h22), Result.andThen_ok]
    rw [Sem.run_bind, arith_run fA (show F .add c2 c3 inner from L.h23), Result.andThen_ok]
    rw [Sem.run_bind, arith_run fM (show F .mul k 4604418534311723008 kh from L.h24), Result.andThen_ok]
    rw [Sem.run_bind, arith_run fS (show F .sub hf inner g1 from L.h25), Result.andThen_ok]
    rw [Sem.run_bind, arith_run fS (show F .sub g1 f g2 from L.h26), Result.andThen_ok]
    rw [Sem.run_bind, arith_run fS (show F .sub kh g2 r from L.h27), Result.andThen_ok]
    rfl
set_option maxHeartbeats 1600000 in
theorem arch_log (P : Program) (x : Nat) (h0 : 0 < x) (h1 : x < 0x7FF0000000000000) :
    ∃ r small, (∀ w, (Extern.MathLog.archLog #[.float .f64 x]).run P w = .ok (.float .f64 r) w) ∧ Fp.fin r ∧ Near (Fp.val r) (logR x small) (1 / 1000000000000) ∧
      7071067 / 10000000 ≤ mantR x small ∧ mantR x small ≤ 14142136 / 10000000 ∧ (small = false → mantR x small < 1) ∧ (small = true → 1 ≤ mantR x small) := by
  obtain ⟨small, hs, m0, m1, m2, m3⟩ := mant_bounds x
  obtain ⟨k, c, g, f, pre, fk, ff, vk, vf⟩ := pre_ex x (by omega) small
  have he : x / 2 ^ 52 < 2048 := by omega
  have hke : -1100 ≤ expoR x small ∧ expoR x small ≤ 1100 := by
    unfold expoR
    have e0 : (0 : Rat) ≤ ((x / 2 ^ 52 : Nat) : Rat) := by exact_mod_cast Nat.zero_le _
    have e1 : ((x / 2 ^ 52 : Nat) : Rat) ≤ 2048 := by exact_mod_cast Nat.le_of_lt he
    cases small <;> simp <;> constructor <;> grind
  obtain ⟨s0, s, s2, s4, a1, a2, a3, a4, a5, a6, t1, b1, b2, b3, b4, t2, R, hf0, hf, c1, c2, c3, inner, kh, g1, g2, r, L, fr, nr⟩ := log_ex ff fk (by rw [vf]; constructor <;> grind) (by rw [vk]; exact hke)
  refine ⟨r, small, ?_, fr, ?_, m0, m1, m2, m3⟩
  · have hx0 : (x % 2 ^ 63 == 0) = false := by rw [beq_eq_false_iff_ne]; omega
    have hx1 : ¬ x ≥ 2 ^ 63 := by omega
    have hx2 : ¬ x ≥ Extern.MathAsm.posInf := by unfold Extern.MathAsm.posInf; omega
    exact fun w => arch_run1 w x hx0 hx1 hx2 hs pre L
  · unfold logR
    rw [vk, vf] at nr
    rw [show 2 + (mantR x small - 1) = mantR x small + 1 by grind] at nr
    exact nr
end Go.Proofs.Ytfaciljklligeaa.Ct
