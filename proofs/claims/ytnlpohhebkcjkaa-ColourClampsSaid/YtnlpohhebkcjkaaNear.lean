/- Whole colours are near the real ones: the plain law of ColourNear. -/
import Derived.Test.YtnlpohhebkcjkaaByteLaw
namespace Go.Proofs.Ytnlpohhebkcjkaa.K
open Go.ChangeShapes Go.WideShapes Go.RowKit I F

def eps : Rat := Fp.p2 (-45)
theorem eps_pos : 0 < eps := Fp.p2_pos _
theorem eps_le : eps ≤ 1 / 1000000 := by decide +kernel
theorem p29 : Fp.p2 9 = 512 := by decide +kernel
theorem p2_big : (512 : Rat) < Fp.p2 1023 := by rw [← p29]; exact Fp.p2_lt (by omega)

structure Op (r : Nat) (v : Rat) : Prop where
  fin : Fp.fin r
  up : Fp.val r - v ≤ eps
  low : v - Fp.val r ≤ eps
theorem Op.of_rd {r : Nat} {v : Rat} (h : Fp.fin r) (k : Fp.Rd (Fp.val r) v) (a : v < 512) (b : -v < 512) : Op r v := by
  have := k.near 9 (by omega) (by rw [p29]; exact a) (by rw [p29]; exact b)
  exact ⟨h, this.1, this.2⟩
theorem add_op {a b : Nat} (ha : Fp.fin a) (hb : Fp.fin b) (h1 : Fp.val a + Fp.val b < 512) (h2 : -(Fp.val a + Fp.val b) < 512) (t : Nat) : Op (fv .add .f64 a b t) (Fp.val a + Fp.val b) := by
  have hp := p2_big
  obtain ⟨r, e, f, k⟩ := Fp.add_rd ha hb (by grind) (by grind)
  have : fv .add .f64 a b t = r := by unfold fv; rw [show floatBits .add .f64 a b = some r from e]
  rw [this]; exact .of_rd f k h1 h2
theorem sub_op {a b : Nat} (ha : Fp.fin a) (hb : Fp.fin b) (h1 : Fp.val a - Fp.val b < 512) (h2 : -(Fp.val a - Fp.val b) < 512) (t : Nat) : Op (fv .sub .f64 a b t) (Fp.val a - Fp.val b) := by
  have hp := p2_big
  obtain ⟨r, e, f, k⟩ := Fp.sub_rd ha hb (by grind) (by grind)
  have : fv .sub .f64 a b t = r := by unfold fv; rw [show floatBits .sub .f64 a b = some r from e]
  rw [this]; exact .of_rd f k h1 h2
theorem mul_op {a b : Nat} (ha : Fp.fin a) (hb : Fp.fin b) (h1 : Fp.val a * Fp.val b < 512) (h2 : -(Fp.val a * Fp.val b) < 512) (t : Nat) : Op (fv .mul .f64 a b t) (Fp.val a * Fp.val b) := by
  have hp := p2_big
  obtain ⟨r, e, f, k⟩ := Fp.mul_rd ha hb (by grind) (by grind)
  have : fv .mul .f64 a b t = r := by unfold fv; rw [show floatBits .mul .f64 a b = some r from e]
  rw [this]; exact .of_rd f k h1 h2

theorem mul_bd (d D r R : Rat) (h1 : d ≤ D) (h2 : -d ≤ D) (h3 : r ≤ R) (h4 : -r ≤ R) : d * r ≤ D * R ∧ -(d * r) ≤ D * R := by
  have a := Rat.mul_nonneg (show 0 ≤ D - d by grind) (show 0 ≤ R + r by grind)
  have b := Rat.mul_nonneg (show 0 ≤ D + d by grind) (show 0 ≤ R - r by grind)
  have c := Rat.mul_nonneg (show 0 ≤ D - d by grind) (show 0 ≤ R - r by grind)
  have e := Rat.mul_nonneg (show 0 ≤ D + d by grind) (show 0 ≤ R + r by grind)
  constructor <;> grind

def C1 : Nat := 4608992865850220347
def C2 : Nat := 4599871028115482986
def C3 : Nat := 4604607587368319116
def C4 : Nat := 4610659197712347431
def W128 : Nat := 4638707616191610880
theorem c1 : Fp.fin C1 ∧ Fp.val C1 - 1402 / 1000 ≤ 1 / 1000000000 ∧ 1402 / 1000 - Fp.val C1 ≤ 1 / 1000000000 := ⟨Fp.fin_rung (by decide +kernel), by decide +kernel, by decide +kernel⟩
theorem c2 : Fp.fin C2 ∧ Fp.val C2 - 344136286 / 1000000000 ≤ 1 / 1000000000 ∧ 344136286 / 1000000000 - Fp.val C2 ≤ 1 / 1000000000 := ⟨Fp.fin_rung (by decide +kernel), by decide +kernel, by decide +kernel⟩
theorem c3 : Fp.fin C3 ∧ Fp.val C3 - 714136286 / 1000000000 ≤ 1 / 1000000000 ∧ 714136286 / 1000000000 - Fp.val C3 ≤ 1 / 1000000000 := ⟨Fp.fin_rung (by decide +kernel), by decide +kernel, by decide +kernel⟩
theorem c4 : Fp.fin C4 ∧ Fp.val C4 - 1772 / 1000 ≤ 1 / 1000000000 ∧ 1772 / 1000 - Fp.val C4 ≤ 1 / 1000000000 := ⟨Fp.fin_rung (by decide +kernel), by decide +kernel, by decide +kernel⟩
theorem v128 : Fp.fin W128 ∧ Fp.val W128 = 128 := ⟨Fp.fin_rung (by decide +kernel), by decide +kernel⟩

/-- what a number of Real is worth -/
structure Close (a : Nat) (v : Rat) : Prop where
  fin : Fp.fin a
  up : Fp.val a - v ≤ 1 / 10000
  low : v - Fp.val a ≤ 1 / 10000

/-- a coefficient times a difference -/
theorem times {C d : Nat} {c v : Rat} (hC : Fp.fin C ∧ Fp.val C - c ≤ 1 / 1000000000 ∧ c - Fp.val C ≤ 1 / 1000000000) (c0 : 0 ≤ c) (c1 : c ≤ 2) (hd : Op d v) (v0 : -130 ≤ v) (v1 : v ≤ 130) (t : Nat) :
    Fp.fin (fv .mul .f64 C d t) ∧ Fp.val (fv .mul .f64 C d t) - c * v ≤ 1 / 100000 ∧ c * v - Fp.val (fv .mul .f64 C d t) ≤ 1 / 100000 ∧ c * v ≤ 260 ∧ -(c * v) ≤ 260 := by
  obtain ⟨fC, h1, h2⟩ := hC
  have e0 := eps_pos
  have e1 := eps_le
  have hu := hd.up
  have hl := hd.low
  have p1 := mul_bd (Fp.val C - c) (1 / 1000000000) (Fp.val d) 131 (by grind) (by grind) (by grind) (by grind)
  have p2 := mul_bd c 2 (Fp.val d - v) eps (by grind) (by grind) (by grind) (by grind)
  have p3 := mul_bd c 2 v 130 (by grind) (by grind) (by grind) (by grind)
  have p4 := mul_bd (Fp.val C) 3 (Fp.val d) 131 (by grind) (by grind) (by grind) (by grind)
  have hm := mul_op fC hd.fin (by grind) (by grind) t
  have hmu := hm.up
  have hml := hm.low
  refine ⟨hm.fin, ?_, ?_, ?_, ?_⟩
  · clear p4; grind
  · clear p4; grind
  · grind
  · grind

theorem Close.of_op {r : Nat} {v w : Rat} (h : Op r v) (a : v - w ≤ 1 / 20000) (b : w - v ≤ 1 / 20000) : Close r w := by
  have e1 := eps_le
  have := h.up
  have := h.low
  exact ⟨h.fin, by grind, by grind⟩
theorem real_near {Y CB CR a b c : Nat} (hY : Fp.fin Y) (hB : Fp.fin CB) (hR : Fp.fin CR) (y0 : -2 ≤ Fp.val Y) (y1 : Fp.val Y ≤ 257) (b0 : -2 ≤ Fp.val CB) (b1 : Fp.val CB ≤ 257) (r0 : -2 ≤ Fp.val CR) (r1 : Fp.val CR ≤ 257)
    (h : RealR Y CB CR a b c) :
    Close a (Fp.val Y + 1402 / 1000 * (Fp.val CR - 128)) ∧ Close b (Fp.val Y - 344136286 / 1000000000 * (Fp.val CB - 128) - 714136286 / 1000000000 * (Fp.val CR - 128)) ∧
      Close c (Fp.val Y + 1772 / 1000 * (Fp.val CB - 128)) := by
  obtain ⟨t1, t2, t3, t4, t5, t6, t7, t8, t9, t10, rfl, rfl, rfl⟩ := h
  have e0 := eps_pos
  have e1 := eps_le
  have k := v128.2
  have hr := sub_op hR v128.1 (by rw [k]; grind) (by rw [k]; grind) t1
  have hb := sub_op hB v128.1 (by rw [k]; grind) (by rw [k]; grind) t4
  rw [k] at hr hb
  obtain ⟨m1, u1, l1, x1, z1⟩ := times c1 (by grind) (by grind) hr (by grind) (by grind) t2
  obtain ⟨m2, u2, l2, x2, z2⟩ := times c2 (by grind) (by grind) hb (by grind) (by grind) t5
  obtain ⟨m3, u3, l3, x3, z3⟩ := times c3 (by grind) (by grind) hr (by grind) (by grind) t7
  obtain ⟨m4, u4, l4, x4, z4⟩ := times c4 (by grind) (by grind) hb (by grind) (by grind) t9
  have s1 := add_op hY m1 (by grind) (by grind) t3
  have s4 := add_op hY m4 (by grind) (by grind) t10
  have s2 := sub_op hY m2 (by grind) (by grind) t6
  have s2u := s2.up
  have s2l := s2.low
  have s3 := sub_op s2.fin m3 (by grind) (by grind) t8
  exact ⟨.of_op s1 (by clear s2u s2l; grind) (by clear s2u s2l; grind), .of_op s3 (by grind) (by grind), .of_op s4 (by clear s2u s2l; grind) (by clear s2u s2l; grind)⟩

/-- a whole number near a real one: the byte of it is no more than one apart; a real one near that real one is no more than four apart -/
theorem clip_near (I : Int) (a n : Nat) (v : Rat) (hc : Close a v) (h1 : (I : Rat) - v ≤ 502 / 1000) (h2 : v - (I : Rat) ≤ 502 / 1000) (hn : Fp.ByteR a n) : absI (clipI I) n ≤ 1 := by
  have hup := hc.up
  have hlow := hc.low
  obtain ⟨s, m, e, hr⟩ := hc.fin
  unfold Fp.ByteR at hn; rw [hr] at hn
  have k := Fp.ByteIs.le hn
  have key1 : I ≤ (n : Int) + 1 ∨ n = 255 := by
    rcases Fp.ByteIs.high hn with h | h
    · exact .inr h
    · left
      have : (I : Rat) < (((n : Int) + 2 : Int) : Rat) := by
        push_cast
        have : (((n : Nat) : Int) : Rat) = (n : Rat) := by norm_cast
        grind
      have := Rat.intCast_lt_intCast.1 this
      omega
  have key2 : (n : Int) - 1 ≤ I ∨ n = 0 := by
    rcases Fp.ByteIs.low hn with h | h
    · exact .inr h
    · left
      have : (((n : Int) - 2 : Int) : Rat) < (I : Rat) := by
        push_cast
        have : (((n : Nat) : Int) : Rat) = (n : Rat) := by norm_cast
        grind
      have := Rat.intCast_lt_intCast.1 this
      omega
  unfold absI clipI
  split <;> split <;> (try split) <;> omega

theorem int_red (y r : Int) (h0 : 0 ≤ r) (h1 : r ≤ 255) : ((y + (91881 * (r - 128) + 32768) / 65536 : Int) : Rat) - ((y : Rat) + 1402 / 1000 * ((r : Rat) - 128)) ≤ 502 / 1000 ∧
    ((y : Rat) + 1402 / 1000 * ((r : Rat) - 128)) - ((y + (91881 * (r - 128) + 32768) / 65536 : Int) : Rat) ≤ 502 / 1000 := by
  obtain ⟨q, hq⟩ : ∃ q, q = (91881 * (r - 128) + 32768) / 65536 := ⟨_, rfl⟩
  rw [← hq]
  have a1 : 65536 * q ≤ 91881 * (r - 128) + 32768 := by omega
  have a2 : 91881 * (r - 128) + 32768 < 65536 * q + 65536 := by omega
  have b1 : ((65536 * q : Int) : Rat) ≤ ((91881 * (r - 128) + 32768 : Int) : Rat) := Rat.intCast_le_intCast.2 a1
  have b2 : ((91881 * (r - 128) + 32768 : Int) : Rat) < ((65536 * q + 65536 : Int) : Rat) := Rat.intCast_lt_intCast.2 a2
  have b3 : (0 : Rat) ≤ (r : Rat) := by exact_mod_cast h0
  have b4 : (r : Rat) ≤ ((255 : Int) : Rat) := Rat.intCast_le_intCast.2 h1
  have b5 : ((255 : Int) : Rat) = 255 := rfl
  rw [b5] at b4
  rw [Rat.intCast_mul] at b1
  rw [Rat.intCast_add, Rat.intCast_mul, Rat.intCast_sub] at b1 b2
  rw [Rat.intCast_add, Rat.intCast_mul] at b2
  rw [Rat.intCast_add]
  have z1 : ((91881 : Int) : Rat) = 91881 := rfl
  have z2 : ((32768 : Int) : Rat) = 32768 := rfl
  have z3 : ((65536 : Int) : Rat) = 65536 := rfl
  have z4 : ((128 : Int) : Rat) = 128 := rfl
  rw [z1, z2, z3, z4] at b1 b2
  constructor <;> grind
end Go.Proofs.Ytnlpohhebkcjkaa.K
