/- Small whole numbers as singles and as doubles; the contracts of Clamp at six kinds. -/
import Derived.Test.YtnlpohhebkcjkaaBack
namespace Go.Proofs.Ytnlpohhebkcjkaa.C
open Go.ChangeShapes Go.WideShapes Go.RowKit I F

theorem swidth : Ieee.single.signWeight = 2 ^ 31 := rfl
theorem sbin : Ieee.single.binade = 2 ^ 23 := rfl
theorem sinf : Ieee.single.infRung = 255 * 2 ^ 23 := rfl
theorem sleast : Ieee.single.leastPlace = -149 := by decide
theorem sread_word (s : Bool) (r : Nat) (h : r < 255 * 2 ^ 23) (h2 : 2 ^ 23 ≤ r) :
    Ieee.single.read (Ieee.single.word s r) = .number s (2 ^ 23 + r % 2 ^ 23) (-149 + (r / 2 ^ 23 - 1 : Nat)) := by
  have hw : (Ieee.single.word s r / 2 ^ 31 % 2 == 1) = s ∧ Ieee.single.word s r % 2 ^ 31 = r := by
    unfold Ieee.Format.word
    rw [swidth]
    cases s <;> simp only [Bool.false_eq_true, if_false, if_true]
    · constructor
      · rw [Nat.div_eq_of_lt (by omega)]; rfl
      · omega
    · constructor
      · rw [show (2 ^ 31 + r) / 2 ^ 31 = 1 by omega]; rfl
      · omega
  unfold Ieee.Format.read
  rw [swidth, hw.1, hw.2, sbin, sinf, sleast]
  dsimp only
  rw [if_neg (by omega), if_pos h]
/-- a whole number below 2^24 is a single, exactly -/
theorem sexact (s : Bool) (m : Nat) (hm : m ≠ 0) (hl : m.log2 ≤ 23) : Ieee.single.read (Ieee.single.nearest s m 0) = .number s (m * 2 ^ (23 - m.log2)) ((m.log2 : Int) - 23) := by
  have hlo := Fp.log2_le m hm
  have hhi := Fp.log2_lt m
  obtain ⟨k, hk⟩ : ∃ k, k = m * 2 ^ (23 - m.log2) := ⟨_, rfl⟩
  have k1 : 2 ^ 23 ≤ k := by
    rw [hk]
    have := Nat.mul_le_mul_right (2 ^ (23 - m.log2)) hlo
    rw [← Nat.pow_add, show m.log2 + (23 - m.log2) = 23 by omega] at this
    exact this
  have k2 : k < 2 ^ 24 := by
    rw [hk]
    have := Nat.mul_lt_mul_of_pos_right hhi (Nat.two_pow_pos (23 - m.log2))
    rw [← Nat.pow_add, show m.log2 + 1 + (23 - m.log2) = 24 by omega] at this
    exact this
  have hn : Ieee.single.nearest s m 0 = Ieee.single.word s ((126 + m.log2) * 2 ^ 23 + k) := by
    unfold Ieee.Format.nearest
    rw [if_neg hm]
    dsimp only
    rw [sleast, sbin, sinf, show ((Ieee.single.fractionBits : Nat) : Int) = 23 from rfl]
    have e : max (0 + (m.log2 : Int) - 23) (-149) = (m.log2 : Int) - 23 := by omega
    rw [e, show (0 - ((m.log2 : Int) - 23)).toNat = 23 - m.log2 by omega, show ((m.log2 : Int) - 23 - 0).toNat = 0 by omega, Nat.shiftLeft_eq, ← hk]
    have hc := Fp.cut_exact s k 0
    rw [Nat.pow_zero, Nat.mul_one] at hc
    rw [hc, show ((m.log2 : Int) - 23 - -149).toNat = 126 + m.log2 by omega, Nat.min_eq_left (by omega)]
  rw [hn, sread_word s _ (by omega) (by omega)]
  congr 1
  · omega
  · omega
theorem sval (n : Int) (h : n.natAbs < 2 ^ 24) : ∃ s m e, Ieee.single.read (floatOfInt .f32 n) = .number s m e ∧ Fp.dval (.number s m e) = (n : Rat) := by
  have hf : floatOfInt .f32 n = Ieee.single.nearest (n < 0) n.natAbs 0 := rfl
  rw [hf]
  by_cases h0 : n = 0
  · subst h0
    exact ⟨false, 0, -149, by decide +kernel, by simp [Fp.dval]⟩
  · have hl : n.natAbs.log2 ≤ 23 := by
      have h1 := Fp.log2_le n.natAbs (by omega)
      have h2 : 2 ^ n.natAbs.log2 < 2 ^ 24 := Nat.lt_of_le_of_lt h1 h
      have := (Nat.pow_lt_pow_iff_right (by omega)).1 h2
      omega
    refine ⟨_, _, _, sexact _ n.natAbs (by omega) hl, ?_⟩
    have hv := Fp.number_of_int n 0 (decide (n < 0)) (fun _ => rfl)
    rw [Fp.p2_zero, Rat.mul_one] at hv
    rw [← hv]
    unfold Fp.dval
    dsimp only
    rw [Rat.natCast_mul, ← Fp.p2_nat, Fp.p2_zero]
    have : Fp.p2 ((23 - n.natAbs.log2 : Nat) : Int) * Fp.p2 ((n.natAbs.log2 : Int) - 23) = 1 := by
      rw [← Fp.p2_add, show ((23 - n.natAbs.log2 : Nat) : Int) + ((n.natAbs.log2 : Int) - 23) = 0 by omega, Fp.p2_zero]
    generalize Fp.p2 ((23 - n.natAbs.log2 : Nat) : Int) = a at *
    generalize Fp.p2 ((n.natAbs.log2 : Int) - 23) = b at *
    grind
/-- the order of two data that are numbers -/
theorem dorder (s t : Bool) (m n : Nat) (i j : Int) (a b : Int) (ha : Fp.dval (.number s m i) = (a : Rat)) (hb : Fp.dval (.number t n j) = (b : Rat)) : Ieee.Datum.order (.number s m i) (.number t n j) = some (compare a b) := by
  have h1 := Fp.signed_val s m (i - min i j).toNat (min i j)
  have h2 := Fp.signed_val t n (j - min i j).toNat (min i j)
  rw [show (min i j + ((i - min i j).toNat : Int)) = i by omega] at h1
  rw [show (min i j + ((j - min i j).toNat : Int)) = j by omega] at h2
  unfold Fp.dval at ha hb
  dsimp only at ha hb
  rw [← h1] at ha
  rw [← h2] at hb
  unfold Ieee.Datum.order
  dsimp only
  congr 1
  have hp := Fp.p2_pos (min i j)
  generalize Ieee.signed s m (i - min i j).toNat = x at *
  generalize Ieee.signed t n (j - min i j).toNat = y at *
  generalize Fp.p2 (min i j) = p at *
  have key : ∀ x y a b : Int, (x : Rat) * p = (a : Rat) → (y : Rat) * p = (b : Rat) → (x < y ↔ a < b) := by
    intro x y a b h h'
    constructor
    · intro hl
      have := Rat.mul_lt_mul_of_pos_right (Rat.intCast_lt_intCast.2 hl) hp
      rw [h, h'] at this
      exact Rat.intCast_lt_intCast.1 this
    · intro hl
      have := Rat.intCast_lt_intCast.2 hl
      rw [← h, ← h'] at this
      exact Rat.intCast_lt_intCast.1 (Rat.lt_of_mul_lt_mul_right this (Rat.le_of_lt hp))
  have k1 := key x y a b ha hb
  have k2 := key y x b a hb ha
  rcases Int.lt_trichotomy a b with h | h | h
  · rw [Int.compare_eq_lt.2 h, Int.compare_eq_lt.2 (k1.2 h)]
  · have : x = y := by
      have n1 : ¬ x < y := fun h' => by have := k1.1 h'; omega
      have n2 : ¬ y < x := fun h' => by have := k2.1 h'; omega
      omega
    rw [Int.compare_eq_eq.2 h, Int.compare_eq_eq.2 this]
  · rw [Int.compare_eq_gt.2 h, Int.compare_eq_gt.2 (k2.2 h)]

def w32 (n : Int) : Nat := floatOfInt .f32 n
def w64 (n : Int) : Nat := Ieee.double.write (Ieee.single.read (w32 n))
def Small (n : Int) : Prop := -32768 ≤ n ∧ n ≤ 32767
theorem ord32 (a b : Int) (ha : Small a) (hb : Small b) : FloatKind.f32.format.order (w32 a) (w32 b) = some (compare a b) := by
  obtain ⟨s, m, e, h1, h2⟩ := sval a (by unfold Small at ha; omega)
  obtain ⟨t, n, f, h3, h4⟩ := sval b (by unfold Small at hb; omega)
  show Ieee.Format.order Ieee.single _ _ = _
  unfold Ieee.Format.order w32
  rw [h1, h3]
  exact dorder _ _ _ _ _ _ a b h2 h4
theorem val64 (a : Int) (ha : Small a) : ∃ s m e, Ieee.double.read (w64 a) = .number s m e ∧ Fp.dval (.number s m e) = (a : Rat) ∧ floatToFloatBits .f32 (w32 a) .f64 = some (w64 a) := by
  obtain ⟨s, m, e, h1, h2⟩ := sval a (by unfold Small at ha; omega)
  unfold Small at ha
  have hb : Fp.dval (.number s m e) < Fp.p2 1023 ∧ -Fp.dval (.number s m e) < Fp.p2 1023 := by
    rw [h2]
    have h3 : Fp.p2 16 < Fp.p2 1023 := Fp.p2_lt (by omega)
    have h4 : Fp.p2 16 = 65536 := by decide +kernel
    have h5 : (a : Rat) ≤ ((32767 : Int) : Rat) := Rat.intCast_le_intCast.2 ha.2
    have h6 : ((-32768 : Int) : Rat) ≤ (a : Rat) := Rat.intCast_le_intCast.2 ha.1
    have h7 : ((32767 : Int) : Rat) = 32767 := rfl
    have h8 : ((-32768 : Int) : Rat) = -32768 := rfl
    rw [h7] at h5
    rw [h8] at h6
    constructor <;> grind
  obtain ⟨m', e', hr, hrd⟩ := Fp.write_rd s m e (Fp.abs_lt_of s m e _ hb.1 hb.2)
  have hw : w64 a = Ieee.double.write (.number s m e) := by unfold w64 w32; rw [h1]
  have hx := hrd.exact a 0 (by omega) (by omega) (by rw [h2, Fp.p2_zero, Rat.mul_one])
  refine ⟨s, m', e', by rw [hw]; exact hr, by rw [hx, h2], ?_⟩
  unfold floatToFloatBits
  rw [if_neg (by decide)]
  have hd : FloatKind.decode .f32 (w32 a) = .number s m e := h1
  rw [hd]
  dsimp only
  have hi : (FloatKind.decode .f64 (FloatKind.encode .f64 (.number s m e))).isInfinity = false := by
    show (Ieee.double.read (Ieee.double.write (.number s m e))).isInfinity = false
    rw [hr]; rfl
  rw [hi, hw]; rfl
theorem ord64 (a b : Int) (ha : Small a) (hb : Small b) : FloatKind.f64.format.order (w64 a) (w64 b) = some (compare a b) := by
  obtain ⟨s, m, e, h1, h2, _⟩ := val64 a ha
  obtain ⟨t, n, f, h3, h4, _⟩ := val64 b hb
  show Ieee.Format.order Ieee.double _ _ = _
  unfold Ieee.Format.order
  rw [h1, h3]
  exact dorder _ _ _ _ _ _ a b h2 h4
end Go.Proofs.Ytnlpohhebkcjkaa.C
