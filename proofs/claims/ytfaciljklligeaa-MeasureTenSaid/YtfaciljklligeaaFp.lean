/- Doubles by plain arithmetic: how near what is written is. -/
import Ieee.Arith
import GoSem.Core.Float
import Derived.Laws.BitsAllLaws
import Derived.Laws.BitsLemmas
import Derived.Laws.FloatArith
namespace Go.Proofs.Ytfaciljklligeaa.Fp
open Ieee

/-- two to a whole power -/
def p2 (e : Int) : Rat := (2 : Rat) ^ e
theorem p2_add (a b : Int) : p2 (a + b) = p2 a * p2 b := Rat.zpow_add (by decide) a b
theorem p2_pos (e : Int) : 0 < p2 e := Rat.zpow_pos (by decide)
theorem p2_nat (n : Nat) : p2 n = ((2 ^ n : Nat) : Rat) := by
  unfold p2; rw [Rat.zpow_natCast]; norm_cast
theorem p2_zero : p2 0 = 1 := by decide
theorem p2_one : p2 1 = 2 := by decide
theorem p2_le {a b : Int} (h : a ≤ b) : p2 a ≤ p2 b := by
  obtain ⟨k, rfl⟩ : ∃ k : Nat, b = a + k := ⟨(b - a).toNat, by omega⟩
  rw [p2_add, p2_nat]
  have h1 : 1 ≤ 2 ^ k := Nat.one_le_two_pow
  have h2 : (1 : Rat) ≤ ((2 ^ k : Nat) : Rat) := by exact_mod_cast h1
  have h3 := p2_pos a
  have := Rat.mul_le_mul_of_nonneg_left h2 (Rat.le_of_lt h3)
  grind
theorem p2_lt {a b : Int} (h : a < b) : p2 a < p2 b := by
  have h1 := p2_le (show a + 1 ≤ b by omega)
  rw [p2_add, p2_one] at h1
  have := p2_pos a
  grind

def sg (s : Bool) : Rat := if s then -1 else 1
def dval : Datum → Rat
  | .number s m e => sg s * (m : Rat) * p2 e
  | _ => 0

/-- the value of a finite word -/
def val (w : Nat) : Rat := dval (double.read w)
def fin (w : Nat) : Prop := ∃ s m e, double.read w = .number s m e

/-- half-to-even: no farther than a half -/
theorem cut_spec (s : Bool) (n d : Nat) :
    2 * (Toward.even.cut s n d) * 2 ^ d ≤ 2 * n + 2 ^ d ∧ 2 * n ≤ 2 * (Toward.even.cut s n d) * 2 ^ d + 2 ^ d := by
  unfold Toward.cut
  dsimp only
  by_cases hd : d ≤ n.log2 + 2
  · rw [Nat.min_eq_left hd, Nat.shiftLeft_eq, Nat.one_mul]
    have hp : 0 < 2 ^ d := Nat.two_pow_pos d
    generalize 2 ^ d = g at *
    have hdm := Nat.div_add_mod n g
    have hlt := Nat.mod_lt n hp
    generalize n / g = q at *
    generalize n % g = r at *
    subst hdm
    by_cases h1 : g < 2 * r
    · simp only [h1, decide_true, Bool.true_or, Bool.toNat_true]
      constructor <;> grind
    · by_cases h2 : g = 2 * r
      · by_cases h3 : q % 2 = 1
        · simp [h2, h3]; grind
        · simp [h2]; grind
      · simp only [h1, decide_false, Bool.false_or]
        have : (g == 2 * r) = false := by simp [h2]
        simp only [this, Bool.false_and, Bool.toNat_false]
        constructor <;> grind
  · have hm : min d (n.log2 + 2) = n.log2 + 2 := by omega
    rw [hm, Nat.shiftLeft_eq, Nat.one_mul]
    have hn : n < 2 ^ (n.log2 + 1) := Nat.lt_log2_self
    have hg : 2 ^ (n.log2 + 2) = 2 * 2 ^ (n.log2 + 1) := by rw [Nat.pow_succ]; omega
    have hle : 2 ^ (n.log2 + 2) ≤ 2 ^ d := Nat.pow_le_pow_right (by omega) (by omega)
    have h0 : n / 2 ^ (n.log2 + 2) = 0 := Nat.div_eq_of_lt (by omega)
    have h1 : n % 2 ^ (n.log2 + 2) = n := Nat.mod_eq_of_lt (by omega)
    rw [h0, h1]
    have h2 : ¬ 2 ^ (n.log2 + 2) < 2 * n := by omega
    have h3 : (2 ^ (n.log2 + 2) == 2 * n) = false := by simp; omega
    simp [h2, h3]
    omega

theorem cut_exact (s : Bool) (k d : Nat) : Toward.even.cut s (k * 2 ^ d) d = k := by
  have h := cut_spec s (k * 2 ^ d) d
  have hp : 0 < 2 ^ d := Nat.two_pow_pos d
  generalize Toward.even.cut s (k * 2 ^ d) d = c at *
  generalize 2 ^ d = g at *
  obtain ⟨h1, h2⟩ := h
  have a1 : 2 * c * g ≤ (2 * k + 1) * g := by grind
  have a2 : (2 * k) * g ≤ (2 * c + 1) * g := by grind
  have b1 := Nat.le_of_mul_le_mul_right a1 hp
  have b2 := Nat.le_of_mul_le_mul_right a2 hp
  omega

/-- the value of a rung below infinity -/
def rmag (r : Nat) : Nat := if r < 2 ^ 52 then r else 2 ^ 52 + r % 2 ^ 52
def rplace (r : Nat) : Int := if r < 2 ^ 52 then -1074 else -1074 + (r / 2 ^ 52 - 1 : Nat)
def infR : Nat := 2047 * 2 ^ 52
def signW : Nat := 2 ^ 63

theorem binade_eq : double.binade = 2 ^ 52 := rfl
theorem infRung_eq : double.infRung = infR := rfl
theorem signWeight_eq : double.signWeight = signW := rfl
theorem least_eq : double.leastPlace = -1074 := by decide

theorem word_parts (s : Bool) (r : Nat) (h : r < signW) : (double.word s r / signW % 2 == 1) = s ∧ double.word s r % signW = r := by
  unfold Format.word
  rw [signWeight_eq]
  unfold signW at *
  cases s <;> simp only [Bool.false_eq_true, if_false, if_true]
  · constructor
    · rw [Nat.div_eq_of_lt h]; rfl
    · exact Nat.mod_eq_of_lt h
  · constructor
    · rw [show (2 ^ 63 + r) / 2 ^ 63 = 1 by omega]; rfl
    · omega

theorem read_word (s : Bool) (r : Nat) (h : r < infR) : double.read (double.word s r) = .number s (rmag r) (rplace r) := by
  have hw := word_parts s r (by unfold infR at h; unfold signW; omega)
  unfold Format.read
  rw [signWeight_eq, hw.1, hw.2, binade_eq, infRung_eq, least_eq]
  unfold rmag rplace
  dsimp only
  by_cases h1 : r < 2 ^ 52
  · rw [if_pos h1, if_pos h1, if_pos h1]
  · rw [if_neg h1, if_neg h1, if_neg h1, if_pos h]

/-- a rung by its binade -/
theorem rung_val (L k : Nat) (h : L = 0 ∨ 2 ^ 52 ≤ k) (hk : k ≤ 2 ^ 53) :
    (rmag (L * 2 ^ 52 + k) : Rat) * p2 (rplace (L * 2 ^ 52 + k)) = (k : Rat) * p2 (-1074 + L) := by
  by_cases h1 : k < 2 ^ 52
  · have hL : L = 0 := by omega
    subst hL
    unfold rmag rplace
    rw [if_pos (by omega), if_pos (by omega)]
    simp
  · have hn : ¬ (L * 2 ^ 52 + k < 2 ^ 52) := by omega
    unfold rmag rplace
    rw [if_neg hn, if_neg hn]
    by_cases h2 : k = 2 ^ 53
    · subst h2
      rw [show (L * 2 ^ 52 + 2 ^ 53) / 2 ^ 52 - 1 = L + 1 by omega, show 2 ^ 52 + (L * 2 ^ 52 + 2 ^ 53) % 2 ^ 52 = 2 ^ 52 by omega]
      rw [show (-1074 + ((L + 1 : Nat) : Int)) = (-1074 + (L : Int)) + 1 by omega, p2_add _ 1, p2_one]
      have : ((2 ^ 53 : Nat) : Rat) = 2 * ((2 ^ 52 : Nat) : Rat) := by decide +kernel
      rw [this]
      grind
    · rw [show (L * 2 ^ 52 + k) / 2 ^ 52 - 1 = L by omega, show 2 ^ 52 + (L * 2 ^ 52 + k) % 2 ^ 52 = k by omega]

theorem log2_lt (m : Nat) : m < 2 ^ (m.log2 + 1) := Nat.lt_log2_self
theorem log2_le (m : Nat) (h : m ≠ 0) : 2 ^ m.log2 ≤ m := Nat.log2_self_le h

/-- what nearest gives: a rung whose value is kept * 2^last -/
theorem nearest_parts (s : Bool) (m : Nat) (p : Int) (hm : m ≠ 0) (hb : p + m.log2 ≤ 1022) :
    ∃ (k : Nat) (last : Int), last = max (p + m.log2 - 52) (-1074) ∧
      double.read (double.nearest s m p) = .number s (rmag ((last + 1074).toNat * 2 ^ 52 + k)) (rplace ((last + 1074).toNat * 2 ^ 52 + k)) ∧
      (rmag ((last + 1074).toNat * 2 ^ 52 + k) : Rat) * p2 (rplace ((last + 1074).toNat * 2 ^ 52 + k)) = (k : Rat) * p2 last ∧
      2 * (k : Rat) * p2 last ≤ 2 * ((m : Rat) * p2 p) + p2 last ∧ 2 * ((m : Rat) * p2 p) ≤ 2 * (k : Rat) * p2 last + p2 last ∧
      (∀ n : Nat, (m : Rat) * p2 p = (n : Rat) * p2 last → k = n) := by
  obtain ⟨last, hl⟩ : ∃ last : Int, last = max (p + m.log2 - 52) (-1074) := ⟨_, rfl⟩
  obtain ⟨k, hk⟩ : ∃ k, k = Toward.even.cut s (m <<< (p - last).toNat) (last - p).toNat := ⟨_, rfl⟩
  have hspec := cut_spec s (m <<< (p - last).toNat) (last - p).toNat
  rw [← hk, Nat.shiftLeft_eq] at hspec
  have hlo := log2_le m hm
  have hhi := log2_lt m
  -- the two shifts as one scaling
  have hsc : ((m * 2 ^ (p - last).toNat : Nat) : Rat) * p2 last = (m : Rat) * p2 p * ((2 ^ (last - p).toNat : Nat) : Rat) := by
    rw [← p2_nat]
    push_cast
    rw [show (2 : Rat) ^ (p - last).toNat = p2 ((p - last).toNat : Int) by unfold p2; rw [Rat.zpow_natCast]]
    rw [Rat.mul_assoc, ← p2_add, Rat.mul_assoc, ← p2_add]
    congr 2
    omega
  have hpl := p2_pos last
  have hdp : (0 : Rat) < ((2 ^ (last - p).toNat : Nat) : Rat) := by rw [← p2_nat]; exact p2_pos _
  generalize hD : (2 ^ (last - p).toNat : Nat) = D at *
  generalize hN : (m * 2 ^ (p - last).toNat : Nat) = N at *
  have e1 : 2 * (k : Rat) * (D : Rat) ≤ 2 * (N : Rat) + (D : Rat) := by exact_mod_cast hspec.1
  have e2 : 2 * (N : Rat) ≤ 2 * (k : Rat) * (D : Rat) + (D : Rat) := by exact_mod_cast hspec.2
  have f1 := Rat.mul_le_mul_of_nonneg_right e1 (Rat.le_of_lt hpl)
  have f2 := Rat.mul_le_mul_of_nonneg_right e2 (Rat.le_of_lt hpl)
  have g1 : (2 * (k : Rat) * p2 last) * (D : Rat) ≤ (2 * ((m : Rat) * p2 p) + p2 last) * (D : Rat) := by grind
  have g2 : (2 * ((m : Rat) * p2 p)) * (D : Rat) ≤ (2 * (k : Rat) * p2 last + p2 last) * (D : Rat) := by grind
  have r1 := Rat.le_of_mul_le_mul_right g1 hdp
  have r2 := Rat.le_of_mul_le_mul_right g2 hdp
  -- kept's bounds
  have hmp : (m : Rat) * p2 p < ((2 ^ 53 : Nat) : Rat) * p2 last := by
    have h1 : (m : Rat) < ((2 ^ (m.log2 + 1) : Nat) : Rat) := by exact_mod_cast hhi
    have h2 := Rat.mul_lt_mul_of_pos_right h1 (p2_pos p)
    rw [← p2_nat, ← p2_add] at h2
    have h3 : p2 (((m.log2 + 1 : Nat) : Int) + p) ≤ p2 (((53 : Nat) : Int) + last) := p2_le (by omega)
    rw [p2_add ((53 : Nat) : Int), p2_nat] at h3
    grind
  have hkhi : k ≤ 2 ^ 53 := by
    have a : (2 * (k : Rat)) * p2 last < (2 * ((2 ^ 53 : Nat) : Rat) + 1) * p2 last := by grind
    have b : 2 * (k : Rat) < 2 * ((2 ^ 53 : Nat) : Rat) + 1 := Rat.lt_of_mul_lt_mul_right a (Rat.le_of_lt hpl)
    have c : 2 * k < 2 * 2 ^ 53 + 1 := by exact_mod_cast b
    omega
  have hklo : (last + 1074).toNat = 0 ∨ 2 ^ 52 ≤ k := by
    by_cases hz : (last + 1074).toNat = 0
    · exact .inl hz
    · right
      have hle : last = p + m.log2 - 52 := by omega
      have h1 : ((2 ^ m.log2 : Nat) : Rat) ≤ (m : Rat) := by exact_mod_cast hlo
      have h2 := Rat.mul_le_mul_of_nonneg_right h1 (Rat.le_of_lt (p2_pos p))
      rw [← p2_nat, ← p2_add, show ((m.log2 : Nat) : Int) + p = ((52 : Nat) : Int) + last by omega, p2_add, p2_nat] at h2
      have a : (2 * ((2 ^ 52 : Nat) : Rat)) * p2 last ≤ (2 * (k : Rat) + 1) * p2 last := by grind
      have b := Rat.le_of_mul_le_mul_right a hpl
      have c : 2 * 2 ^ 52 ≤ 2 * k + 1 := by exact_mod_cast b
      omega
  have hlast : (-1074 + ((last + 1074).toNat : Int)) = last := by omega
  have hv := rung_val (last + 1074).toNat k hklo hkhi
  rw [hlast] at hv
  have hR : (last + 1074).toNat * 2 ^ 52 + k < infR := by unfold infR; omega
  refine ⟨k, last, hl, ?_, hv, r1, r2, ?_⟩
  · rw [← read_word s _ hR]
    congr 1
    unfold Format.nearest
    rw [if_neg hm]
    dsimp only
    rw [least_eq, binade_eq, infRung_eq, show ((double.fractionBits : Nat) : Int) = 52 from rfl, ← hl, ← hk]
    rw [show last - -1074 = last + 1074 by omega, Nat.min_eq_left (Nat.le_of_lt hR)]
  · intro n hn
    rw [hn] at r1 r2
    have a1 : (2 * (k : Rat)) * p2 last ≤ (2 * (n : Rat) + 1) * p2 last := by grind
    have a2 : (2 * (n : Rat)) * p2 last ≤ (2 * (k : Rat) + 1) * p2 last := by grind
    have b1 := Rat.le_of_mul_le_mul_right a1 hpl
    have b2 := Rat.le_of_mul_le_mul_right a2 hpl
    have c1 : 2 * k ≤ 2 * n + 1 := by exact_mod_cast b1
    have c2 : 2 * n ≤ 2 * k + 1 := by exact_mod_cast b2
    omega

theorem lt_of_p2 {a b : Int} (h : p2 a < p2 b) : a < b := by
  apply Classical.byContradiction
  intro hn
  have := p2_le (show b ≤ a by omega)
  grind

theorem p2_split (a : Int) : p2 a = 2 * p2 (a - 1) := by
  have := p2_add (a - 1) 1
  rw [p2_one, show a - 1 + 1 = a by omega] at this
  grind

/-- a number is written: its sign stays; how near; exact where it may be -/
theorem nearest_near (s : Bool) (m : Nat) (p : Int) (hb : (m : Rat) * p2 p < p2 1023) :
    ∃ (m' : Nat) (e : Int), double.read (double.nearest s m p) = .number s m' e ∧
      (∀ k : Int, -1021 ≤ k → (m : Rat) * p2 p < p2 k → (m' : Rat) * p2 e - (m : Rat) * p2 p ≤ p2 (k - 54) ∧ (m : Rat) * p2 p - (m' : Rat) * p2 e ≤ p2 (k - 54)) ∧
      (m' : Rat) * p2 e - (m : Rat) * p2 p ≤ (m : Rat) * p2 p * p2 (-53) + p2 (-1075) ∧
      (m : Rat) * p2 p - (m' : Rat) * p2 e ≤ (m : Rat) * p2 p * p2 (-53) + p2 (-1075) ∧
      (∀ (n : Nat) (q : Int), n ≤ 2 ^ 53 → -1074 ≤ q → (m : Rat) * p2 p = (n : Rat) * p2 q → (m' : Rat) * p2 e = (m : Rat) * p2 p) := by
  have hpp := p2_pos p
  by_cases hm : m = 0
  · subst hm
    refine ⟨0, -1074, ?_, ?_, ?_, ?_, ?_⟩
    · rw [show double.nearest s 0 p = double.word s 0 by unfold Format.nearest; rw [if_pos rfl], read_word s 0 (by unfold infR; omega)]
      rfl
    · intro k _ _
      have := p2_pos (k - 54)
      have : ((0 : Nat) : Rat) = 0 := rfl
      constructor <;> grind
    · have := p2_pos (-1075)
      have : ((0 : Nat) : Rat) = 0 := rfl
      grind
    · have := p2_pos (-1075)
      have : ((0 : Nat) : Rat) = 0 := rfl
      grind
    · intro n q _ _ _
      have : ((0 : Nat) : Rat) = 0 := rfl
      grind
  · have hlo := log2_le m hm
    have hp : p2 (p + m.log2) ≤ (m : Rat) * p2 p := by
      have h1 : ((2 ^ m.log2 : Nat) : Rat) ≤ (m : Rat) := by exact_mod_cast hlo
      have h2 := Rat.mul_le_mul_of_nonneg_right h1 (Rat.le_of_lt hpp)
      rw [← p2_nat, ← p2_add] at h2
      rwa [Int.add_comm]
    have hlog : p + m.log2 ≤ 1022 := by
      have := lt_of_p2 (show p2 (p + m.log2) < p2 1023 by grind)
      omega
    obtain ⟨k, last, hl, hread, hv, h1, h2, h3⟩ := nearest_parts s m p hm hlog
    refine ⟨_, _, hread, ?_, ?_, ?_, ?_⟩
    · intro j hj hx
      rw [hv]
      have hlj : p + m.log2 < j := lt_of_p2 (by grind)
      have h4 : p2 (last - 1) ≤ p2 (j - 54) := p2_le (by omega)
      have h5 := p2_split last
      constructor <;> grind
    · rw [hv]
      have h5 := p2_split last
      have h6 : p2 (last - 1) ≤ (m : Rat) * p2 p * p2 (-53) + p2 (-1075) := by
        by_cases hc : last = p + m.log2 - 52
        · have e1 : p2 (last - 1) = p2 (p + m.log2) * p2 (-53) := by rw [← p2_add]; congr 1; omega
          have e2 := Rat.mul_le_mul_of_nonneg_right hp (Rat.le_of_lt (p2_pos (-53)))
          have := p2_pos (-1075)
          grind
        · have : p2 (last - 1) = p2 (-1075) := by congr 1; omega
          have e2 := Rat.mul_nonneg (Rat.mul_nonneg (show (0 : Rat) ≤ (m : Rat) by exact_mod_cast Nat.zero_le m) (Rat.le_of_lt hpp)) (Rat.le_of_lt (p2_pos (-53)))
          grind
      grind
    · rw [hv]
      have h5 := p2_split last
      have h6 : p2 (last - 1) ≤ (m : Rat) * p2 p * p2 (-53) + p2 (-1075) := by
        by_cases hc : last = p + m.log2 - 52
        · have e1 : p2 (last - 1) = p2 (p + m.log2) * p2 (-53) := by rw [← p2_add]; congr 1; omega
          have e2 := Rat.mul_le_mul_of_nonneg_right hp (Rat.le_of_lt (p2_pos (-53)))
          have := p2_pos (-1075)
          grind
        · have : p2 (last - 1) = p2 (-1075) := by congr 1; omega
          have e2 := Rat.mul_nonneg (Rat.mul_nonneg (show (0 : Rat) ≤ (m : Rat) by exact_mod_cast Nat.zero_le m) (Rat.le_of_lt hpp)) (Rat.le_of_lt (p2_pos (-53)))
          grind
      grind
    · intro n q hn hq hx
      rw [hv, hx]
      -- the number is a multiple of 2^last
      by_cases hn0 : n = 0
      · exfalso
        subst hn0
        have : ((0 : Nat) : Rat) = 0 := rfl
        have := p2_pos (p + m.log2)
        grind
      by_cases hql : last ≤ q
      · obtain ⟨d, rfl⟩ : ∃ d : Nat, q = last + d := ⟨(q - last).toNat, by omega⟩
        have hx' : (m : Rat) * p2 p = ((n * 2 ^ d : Nat) : Rat) * p2 last := by
          rw [hx, p2_add, p2_nat]
          push_cast
          grind
        rw [h3 _ hx', ← hx', hx]
      · -- q < last: then n = 2^53 and all is even
        have hc : last = p + m.log2 - 52 := by omega
        have e1 : p2 (p + m.log2) ≤ (n : Rat) * p2 q := by rw [← hx]; exact hp
        rw [show p + (m.log2 : Int) = ((last - q).toNat : Int) + 52 + q by omega, p2_add _ q] at e1
        have e2 := Rat.le_of_mul_le_mul_right e1 (p2_pos q)
        rw [show (((last - q).toNat : Int) + 52) = (((last - q).toNat + 52 : Nat) : Int) by omega, p2_nat] at e2
        have e3 : 2 ^ ((last - q).toNat + 52) ≤ n := by exact_mod_cast e2
        have e4 : 2 ^ 53 ≤ 2 ^ ((last - q).toNat + 52) := Nat.pow_le_pow_right (by omega) (by omega)
        have e5 : n = 2 ^ 53 := by omega
        have e6 : (last - q).toNat + 52 ≤ 53 := by
          rw [e5] at e3
          exact (Nat.pow_le_pow_iff_right (by omega)).1 e3
        have e7 : q = last - 1 := by omega
        have hx' : (m : Rat) * p2 p = ((2 ^ 52 : Nat) : Rat) * p2 last := by
          rw [hx, e5, e7, p2_split last]
          have : ((2 ^ 53 : Nat) : Rat) = 2 * ((2 ^ 52 : Nat) : Rat) := by decide +kernel
          rw [this]
          grind
        rw [h3 _ hx', ← hx', hx]

/-- y is what the float nearest to x is worth -/
structure Rd (y x : Rat) : Prop where
  near : ∀ k : Int, -1021 ≤ k → x < p2 k → -x < p2 k → y - x ≤ p2 (k - 54) ∧ x - y ≤ p2 (k - 54)
  pos : 0 ≤ x → 0 ≤ y ∧ y - x ≤ x * p2 (-53) + p2 (-1075) ∧ x - y ≤ x * p2 (-53) + p2 (-1075)
  neg : x ≤ 0 → y ≤ 0 ∧ y - x ≤ -x * p2 (-53) + p2 (-1075) ∧ x - y ≤ -x * p2 (-53) + p2 (-1075)
  exact : ∀ (n : Int) (q : Int), n.natAbs ≤ 2 ^ 53 → -1074 ≤ q → x = (n : Rat) * p2 q → y = x

theorem mag_nonneg (m : Nat) (e : Int) : 0 ≤ (m : Rat) * p2 e :=
  Rat.mul_nonneg (by exact_mod_cast Nat.zero_le m) (Rat.le_of_lt (p2_pos e))

theorem write_rd (s : Bool) (m : Nat) (e : Int) (h : (m : Rat) * p2 e < p2 1023) :
    ∃ m' e', double.read (double.write (.number s m e)) = .number s m' e' ∧ Rd (dval (.number s m' e')) (dval (.number s m e)) := by
  obtain ⟨m', e', hr, h1, h2, h3, h4⟩ := nearest_near s m e h
  refine ⟨m', e', hr, ?_⟩
  have hx := mag_nonneg m e
  have hy := mag_nonneg m' e'
  unfold dval
  have hs : (sg s = 1) ∨ (sg s = -1) := by cases s <;> simp [sg]
  have hx2 : sg s * (m : Rat) * p2 e = sg s * ((m : Rat) * p2 e) := by grind
  have hy2 : sg s * (m' : Rat) * p2 e' = sg s * ((m' : Rat) * p2 e') := by grind
  dsimp only
  rw [hx2, hy2]
  generalize (m : Rat) * p2 e = x at *
  generalize (m' : Rat) * p2 e' = y at *
  refine ⟨?_, ?_, ?_, ?_⟩
  · intro k hk a b
    have h5 := h1 k hk (by rcases hs with hs | hs <;> rw [hs] at a b <;> grind)
    rcases hs with hs | hs <;> rw [hs] <;> constructor <;> grind
  · intro hx0
    have := p2_pos (-1075)
    have := p2_pos (-53)
    rcases hs with hs | hs <;> rw [hs] at hx0 ⊢
    · grind
    · have : x = 0 := by grind
      subst this
      have : y = 0 := by have := h4 0 0 (by omega) (by omega) (by grind); grind
      subst this
      grind
  · intro hx0
    have := p2_pos (-1075)
    have := p2_pos (-53)
    rcases hs with hs | hs <;> rw [hs] at hx0 ⊢
    · have : x = 0 := by grind
      subst this
      have : y = 0 := by have := h4 0 0 (by omega) (by omega) (by grind); grind
      subst this
      grind
    · grind
  · intro n q hn hq hxe
    have hnn : x = ((n.natAbs : Nat) : Rat) * p2 q := by
      have hq0 := p2_pos q
      rcases Int.natAbs_eq n with hn' | hn'
      · rcases hs with hs | hs
        · rw [hs] at hxe
          rw [hn'] at hxe
          have : (((n.natAbs : Nat) : Int) : Rat) = ((n.natAbs : Nat) : Rat) := by norm_cast
          grind
        · rw [hs, hn'] at hxe
          have e1 : (((n.natAbs : Nat) : Int) : Rat) = ((n.natAbs : Nat) : Rat) := by norm_cast
          have e2 : (0 : Rat) ≤ ((n.natAbs : Nat) : Rat) := by exact_mod_cast Nat.zero_le _
          have e3 := Rat.mul_nonneg e2 (Rat.le_of_lt hq0)
          grind
      · have e1 : ((-((n.natAbs : Nat) : Int) : Int) : Rat) = - ((n.natAbs : Nat) : Rat) := by push_cast; rfl
        have e2 : (0 : Rat) ≤ ((n.natAbs : Nat) : Rat) := by exact_mod_cast Nat.zero_le _
        have e3 := Rat.mul_nonneg e2 (Rat.le_of_lt hq0)
        rw [hn', e1] at hxe
        rcases hs with hs | hs <;> rw [hs] at hxe <;> grind
    have := h4 n.natAbs q hn hq hnn
    rw [this]

theorem signed_val (s : Bool) (m k : Nat) (base : Int) : ((signed s m k : Int) : Rat) * p2 base = sg s * (m : Rat) * p2 (base + k) := by
  unfold signed sg
  rw [Nat.shiftLeft_eq, p2_add, p2_nat]
  cases s <;> simp <;> push_cast <;> grind

theorem number_of_int (t : Int) (base : Int) (s : Bool) (h : t ≠ 0 → s = decide (t < 0)) : dval (.number s t.natAbs base) = (t : Rat) * p2 base := by
  unfold dval sg
  dsimp only
  by_cases h0 : t = 0
  · subst h0; simp
  · rw [h h0]
    by_cases hn : t < 0
    · have e : ((t.natAbs : Nat) : Rat) = - (t : Rat) := by
        have : ((t.natAbs : Nat) : Int) = - t := by omega
        have : ((((t.natAbs : Nat) : Int)) : Rat) = ((- t : Int) : Rat) := by rw [this]
        push_cast at this
        exact_mod_cast this
      simp only [hn, decide_true, if_true, e]; grind
    · have e : ((t.natAbs : Nat) : Rat) = (t : Rat) := by
        have : ((t.natAbs : Nat) : Int) = t := by omega
        have : ((((t.natAbs : Nat) : Int)) : Rat) = ((t : Int) : Rat) := by rw [this]
        exact_mod_cast this
      simp only [hn, decide_false, Bool.false_eq_true, if_false, e]; grind

theorem abs_lt_of (s : Bool) (m : Nat) (e : Int) (b : Rat) (h1 : dval (.number s m e) < b) (h2 : - dval (.number s m e) < b) : (m : Rat) * p2 e < b := by
  unfold dval sg at h1 h2
  cases s <;> simp at h1 h2 <;> grind

theorem sum_numbers (s t : Bool) (m n : Nat) (i j : Int) :
    ∃ s' m' e', Datum.sum (.number s m i) (.number t n j) = some (.number s' m' e') ∧ dval (.number s' m' e') = dval (.number s m i) + dval (.number t n j) := by
  refine ⟨_, _, _, rfl, ?_⟩
  rw [number_of_int _ _ _ (by intro h; rw [if_neg h])]
  have h1 := signed_val s m (i - min i j).toNat (min i j)
  have h2 := signed_val t n (j - min i j).toNat (min i j)
  rw [show (min i j + ((i - min i j).toNat : Int)) = i by omega] at h1
  rw [show (min i j + ((j - min i j).toNat : Int)) = j by omega] at h2
  unfold dval
  dsimp only
  rw [← h1, ← h2]
  push_cast
  grind

theorem fin_read {w : Nat} (h : fin w) : ∃ s m e, double.read w = .number s m e ∧ val w = dval (.number s m e) := by
  obtain ⟨s, m, e, h⟩ := h
  exact ⟨s, m, e, h, by unfold val; rw [h]⟩

theorem written (s : Bool) (m : Nat) (e : Int) (h1 : dval (.number s m e) < p2 1023) (h2 : - dval (.number s m e) < p2 1023) :
    fin (double.write (.number s m e)) ∧ Rd (val (double.write (.number s m e))) (dval (.number s m e)) := by
  obtain ⟨m', e', hr, h⟩ := write_rd s m e (abs_lt_of s m e _ h1 h2)
  exact ⟨⟨_, _, _, hr⟩, by unfold val; rw [hr]; exact h⟩

theorem add_rd {a b : Nat} (ha : fin a) (hb : fin b) (h1 : val a + val b < p2 1023) (h2 : -(val a + val b) < p2 1023) :
    ∃ r, double.add a b = some r ∧ fin r ∧ Rd (val r) (val a + val b) := by
  obtain ⟨s, m, i, ra, va⟩ := fin_read ha
  obtain ⟨t, n, j, rb, vb⟩ := fin_read hb
  obtain ⟨s', m', e', hs, hv⟩ := sum_numbers s t m n i j
  rw [va, vb, ← hv] at h1 h2 ⊢
  refine ⟨double.write (.number s' m' e'), ?_, written s' m' e' h1 h2⟩
  unfold Format.add
  rw [ra, rb, hs]; rfl

theorem opp_val (t : Bool) (n : Nat) (j : Int) : dval (.number (!t) n j) = - dval (.number t n j) := by
  unfold dval sg; cases t <;> simp <;> grind

theorem sub_rd {a b : Nat} (ha : fin a) (hb : fin b) (h1 : val a - val b < p2 1023) (h2 : -(val a - val b) < p2 1023) :
    ∃ r, double.sub a b = some r ∧ fin r ∧ Rd (val r) (val a - val b) := by
  obtain ⟨s, m, i, ra, va⟩ := fin_read ha
  obtain ⟨t, n, j, rb, vb⟩ := fin_read hb
  obtain ⟨s', m', e', hs, hv⟩ := sum_numbers s (!t) m n i j
  rw [opp_val, ← Rat.sub_eq_add_neg] at hv
  rw [va, vb, ← hv] at h1 h2 ⊢
  refine ⟨double.write (.number s' m' e'), ?_, written s' m' e' h1 h2⟩
  unfold Format.sub
  rw [ra, rb]
  show ((Datum.sum (.number s m i) (.number (!t) n j))).map _ = _
  rw [hs]; rfl

theorem mul_val (s t : Bool) (m n : Nat) (i j : Int) : dval (.number (s ^^ t) (m * n) (i + j)) = dval (.number s m i) * dval (.number t n j) := by
  unfold dval sg; dsimp only; rw [p2_add]; push_cast
  cases s <;> cases t <;> simp <;> grind

theorem mul_rd {a b : Nat} (ha : fin a) (hb : fin b) (h1 : val a * val b < p2 1023) (h2 : -(val a * val b) < p2 1023) :
    ∃ r, double.mul a b = some r ∧ fin r ∧ Rd (val r) (val a * val b) := by
  obtain ⟨s, m, i, ra, va⟩ := fin_read ha
  obtain ⟨t, n, j, rb, vb⟩ := fin_read hb
  have hv := mul_val s t m n i j
  rw [va, vb, ← hv] at h1 h2 ⊢
  refine ⟨double.write (.number (s ^^ t) (m * n) (i + j)), ?_, written _ _ _ h1 h2⟩
  unfold Format.mul
  rw [ra, rb]; rfl

/-- how two finite words stand -/
theorem order_val {a b : Nat} (ha : fin a) (hb : fin b) :
    (double.order a b = some .lt ↔ val a < val b) ∧ (double.order a b = some .eq ↔ val a = val b) ∧ (double.order a b = some .gt ↔ val b < val a) := by
  obtain ⟨s, m, i, ra, va⟩ := fin_read ha
  obtain ⟨t, n, j, rb, vb⟩ := fin_read hb
  unfold Format.order
  rw [ra, rb, va, vb]
  have h1 := signed_val s m (i - min i j).toNat (min i j)
  have h2 := signed_val t n (j - min i j).toNat (min i j)
  rw [show (min i j + ((i - min i j).toNat : Int)) = i by omega] at h1
  rw [show (min i j + ((j - min i j).toNat : Int)) = j by omega] at h2
  unfold dval
  dsimp only [Datum.order]
  rw [← h1, ← h2]
  have hp := p2_pos (min i j)
  generalize signed s m (i - min i j).toNat = x
  generalize signed t n (j - min i j).toNat = y
  generalize p2 (min i j) = p at *
  have hlt : ∀ x y : Int, (x : Rat) * p < (y : Rat) * p ↔ x < y := by
    intro x y
    constructor
    · intro h; have := Rat.lt_of_mul_lt_mul_right h (Rat.le_of_lt hp); exact_mod_cast this
    · intro h; exact Rat.mul_lt_mul_of_pos_right (by exact_mod_cast h) hp
  have heq : (x : Rat) * p = (y : Rat) * p ↔ x = y := by
    constructor
    · intro h
      have a := hlt x y; have b := hlt y x
      have : ¬ x < y := fun h' => by have := a.2 h'; grind
      have : ¬ y < x := fun h' => by have := b.2 h'; grind
      omega
    · rintro rfl; rfl
  rw [hlt, heq, hlt]
  simp only [Option.some.injEq, Int.compare_eq_lt, Int.compare_eq_eq, Int.compare_eq_gt, and_self]
end Go.Proofs.Ytfaciljklligeaa.Fp
namespace Go.Proofs.Ytfaciljklligeaa.Fp
open Ieee

theorem read_rung {b : Nat} (h : b < infR) : double.read b = .number false (rmag b) (rplace b) := by
  have := read_word false b h
  unfold Format.word at this
  simpa using this

theorem val_rung {b : Nat} (h : b < infR) : val b = (rmag b : Rat) * p2 (rplace b) := by
  unfold val dval; rw [read_rung h]; simp [sg]

theorem fin_rung {b : Nat} (h : b < infR) : fin b := ⟨_, _, _, read_rung h⟩

/-- which byte a number is -/
structure ByteIs (v : Rat) (n : Nat) : Prop where
  le : n ≤ 255
  low : n = 0 ∨ 2 * (n : Rat) - 1 ≤ 2 * v
  high : n = 255 ∨ 2 * v < 2 * (n : Rat) + 1

theorem ByteIs.same {v : Rat} {n m : Nat} (h : ByteIs v n) (k : ByteIs v m) : n = m := by
  have key : ∀ a b : Nat, ByteIs v a → ByteIs v b → ¬ a < b := by
    intro a b ha hb hlt
    rcases hb.low with h1 | h1
    · omega
    rcases ha.high with h2 | h2
    · have := hb.le; omega
    have h3 : a + 1 ≤ b := hlt
    have h4 : (a : Rat) + 1 ≤ (b : Rat) := by exact_mod_cast h3
    grind
  have := key n m h k
  have := key m n k h
  omega


theorem aux_unit (N g q : Rat) (h : g * q = 1) : N * g * q = N := by grind
theorem aux_sum (g h N r F q : Rat) (e1 : g * N + r = F + h) (e2 : g = 2 * h) (hgr : g * q = 1) : N + r * q = F * q + 1 / 2 := by
  have : h * q = 1/2 := by grind
  have : (g * N + r) * q = (F + h) * q := by rw [e1]
  grind
theorem aux_end (N v rq : Rat) (h : N + rq = v + 1/2) (h0 : 0 ≤ rq) (h1 : rq < 1) : 2 * N ≤ 2 * v + 1 ∧ 2 * v + 1 < 2 * N + 2 := by
  constructor <;> grind

theorem round_core (t f g h N r : Nat) (ht : t ≤ 7) (hf : f < 2 ^ 52) (hg : g = 2 ^ (52 - t)) (hg2 : g = 2 * h)
    (hd : g * N + r = 2 ^ 52 + f + h) (hr : r < g) (hlo : 2 ^ 52 ≤ N * g) (hhi : N * g ≤ 2 ^ 53) :
    (1022 + t) * 2 ^ 52 + N * g < infR ∧ val ((1022 + t) * 2 ^ 52 + N * g) = (N : Rat) ∧ (1022 + t) * 2 ^ 52 + (2 ^ 52 + f) < infR ∧
      2 * (N : Rat) ≤ 2 * val ((1022 + t) * 2 ^ 52 + (2 ^ 52 + f)) + 1 ∧ 2 * val ((1022 + t) * 2 ^ 52 + (2 ^ 52 + f)) + 1 < 2 * (N : Rat) + 2 := by
  have hcR : (1022 + t) * 2 ^ 52 + N * g < infR := by unfold infR; omega
  have hbR : (1022 + t) * 2 ^ 52 + (2 ^ 52 + f) < infR := by unfold infR; omega
  have hgr : (g : Rat) * p2 (t - 52) = 1 := by
    rw [hg, ← p2_nat, ← p2_add, ← p2_zero]; congr 1; omega
  have vc : val ((1022 + t) * 2 ^ 52 + N * g) = (N : Rat) := by
    rw [val_rung hcR, rung_val (1022 + t) (N * g) (.inr hlo) hhi]
    rw [show (-1074 + ((1022 + t : Nat) : Int)) = t - 52 by omega, Rat.natCast_mul]
    exact aux_unit _ _ _ hgr
  have vb : val ((1022 + t) * 2 ^ 52 + (2 ^ 52 + f)) = ((2 ^ 52 + f : Nat) : Rat) * p2 (t - 52) := by
    rw [val_rung hbR, rung_val (1022 + t) (2 ^ 52 + f) (.inr (by omega)) (by omega)]
    rw [show (-1074 + ((1022 + t : Nat) : Int)) = t - 52 by omega]
  have hpp := p2_pos (t - 52)
  generalize hF : 2 ^ 52 + f = F at *
  have e1 : (g : Rat) * (N : Rat) + (r : Rat) = (F : Rat) + (h : Rat) := by exact_mod_cast hd
  have e2 : (g : Rat) = 2 * (h : Rat) := by exact_mod_cast hg2
  have hr0 : 0 ≤ (r : Rat) * p2 (t - 52) := mag_nonneg r _
  have hr1 : (r : Rat) * p2 (t - 52) < 1 := by
    have e1 : (r : Rat) < (g : Rat) := by exact_mod_cast hr
    have := Rat.mul_lt_mul_of_pos_right e1 hpp
    rwa [hgr] at this
  have hsum : (N : Rat) + (r : Rat) * p2 (t - 52) = val ((1022 + t) * 2 ^ 52 + F) + 1 / 2 := by
    rw [vb]
    exact aux_sum _ _ _ _ _ _ e1 e2 hgr
  obtain ⟨a, b⟩ := aux_end _ _ _ hsum hr0 hr1
  exact ⟨hcR, vc, hbR, a, b⟩

theorem aux_b (t f : Nat) : (1023 + t) * 2 ^ 52 + f = (1022 + t) * 2 ^ 52 + (2 ^ 52 + f) := by omega
theorem aux_e (A B C h X : Nat) (h1 : A = X) : A + (B + C) + h = (B + C + h) + X := by omega
theorem aux_hi (N T g h f r P : Nat) (h52 : P = T * g) (hg : 0 < g) (hd : g * N + r = P + f + h) (hf : f < P) (hh : g = 2 * h) : N * g ≤ 2 * P := by
  have h1 : N < 2 * T + 1 := by
    have h2 : g * N < g * (2 * T + 1) := by
      have : g * (2 * T + 1) = 2 * (T * g) + g := by rw [Nat.mul_add, Nat.mul_one, Nat.mul_comm g, Nat.mul_assoc]
      rw [this, ← h52]
      omega
    exact Nat.lt_of_mul_lt_mul_left h2
  have h3 : N * g ≤ (2 * T) * g := Nat.mul_le_mul_right g (by omega)
  rw [Nat.mul_assoc, ← h52] at h3
  exact h3
theorem aux_lo (N T g h f P : Nat) (h52 : P = T * g) (hg : 0 < g) (hN : N = (P + f + h) / g) : P ≤ N * g := by
  have h1 : T ≤ N := by
    rw [hN]
    refine (Nat.le_div_iff_mul_le hg).2 ?_
    omega
  exact Nat.le_trans (Nat.le_of_eq h52) (Nat.mul_le_mul_right g h1)
theorem aux_c (N T g h f t P : Nat) (h52 : P = T * g) (hg : 0 < g) (hN : N = (P + f + h) / g) :
    ((1022 + t) * P + (P + f) + h) / g * g = (1022 + t) * P + N * g := by
  have e : (1022 + t) * P + (P + f) + h = (P + f + h) + g * ((1022 + t) * T) :=
    aux_e _ _ _ _ _ (by rw [h52, Nat.mul_comm g, Nat.mul_assoc])
  rw [e, Nat.add_mul_div_left _ _ hg, ← hN, Nat.add_mul, Nat.add_comm]
  refine congrArg (· + N * g) ?_
  rw [Nat.mul_assoc]
  exact congrArg ((1022 + t) * ·) h52.symm

/-- the rounding of a normal number from 1 up -/
theorem round_normal (t f b : Nat) (ht : t ≤ 7) (hf : f < 2 ^ 52) (hb : b = (1023 + t) * 2 ^ 52 + f) :
    ∃ N : Nat, (b + 2 ^ (51 - t)) / 2 ^ (52 - t) * 2 ^ (52 - t) < infR ∧ val ((b + 2 ^ (51 - t)) / 2 ^ (52 - t) * 2 ^ (52 - t)) = (N : Rat) ∧
      2 * (N : Rat) ≤ 2 * val b + 1 ∧ 2 * val b + 1 < 2 * (N : Rat) + 2 := by
  obtain ⟨g, hg⟩ : ∃ g, g = 2 ^ (52 - t) := ⟨_, rfl⟩
  obtain ⟨h, hh⟩ : ∃ h, h = 2 ^ (51 - t) := ⟨_, rfl⟩
  obtain ⟨T, hT⟩ : ∃ T, T = 2 ^ t := ⟨_, rfl⟩
  have hg2 : g = 2 * h := by rw [hg, hh, ← Nat.pow_succ']; congr 1; omega
  have hgp : 0 < g := by rw [hg]; exact Nat.two_pow_pos _
  have h52 : 2 ^ 52 = T * g := by rw [hg, hT, ← Nat.pow_add]; congr 1; omega
  rw [← hg, ← hh, hb, aux_b]
  obtain ⟨N, hN⟩ : ∃ N, N = (2 ^ 52 + f + h) / g := ⟨_, rfl⟩
  have hc := aux_c N T g h f t (2 ^ 52) h52 hgp hN
  have hd := Nat.div_add_mod (2 ^ 52 + f + h) g
  have hm := Nat.mod_lt (2 ^ 52 + f + h) hgp
  rw [← hN] at hd
  rw [hc]
  have hlo := aux_lo N T g h f (2 ^ 52) h52 hgp hN
  have hhi := aux_hi N T g h f _ (2 ^ 52) h52 hgp hd hf hg2
  obtain ⟨a1, a2, _, a4, a5⟩ := round_core t f g h N _ ht hf hg hg2 hd hm hlo hhi
  exact ⟨N, a1, a2, a4, a5⟩
end Go.Proofs.Ytfaciljklligeaa.Fp
namespace Go.Proofs.Ytfaciljklligeaa.Fp
open Ieee Go

theorem clear_low (a k : Nat) (ha : a < 2 ^ 64) (hk : k ≤ 64) : a &&& (2 ^ 64 - 1 - (2 ^ k - 1)) = a / 2 ^ k * 2 ^ k := by
  apply Nat.eq_of_testBit_eq
  intro i
  have hb : 2 ^ k - 1 < 2 ^ 64 := by
    have := Nat.pow_le_pow_right (n := 2) (by omega) hk
    have := Nat.two_pow_pos k
    omega
  rw [show 2 ^ 64 - 1 - (2 ^ k - 1) = 2 ^ 64 - ((2 ^ k - 1) + 1) by omega, Nat.testBit_and, Nat.testBit_two_pow_sub_succ hb, Nat.testBit_two_pow_sub_one,
    Nat.testBit_mul_two_pow, Nat.testBit_div_two_pow]
  by_cases h : k ≤ i
  · rw [decide_eq_true h, show i - k + k = i by omega, decide_eq_false (show ¬ i < k by omega)]
    by_cases h6 : i < 64
    · simp [h6]
    · have : a.testBit i = false := Nat.testBit_lt_two_pow (Nat.lt_of_lt_of_le ha (Nat.pow_le_pow_right (by omega) (by omega)))
      simp [this]
  · simp [show i < k by omega, show ¬ k ≤ i by omega]

def W255 : Nat := 4643176031446892544
theorem val_255 : fin W255 ∧ val W255 = 255 := ⟨fin_rung (by decide +kernel), by decide +kernel⟩
theorem val_0 : fin 0 ∧ val 0 = 0 := ⟨fin_rung (by decide +kernel), by decide +kernel⟩

def eW (x : Nat) : Int := bits .and .u64 ((x : Int) / 4503599627370496) 2047
def roundW (x : Nat) : Nat :=
  if eW x < 1023 then
    if eW x = 1022 then (bits .or .u64 (bits .and .u64 (x : Int) 9223372036854775808) 4607182418800017408).toNat else (bits .and .u64 (x : Int) 9223372036854775808).toNat
  else if eW x < 1075 then (bits .andNot .u64 (IntKind.u64.wrap ((x : Int) + 2251799813685248 / 2 ^ (eW x - 1023).toNat)) (4503599627370495 / 2 ^ (eW x - 1023).toNat)).toNat
  else x
def clampF (x lo hi : Nat) : Nat :=
  if (double.order x x != some .eq) || (double.order x lo == some .lt) then lo else if double.order x hi == some .gt then hi else x

theorem eW_pos (x : Nat) (h : x < 2 ^ 63) : eW x = ((x / 2 ^ 52 : Nat) : Int) := by
  unfold eW
  have h1 : x / 2 ^ 52 < 2048 := by omega
  rw [show (x : Int) / 4503599627370496 = ((x / 2 ^ 52 : Nat) : Int) by omega]
  have := u64_and_nat (x / 2 ^ 52) 2047 (by omega) (by omega)
  rw [show ((2047 : Nat) : Int) = 2047 from rfl] at this
  rw [this, show x / 2 ^ 52 &&& 2047 = x / 2 ^ 52 by
    rw [show 2047 = 2 ^ 11 - 1 from rfl, Nat.and_two_pow_sub_one_eq_mod]; omega]

/-- a whole number of a float -/
theorem toInt_of (w n : Nat) (hf : fin w) (hv : val w = (n : Rat)) (hn : n ≤ 255) : floatToIntVal .f64 w .u8 = some (n : Int) := by
  obtain ⟨s, m, e, hr, hv'⟩ := fin_read hf
  rw [hv] at hv'
  have hmag : ((m : Nat) : Rat) * p2 e = (n : Rat) ∧ (s = false ∨ n = 0) := by
    unfold dval sg at hv'
    have h0 := mag_nonneg m e
    have h1 : (0 : Rat) ≤ (n : Rat) := by exact_mod_cast Nat.zero_le n
    cases s
    · simp at hv'; exact ⟨by grind, .inl rfl⟩
    · simp at hv'
      have h2 : (n : Rat) = 0 := by grind
      exact ⟨by grind, .inr (by exact_mod_cast h2)⟩
  obtain ⟨hm, hs⟩ := hmag
  have hcut : Toward.zero.cut s (m <<< e.toNat) (-e).toNat = n := by
    unfold Toward.cut
    dsimp only
    rw [Nat.shiftLeft_eq, Nat.shiftLeft_eq, Nat.one_mul]
    by_cases he : 0 ≤ e
    · have h1 : m * 2 ^ e.toNat = n := by
        have : ((m * 2 ^ e.toNat : Nat) : Rat) = (n : Rat) := by
          rw [← hm]
          have : p2 e = ((2 ^ e.toNat : Nat) : Rat) := by rw [← p2_nat]; congr 1; omega
          rw [this]; push_cast; rfl
        exact_mod_cast this
      rw [h1, show (-e).toNat = 0 by omega]
      simp
    · have h1 : m = n * 2 ^ (-e).toNat := by
        have h2 : (m : Rat) * p2 e * p2 ((-e).toNat : Int) = (n : Rat) * p2 ((-e).toNat : Int) := by rw [hm]
        rw [Rat.mul_assoc, ← p2_add, show e + ((-e).toNat : Int) = 0 by omega, p2_zero, p2_nat] at h2
        have : (m : Rat) = ((n * 2 ^ (-e).toNat : Nat) : Rat) := by push_cast; push_cast at h2; grind
        exact_mod_cast this
      rw [show e.toNat = 0 by omega]
      simp only [Nat.pow_zero, Nat.mul_one, Bool.toNat_false, Nat.add_zero]
      by_cases hn0 : n = 0
      · subst hn0
        simp only [Nat.zero_mul] at h1
        subst h1; simp
      · have hd : (-e).toNat ≤ m.log2 + 2 := by
          have h3 : 2 ^ (-e).toNat ≤ m := by rw [h1]; exact Nat.le_mul_of_pos_left _ (by omega)
          have h4 := (Nat.le_log2 (by have := Nat.two_pow_pos (-e).toNat; omega)).2 h3
          omega
        rw [Nat.min_eq_left hd, h1, Nat.mul_div_cancel _ (Nat.two_pow_pos _)]
  unfold floatToIntVal
  have ht : (FloatKind.decode .f64 w).toInt .zero = some (n : Int) := by
    show (double.read w).toInt .zero = _
    rw [hr]
    unfold Datum.toInt Datum.integral
    simp only [hcut]
    unfold signed
    rw [Nat.shiftLeft_eq]
    rcases hs with rfl | rfl
    · simp
    · cases s <;> simp
  rw [ht]
  dsimp only
  rw [show IntKind.u8.min = 0 from rfl, show IntKind.u8.max = 255 from rfl, if_pos (by omega)]

/-- a number from 0 to 255 that is a word: -0, or a rung of a binade up to the eighth -/
theorem small_word (x : Nat) (hx : x < 2 ^ 64) (hf : fin x) (h0 : 0 ≤ val x) (h1 : val x ≤ 255) :
    x = 2 ^ 63 ∨ (x < 2 ^ 63 ∧ x / 2 ^ 52 ≤ 1030) := by
  obtain ⟨s, r, hr, rfl⟩ : ∃ (s : Bool) (r : Nat), r < signW ∧ x = double.word s r := by
    by_cases h : x < 2 ^ 63
    · exact ⟨false, x, h, by unfold Format.word; simp⟩
    · refine ⟨true, x - 2 ^ 63, by unfold signW; omega, ?_⟩
      unfold Format.word
      rw [signWeight_eq]
      unfold signW
      simp only [if_true]
      omega
  have hri : r < infR := by
    apply Classical.byContradiction
    intro hn
    obtain ⟨s', m, e, hrd⟩ := hf
    have hw := word_parts s r hr
    unfold Format.read at hrd
    rw [signWeight_eq, hw.1, hw.2, binade_eq, infRung_eq] at hrd
    dsimp only at hrd
    have : infR = 2047 * 2 ^ 52 := rfl
    rw [if_neg (by omega), if_neg hn] at hrd
    split at hrd <;> cases hrd
  have hv : val (double.word s r) = sg s * (rmag r : Rat) * p2 (rplace r) := by
    unfold val; rw [read_word s r hri]; rfl
  have hmp := mag_nonneg (rmag r) (rplace r)
  cases s
  · right
    have hw : double.word false r = r := by unfold Format.word; simp
    rw [hw]
    refine ⟨hr, ?_⟩
    apply Classical.byContradiction
    intro hn
    have h2 : val r = (rmag r : Rat) * p2 (rplace r) := val_rung hri
    rw [hw] at h1
    rw [h2] at h1
    have hm : 2 ^ 52 ≤ rmag r := by unfold rmag; rw [if_neg (by omega)]; omega
    have hp : -44 ≤ rplace r := by unfold rplace; rw [if_neg (by omega)]; omega
    have h3 : ((2 ^ 52 : Nat) : Rat) ≤ (rmag r : Rat) := by exact_mod_cast hm
    have h4 := p2_le hp
    have h5 := Rat.mul_le_mul_of_nonneg_right h3 (Rat.le_of_lt (p2_pos (rplace r)))
    have h6 := Rat.mul_le_mul_of_nonneg_left h4 (show (0 : Rat) ≤ ((2 ^ 52 : Nat) : Rat) by exact_mod_cast Nat.zero_le _)
    have h7 : ((2 ^ 52 : Nat) : Rat) * p2 (-44) = 256 := by decide +kernel
    rw [h7] at h6
    have h8 : (256 : Rat) ≤ 255 := Rat.le_trans h6 (Rat.le_trans h5 h1)
    exact absurd h8 (by decide +kernel)
  · left
    rw [hv] at h0
    have h2 : (rmag r : Rat) * p2 (rplace r) = 0 := by
      unfold sg at h0
      simp at h0
      grind
    have h3 : rmag r = 0 := by
      have hp := p2_pos (rplace r)
      have : (rmag r : Rat) = 0 := by
        rcases Rat.mul_eq_zero.1 h2 with h | h
        · exact h
        · grind
      exact_mod_cast this
    have h4 : r = 0 := by
      unfold rmag at h3
      split at h3 <;> omega
    subst h4
    rfl

theorem wrap_u64x (n : Int) : IntKind.u64.wrap n = n % 18446744073709551616 := by simp [IntKind.wrap, IntKind.bits, IntKind.signed]
theorem round_bits (x t f : Nat) (ht : t ≤ 7) (hf : f < 2 ^ 52) (hx : x = (1023 + t) * 2 ^ 52 + f) :
    roundW x = (x + 2 ^ (51 - t)) / 2 ^ (52 - t) * 2 ^ (52 - t) := by
  have hlt : x < 2 ^ 63 := by omega
  have he : eW x = 1023 + t := by rw [eW_pos x hlt]; omega
  unfold roundW
  rw [he, if_neg (by omega), if_pos (by omega), show ((1023 : Int) + t - 1023).toNat = t by omega]
  have hp : 2 ^ (51 - t) ≤ 2 ^ 51 := Nat.pow_le_pow_right (by omega) (by omega)
  have h1 : (2251799813685248 : Int) / 2 ^ t = ((2 ^ (51 - t) : Nat) : Int) := by
    have e : (2251799813685248 : Nat) / 2 ^ t = 2 ^ (51 - t) := by
      rw [show (2251799813685248 : Nat) = 2 ^ 51 from rfl, Nat.pow_div (by omega) (by omega)]
    rw [← e, Int.natCast_ediv, Int.natCast_pow]; rfl
  have h2 : (4503599627370495 : Int) / 2 ^ t = ((2 ^ (52 - t) - 1 : Nat) : Int) := by
    have e : (4503599627370495 : Nat) / 2 ^ t = 2 ^ (52 - t) - 1 := by
      have e1 : 2 ^ 52 = 2 ^ (52 - t) * 2 ^ t := by rw [← Nat.pow_add]; congr 1; omega
      have hq : 0 < 2 ^ t := Nat.two_pow_pos t
      have e2 : 4503599627370495 = 2 ^ 52 - 1 := rfl
      rw [e2, e1]
      generalize 2 ^ (52 - t) = a
      generalize 2 ^ t = b at *
      cases a with
      | zero => rw [Nat.zero_mul]; exact Nat.zero_div b
      | succ a =>
        rw [Nat.add_mul, Nat.one_mul, Nat.add_sub_cancel]
        rw [Nat.div_eq_of_lt_le (k := a)]
        · rw [show a * b + b - 1 = a * b + (b - 1) by omega]; omega
        · rw [Nat.add_mul, Nat.one_mul]; omega
    rw [← e, Int.natCast_ediv, Int.natCast_pow]; rfl
  rw [h1, h2]
  have h3 : IntKind.u64.wrap ((x : Int) + ((2 ^ (51 - t) : Nat) : Int)) = ((x + 2 ^ (51 - t) : Nat) : Int) := by
    generalize 2 ^ (51 - t) = p at *
    rw [wrap_u64x]
    clear h2 he hf hx
    omega
  rw [h3]
  have hk : 2 ^ (52 - t) ≤ 2 ^ 52 := Nat.pow_le_pow_right (by omega) (by omega)
  rw [u64_andNot_nat _ _ (by generalize 2 ^ (51 - t) = p at *; omega) (by generalize 2 ^ (52 - t) = p at *; omega), Int.toNat_natCast]
  exact clear_low (x + 2 ^ (51 - t)) (52 - t) (by generalize 2 ^ (51 - t) = p at *; omega) (by omega)

/-- which byte a word is -/
def ByteR (x n : Nat) : Prop :=
  match double.read x with
  | .nan .. => n = 0
  | .infinity s => n = if s then 0 else 255
  | .number .. => ByteIs (val x) n

theorem ByteR.same {x n m : Nat} (h : ByteR x n) (k : ByteR x m) : n = m := by
  unfold ByteR at h k
  cases hx : double.read x with
  | nan s f => rw [hx] at h k; exact h.trans k.symm
  | infinity s => rw [hx] at h k; exact h.trans k.symm
  | number s m e => rw [hx] at h k; exact ByteIs.same h k

theorem order_self_nan {x : Nat} {s : Bool} {f : Nat} (h : double.read x = .nan s f) (y : Nat) : double.order x y = none ∧ double.order y x = none := by
  unfold Format.order
  rw [h]
  constructor
  · rfl
  · cases double.read y <;> rfl

theorem read_0 : double.read 0 = .number false 0 (-1074) := by decide +kernel
theorem read_255 : double.read W255 = .number false (255 * 2 ^ 45) (-45) := by decide +kernel

theorem round_0 : roundW 0 = 0 := by decide +kernel
theorem round_neg0 : roundW (2 ^ 63) = 2 ^ 63 := by decide +kernel
theorem round_255 : roundW W255 = W255 := by decide +kernel
theorem val_neg0 : fin (2 ^ 63) ∧ val (2 ^ 63) = 0 := ⟨⟨true, 0, -1074, by decide +kernel⟩, by decide +kernel⟩
theorem val_one : fin 4607182418800017408 ∧ val 4607182418800017408 = 1 := ⟨fin_rung (by decide +kernel), by decide +kernel⟩

theorem rung_lo (x : Nat) (h : x / 2 ^ 52 < 1022) : fin x ∧ 0 ≤ val x ∧ 2 * val x < 1 := by
  have hi : x < infR := by unfold infR; omega
  refine ⟨fin_rung hi, ?_, ?_⟩
  · rw [val_rung hi]; exact mag_nonneg _ _
  · rw [val_rung hi]
    have hm : rmag x < 2 ^ 53 := by unfold rmag; split <;> omega
    have hp : rplace x ≤ -54 := by unfold rplace; split <;> omega
    have h3 : (rmag x : Rat) < ((2 ^ 53 : Nat) : Rat) := by exact_mod_cast hm
    have h4 := p2_le hp
    have h5 := Rat.mul_lt_mul_of_pos_right h3 (p2_pos (rplace x))
    have h6 := Rat.mul_le_mul_of_nonneg_left h4 (show (0 : Rat) ≤ ((2 ^ 53 : Nat) : Rat) by exact_mod_cast Nat.zero_le _)
    have h7 : ((2 ^ 53 : Nat) : Rat) * p2 (-54) = 1 / 2 := by decide +kernel
    rw [h7] at h6
    generalize (rmag x : Rat) * p2 (rplace x) = v at *
    generalize ((2 ^ 53 : Nat) : Rat) * p2 (rplace x) = u at *
    grind

theorem rung_half (x : Nat) (h : x / 2 ^ 52 = 1022) : fin x ∧ 1 ≤ 2 * val x ∧ 2 * val x < 2 := by
  have hi : x < infR := by unfold infR; omega
  have hm : rmag x < 2 ^ 53 := by unfold rmag; split <;> omega
  have hm2 : 2 ^ 52 ≤ rmag x := by unfold rmag; split <;> omega
  have hp : rplace x = -53 := by unfold rplace; split <;> omega
  refine ⟨fin_rung hi, ?_, ?_⟩
  · rw [val_rung hi, hp]
    have h3 : ((2 ^ 52 : Nat) : Rat) ≤ (rmag x : Rat) := by exact_mod_cast hm2
    have h5 := Rat.mul_le_mul_of_nonneg_right h3 (Rat.le_of_lt (p2_pos (-53)))
    have h7 : ((2 ^ 52 : Nat) : Rat) * p2 (-53) = 1 / 2 := by decide +kernel
    rw [h7] at h5
    generalize (rmag x : Rat) * p2 (-53) = v at *
    grind
  · rw [val_rung hi, hp]
    have h3 : (rmag x : Rat) < ((2 ^ 53 : Nat) : Rat) := by exact_mod_cast hm
    have h5 := Rat.mul_lt_mul_of_pos_right h3 (p2_pos (-53))
    have h7 : ((2 ^ 53 : Nat) : Rat) * p2 (-53) = 1 := by decide +kernel
    rw [h7] at h5
    generalize (rmag x : Rat) * p2 (-53) = v at *
    grind

theorem round_small (x : Nat) (h : x < 2 ^ 63) (he : x / 2 ^ 52 < 1022) : roundW x = 0 := by
  have h1 := eW_pos x h
  unfold roundW
  rw [h1, if_pos (by omega), if_neg (by omega)]
  have := u64_and_nat x 9223372036854775808 (by omega) (by omega)
  rw [show ((9223372036854775808 : Nat) : Int) = 9223372036854775808 from rfl] at this
  rw [this, Int.toNat_natCast]
  apply Nat.eq_of_testBit_eq
  intro i
  rw [Nat.testBit_and, show (9223372036854775808 : Nat) = 2 ^ 63 from rfl, Nat.testBit_two_pow]
  by_cases hi : 63 = i
  · subst hi; rw [Nat.testBit_lt_two_pow h]; simp
  · simp [hi]

theorem round_mid (x : Nat) (h : x < 2 ^ 63) (he : x / 2 ^ 52 = 1022) : roundW x = 4607182418800017408 := by
  have h1 := eW_pos x h
  unfold roundW
  rw [h1, if_pos (by omega), if_pos (by omega)]
  have := u64_and_nat x 9223372036854775808 (by omega) (by omega)
  rw [show ((9223372036854775808 : Nat) : Int) = 9223372036854775808 from rfl] at this
  have hz : x &&& 9223372036854775808 = 0 := by
    apply Nat.eq_of_testBit_eq
    intro i
    rw [Nat.testBit_and, show (9223372036854775808 : Nat) = 2 ^ 63 from rfl, Nat.testBit_two_pow]
    by_cases hi : 63 = i
    · subst hi; rw [Nat.testBit_lt_two_pow h]; simp
    · simp [hi]
  rw [this, hz]
  decide +kernel

/-- the byte of a small number -/
theorem round_byte (x : Nat) (hx : x < 2 ^ 64) (hf : fin x) (h0 : 0 ≤ val x) (h1 : val x ≤ 255) :
    ∃ n : Nat, n ≤ 255 ∧ fin (roundW x) ∧ val (roundW x) = (n : Rat) ∧ ByteIs (val x) n := by
  rcases small_word x hx hf h0 h1 with rfl | ⟨hlt, he⟩
  · refine ⟨0, by omega, ?_, ?_, ?_⟩
    · rw [round_neg0]; exact val_neg0.1
    · rw [round_neg0, val_neg0.2]; rfl
    · rw [val_neg0.2]
      exact ⟨by omega, .inl rfl, .inr (by decide +kernel)⟩
  · by_cases ha : x / 2 ^ 52 < 1022
    · obtain ⟨_, b1, b2⟩ := rung_lo x ha
      refine ⟨0, by omega, ?_, ?_, ⟨by omega, .inl rfl, .inr ?_⟩⟩
      · rw [round_small x hlt ha]; exact val_0.1
      · rw [round_small x hlt ha, val_0.2]; rfl
      · have : ((0 : Nat) : Rat) = 0 := rfl
        rw [this]; grind
    · by_cases hb : x / 2 ^ 52 = 1022
      · obtain ⟨_, b1, b2⟩ := rung_half x hb
        have c1 : ((1 : Nat) : Rat) = 1 := rfl
        refine ⟨1, by omega, ?_, ?_, ⟨by omega, .inr ?_, .inr ?_⟩⟩
        · rw [round_mid x hlt hb]; exact val_one.1
        · rw [round_mid x hlt hb, val_one.2]; rfl
        · rw [c1]; grind
        · rw [c1]; grind
      · obtain ⟨t, ht⟩ : ∃ t, x / 2 ^ 52 = 1023 + t := ⟨x / 2 ^ 52 - 1023, by omega⟩
        have hx' : x = (1023 + t) * 2 ^ 52 + x % 2 ^ 52 := by have := Nat.div_add_mod x (2 ^ 52); rw [← ht]; omega
        have hm : x % 2 ^ 52 < 2 ^ 52 := Nat.mod_lt _ (by omega)
        obtain ⟨N, c1, c2, c3, c4⟩ := round_normal t (x % 2 ^ 52) x (by omega) hm hx'
        have hr := round_bits x t (x % 2 ^ 52) (by omega) hm hx'
        have hN : N ≤ 255 := by
          have : 2 * (N : Rat) ≤ 511 := by grind
          have : 2 * N ≤ 511 := by exact_mod_cast this
          omega
        refine ⟨N, hN, ?_, ?_, ⟨hN, .inr ?_, .inr ?_⟩⟩
        · rw [hr]; exact fin_rung c1
        · rw [hr]; exact c2
        · grind
        · grind

theorem byte_pure (x : Nat) (hx : x < 2 ^ 64) :
    ∃ n : Nat, n ≤ 255 ∧ floatToIntVal .f64 (roundW (clampF x 0 W255)) .u8 = some (n : Int) ∧ ByteR x n := by
  have z0 : floatToIntVal .f64 (roundW 0) .u8 = some ((0 : Nat) : Int) := by rw [round_0]; exact toInt_of 0 0 val_0.1 (by rw [val_0.2]; rfl) (by omega)
  have z5 : floatToIntVal .f64 (roundW W255) .u8 = some ((255 : Nat) : Int) := by rw [round_255]; exact toInt_of W255 255 val_255.1 (by rw [val_255.2]; rfl) (by omega)
  unfold ByteR
  cases h : double.read x with
  | nan s f =>
    obtain ⟨h1, _⟩ := order_self_nan h x
    refine ⟨0, by omega, ?_, rfl⟩
    have : clampF x 0 W255 = 0 := by unfold clampF; rw [h1]; simp
    rw [this]; exact z0
  | infinity s =>
    have h1 : double.order x x = some .eq := by unfold Format.order; rw [h]; cases s <;> rfl
    have h2 : double.order x 0 = some (if s then .lt else .gt) := by unfold Format.order; rw [h, read_0]; rfl
    have h3 : double.order x W255 = some (if s then .lt else .gt) := by unfold Format.order; rw [h, read_255]; rfl
    cases s with
    | true =>
      refine ⟨0, by omega, ?_, rfl⟩
      have : clampF x 0 W255 = 0 := by unfold clampF; rw [h1, h2]; simp
      rw [this]; exact z0
    | false =>
      refine ⟨255, by omega, ?_, rfl⟩
      have : clampF x 0 W255 = W255 := by unfold clampF; rw [h1, h2, h3]; simp
      rw [this]; exact z5
  | number s m e =>
    have hf : fin x := ⟨_, _, _, h⟩
    have o1 := (order_val hf hf).2.1.2 rfl
    have o2 := (order_val hf val_0.1).1
    have o3 := (order_val hf val_255.1).2.2
    rw [val_0.2] at o2
    rw [val_255.2] at o3
    dsimp only
    by_cases a : val x < 0
    · refine ⟨0, by omega, ?_, ⟨by omega, .inl rfl, .inr ?_⟩⟩
      · have : clampF x 0 W255 = 0 := by unfold clampF; rw [o2.2 a]; simp
        rw [this]; exact z0
      · have : ((0 : Nat) : Rat) = 0 := rfl
        rw [this]; grind
    · have o2' : (double.order x 0 == some .lt) = false := by
        rw [beq_eq_false_iff_ne]; intro hh; exact a (o2.1 hh)
      by_cases b : 255 < val x
      · refine ⟨255, by omega, ?_, ⟨by omega, .inr ?_, .inl rfl⟩⟩
        · have : clampF x 0 W255 = W255 := by unfold clampF; rw [o1, o2', o3.2 b]; simp
          rw [this]; exact z5
        · have : ((255 : Nat) : Rat) = 255 := rfl
          rw [this]; grind
      · have o3' : (double.order x W255 == some .gt) = false := by
          rw [beq_eq_false_iff_ne]; intro hh; exact b (o3.1 hh)
        have hc : clampF x 0 W255 = x := by unfold clampF; rw [o1, o2', o3']; simp
        obtain ⟨n, n1, n2, n3, n4⟩ := round_byte x hx hf (by grind) (by grind)
        exact ⟨n, n1, by rw [hc]; exact toInt_of _ n n2 n3 n1, n4⟩
end Go.Proofs.Ytfaciljklligeaa.Fp
namespace Go.Proofs.Ytfaciljklligeaa.Fp
open Ieee Go

/-- what the tape gives, where the result is no number, is no number -/
theorem nan_cut (x y t : Nat) : ∃ s f, double.read ((Question.nanBits .f64 x y).cut t) = .nan s f := by
  have hc : (Question.nanBits .f64 x y).cut t = (t % 2) * 2 ^ 63 + 0x7ff0000000000000 + 1 + (t / 2) % (2 ^ 52 - 1) := rfl
  rw [hc]
  have hm : (t / 2) % (2 ^ 52 - 1) < 2 ^ 52 - 1 := Nat.mod_lt _ (by omega)
  generalize (t / 2) % (2 ^ 52 - 1) = f at *
  obtain ⟨s, hs⟩ : ∃ s : Bool, (t % 2) * 2 ^ 63 + 0x7ff0000000000000 + 1 + f = double.word s (infR + 1 + f) := by
    by_cases h : t % 2 = 0
    · refine ⟨false, ?_⟩
      unfold Format.word infR
      simp only [Bool.false_eq_true, if_false]
      omega
    · refine ⟨true, ?_⟩
      unfold Format.word infR
      rw [signWeight_eq]
      unfold signW
      simp only [if_true]
      omega
  rw [hs]
  have hw := word_parts s (infR + 1 + f) (by unfold infR signW; omega)
  refine ⟨s, infR + 1 + f - infR, ?_⟩
  unfold Format.read
  rw [signWeight_eq, hw.1, hw.2, binade_eq, infRung_eq]
  dsimp only
  have : infR = 2047 * 2 ^ 52 := rfl
  rw [if_neg (by omega), if_neg (by omega), if_neg (by omega)]

theorem nearest_big (s : Bool) (m : Nat) (p : Int) (h : p2 1022 ≤ (m : Rat) * p2 p) :
    double.read (double.nearest s m p) = .infinity s ∨ ∃ m' e', double.read (double.nearest s m p) = .number s m' e' ∧ p2 1000 ≤ (m' : Rat) * p2 e' := by
  have hm : m ≠ 0 := by
    rintro rfl
    have h1 := p2_pos 1022
    have : ((0 : Nat) : Rat) = 0 := rfl
    rw [this] at h
    grind
  have hhi := log2_lt m
  have hlog : 1022 ≤ p + m.log2 := by
    have h1 : (m : Rat) < ((2 ^ (m.log2 + 1) : Nat) : Rat) := by exact_mod_cast hhi
    have h2 := Rat.mul_lt_mul_of_pos_right h1 (p2_pos p)
    rw [← p2_nat, ← p2_add] at h2
    have h3 : p2 1022 < p2 (((m.log2 + 1 : Nat) : Int) + p) := by grind
    have := lt_of_p2 h3
    omega
  have hR : ∃ R, R ≤ infR ∧ 2044 * 2 ^ 52 ≤ R ∧ double.nearest s m p = double.word s R := by
    unfold Format.nearest
    rw [if_neg hm]
    dsimp only
    rw [least_eq, binade_eq, infRung_eq, show ((double.fractionBits : Nat) : Int) = 52 from rfl]
    refine ⟨_, Nat.min_le_right _ _, ?_, rfl⟩
    have e : 2044 ≤ (max (p + (m.log2 : Int) - 52) (-1074) - -1074).toNat := by omega
    generalize (max (p + (m.log2 : Int) - 52) (-1074) - -1074).toNat = L at *
    generalize Toward.even.cut s _ _ = k
    have : infR = 2047 * 2 ^ 52 := rfl
    omega
  obtain ⟨R, r1, r2, hw⟩ := hR
  rw [hw]
  by_cases hi : R = infR
  · left
    subst hi
    have hw := word_parts s infR (by unfold infR signW; omega)
    unfold Format.read
    rw [signWeight_eq, hw.1, hw.2, binade_eq, infRung_eq]
    dsimp only
    have : infR = 2047 * 2 ^ 52 := rfl
    rw [if_neg (by omega), if_neg (by omega), if_pos rfl]
  · right
    refine ⟨_, _, read_word s R (by omega), ?_⟩
    have hm : 2 ^ 52 ≤ rmag R := by unfold rmag; rw [if_neg (by omega)]; omega
    have hp : 969 ≤ rplace R := by unfold rplace; rw [if_neg (by omega)]; omega
    have h3 : ((2 ^ 52 : Nat) : Rat) ≤ (rmag R : Rat) := by exact_mod_cast hm
    have h4 := p2_le hp
    have h5 := Rat.mul_le_mul_of_nonneg_right h3 (Rat.le_of_lt (p2_pos (rplace R)))
    have h6 := Rat.mul_le_mul_of_nonneg_left h4 (show (0 : Rat) ≤ ((2 ^ 52 : Nat) : Rat) by exact_mod_cast Nat.zero_le _)
    rw [← p2_nat, ← p2_add] at h6
    have h7 : p2 1000 ≤ p2 (((52 : Nat) : Int) + 969) := p2_le (by omega)
    rw [p2_nat] at h6
    grind

def W2 : Nat := 4611686018427387904
theorem read_2 : double.read W2 = .number false (2 ^ 52) (-51) := by decide +kernel
theorem val_2 : fin W2 ∧ val W2 = 2 := ⟨fin_rung (by decide +kernel), by decide +kernel⟩

/-- a whole number as a float -/
theorem val_int (n : Int) (h : n.natAbs ≤ 2 ^ 53) : fin (floatOfInt .f64 n) ∧ val (floatOfInt .f64 n) = (n : Rat) := by
  have hv := number_of_int n 0 (decide (n < 0)) (fun _ => rfl)
  rw [p2_zero, Rat.mul_one] at hv
  have hb : (n : Rat) < p2 1023 ∧ -(n : Rat) < p2 1023 := by
    have hk : ∀ k : Nat, n.natAbs ≤ k → (n : Rat) ≤ (k : Rat) ∧ -(n : Rat) ≤ (k : Rat) := by
      intro k hk
      have h1 : n ≤ (k : Int) := by omega
      have h2 : -n ≤ (k : Int) := by omega
      have h3 : (n : Rat) ≤ (((k : Nat) : Int) : Rat) := by exact_mod_cast h1
      have h4 : ((-n : Int) : Rat) ≤ (((k : Nat) : Int) : Rat) := by exact_mod_cast h2
      push_cast at h4
      exact ⟨by exact_mod_cast h3, by exact_mod_cast h4⟩
    obtain ⟨h1, h2⟩ := hk (2 ^ 53) h
    rw [← p2_nat] at h1 h2
    have h3 : p2 ((53 : Nat) : Int) < p2 1023 := p2_lt (by omega)
    constructor <;> grind
  have hw := written (decide (n < 0)) n.natAbs 0 (by rw [hv]; exact hb.1) (by rw [hv]; exact hb.2)
  refine ⟨hw.1, ?_⟩
  have := hw.2.exact n 0 h (by omega) (by rw [hv, p2_zero, Rat.mul_one])
  exact this.trans hv

theorem rmag_lt (r : Nat) : rmag r ≤ 2 ^ 53 := by unfold rmag; split <;> omega
theorem read_mag {x : Nat} {s : Bool} {m : Nat} {e : Int} (h : double.read x = .number s m e) : m ≤ 2 ^ 53 ∧ -1074 ≤ e := by
  unfold Format.read at h
  rw [binade_eq, infRung_eq, least_eq] at h
  dsimp only at h
  split at h
  · rename_i h1
    injection h with _ h2 h3
    constructor <;> omega
  · split at h
    · rename_i h1 h2
      injection h with _ h3 h4
      generalize x % double.signWeight = r at *
      constructor <;> omega
    · split at h <;> cases h

/-- 2n+1 held against twice a word -/
def Odd (x : Nat) (n : Int) : Bool :=
  match double.read x with
  | .nan .. => false
  | .infinity s => !s
  | .number .. => decide (2 * (n : Rat) + 1 ≤ 2 * val x)

theorem odd_test (x t : Nat) (n : Int) (h0 : 0 ≤ n) (h1 : n ≤ 300) (y : Nat)
    (hy : y = match floatBits .mul .f64 W2 x with | some r => r | none => (Question.nanBits .f64 W2 x).cut t) :
    (double.order (floatOfInt .f64 (2 * n + 1)) y == some .lt || double.order (floatOfInt .f64 (2 * n + 1)) y == some .eq) = Odd x n := by
  obtain ⟨fo, vo⟩ := val_int (2 * n + 1) (by omega)
  have e1 : ((2 * n + 1 : Int) : Rat) = 2 * (n : Rat) + 1 := by push_cast; rfl
  rw [e1] at vo
  unfold Odd
  have hm : floatBits .mul .f64 W2 x = double.mul W2 x := rfl
  rw [hm] at hy
  unfold Format.mul at hy
  rw [read_2] at hy
  cases h : double.read x with
  | nan s f =>
    rw [h] at hy
    obtain ⟨a, b, hn⟩ := nan_cut W2 x t
    have hy' : y = (Question.nanBits .f64 W2 x).cut t := hy
    rw [← hy'] at hn
    obtain ⟨_, h2⟩ := order_self_nan hn (floatOfInt .f64 (2 * n + 1))
    rw [h2]; rfl
  | infinity s =>
    rw [h] at hy
    have hy' : y = double.write (.infinity s) := by rw [hy]; cases s <;> rfl
    have hr : double.read y = .infinity s := by rw [hy']; cases s <;> decide +kernel
    obtain ⟨s', m', e', ho, _⟩ := fin_read fo
    unfold Format.order
    rw [hr, ho]
    cases s <;> rfl
  | number s m e =>
    rw [h] at hy
    have hy' : y = double.nearest s (2 ^ 52 * m) (-51 + e) := by rw [hy]; cases s <;> rfl
    have hf : fin x := ⟨_, _, _, h⟩
    have hx : val x = sg s * (m : Rat) * p2 e := by unfold val; rw [h]; rfl
    have h2 : ((2 ^ 52 * m : Nat) : Rat) * p2 (-51 + e) = 2 * ((m : Rat) * p2 e) := by
      rw [p2_add]
      have : ((2 ^ 52 : Nat) : Rat) * p2 (-51) = 2 := by decide +kernel
      rw [Rat.natCast_mul]
      grind
    have hmp := mag_nonneg m e
    have hn0 : (0 : Rat) ≤ (n : Rat) := by exact_mod_cast h0
    have hn1 : (n : Rat) ≤ 300 := by
      exact Rat.intCast_le_intCast.2 h1
    dsimp only
    by_cases hb : p2 1022 ≤ ((2 ^ 52 * m : Nat) : Rat) * p2 (-51 + e)
    · -- great
      have hbig : p2 1022 ≤ 2 * ((m : Rat) * p2 e) := by rw [← h2]; exact hb
      have h9 : (1000 : Rat) < p2 1000 := by
        have : p2 10 ≤ p2 1000 := p2_le (by omega)
        have h10 : p2 10 = 1024 := by decide +kernel
        grind
      have h9' : p2 1000 ≤ p2 1022 := p2_le (by omega)
      rcases nearest_big s (2 ^ 52 * m) (-51 + e) hb with hi | ⟨m', e', hr, hbm⟩
      · rw [← hy'] at hi
        obtain ⟨s', m', e', ho, _⟩ := fin_read fo
        unfold Format.order
        rw [hi, ho]
        cases s
        · have : 2 * (n : Rat) + 1 ≤ 2 * val x := by rw [hx]; unfold sg; simp; grind
          rw [decide_eq_true this]; rfl
        · have : ¬ (2 * (n : Rat) + 1 ≤ 2 * val x) := by rw [hx]; unfold sg; simp; grind
          rw [decide_eq_false this]; rfl
      · rw [← hy'] at hr
        have fy : fin y := ⟨_, _, _, hr⟩
        have vy : val y = sg s * (m' : Rat) * p2 e' := by unfold val; rw [hr]; rfl
        have o := order_val fo fy
        cases s
        · have h3 : val (floatOfInt .f64 (2 * n + 1)) < val y := by rw [vo, vy]; unfold sg; simp; grind
          rw [o.1.2 h3]
          have : 2 * (n : Rat) + 1 ≤ 2 * val x := by rw [hx]; unfold sg; simp; grind
          rw [decide_eq_true this]; rfl
        · have h3 : val y < val (floatOfInt .f64 (2 * n + 1)) := by rw [vo, vy]; unfold sg; simp; grind
          rw [o.2.2.2 h3]
          have : ¬ (2 * (n : Rat) + 1 ≤ 2 * val x) := by rw [hx]; unfold sg; simp; grind
          rw [decide_eq_false this]; rfl
    · have hv2 : dval (.number s (2 ^ 52 * m) (-51 + e)) = 2 * val x := by
        unfold dval
        dsimp only
        rw [Rat.mul_assoc, h2, hx]
        grind
      have h9' : p2 1022 < p2 1023 := p2_lt (by omega)
      have hlt : ((2 ^ 52 * m : Nat) : Rat) * p2 (-51 + e) < p2 1023 := by grind
      obtain ⟨m', e', hr, hrd⟩ := write_rd s (2 ^ 52 * m) (-51 + e) hlt
      have hr' : double.read y = .number s m' e' := by rw [hy']; exact hr
      have fy : fin y := ⟨_, _, _, hr'⟩
      have vy : val y = 2 * val x := by
        have h3 : val y = dval (.number s m' e') := by unfold val; rw [hr']
        rw [h3]
        obtain ⟨hmm, hee⟩ := read_mag h
        have := hrd.exact (if s then -(m : Int) else (m : Int)) (e + 1) (by split <;> omega) (by omega) (by
          rw [hv2, hx, p2_add, p2_one]
          unfold sg
          cases s <;> simp <;> push_cast <;> grind)
        rw [this, hv2]
      have o := order_val fo fy
      rw [vo, vy] at o
      by_cases c : 2 * (n : Rat) + 1 < 2 * val x
      · rw [o.1.2 c, decide_eq_true (by grind)]; rfl
      · by_cases d : 2 * (n : Rat) + 1 = 2 * val x
        · rw [o.2.1.2 d, decide_eq_true (by grind)]; rfl
        · rw [o.2.2.2 (by grind), decide_eq_false (by grind)]; rfl

/-- where the loop ends is the byte -/
theorem odd_byte (x n : Nat) (hn : n ≤ 255) (low : n = 0 ∨ Odd x ((n : Int) - 1) = true) (high : n = 255 ∨ Odd x (n : Int) = false) : ByteR x n := by
  unfold ByteR
  unfold Odd at low high
  cases h : double.read x with
  | nan s f => rw [h] at low; simpa using low
  | infinity s =>
    rw [h] at low high
    cases s
    · simpa using high
    · simpa using low
  | number s m e =>
    rw [h] at low high
    dsimp only at low high ⊢
    have c : (((n : Nat) : Int) : Rat) = (n : Rat) := by norm_cast
    have d : ((((n : Nat) : Int) - 1 : Int) : Rat) = (n : Rat) - 1 := by push_cast; rfl
    rw [d] at low
    rw [c] at high
    refine ⟨hn, ?_, ?_⟩
    · rcases low with a | a
      · exact .inl a
      · right; have := of_decide_eq_true a; grind
    · rcases high with a | a
      · exact .inl a
      · right; have := of_decide_eq_false a; grind
end Go.Proofs.Ytfaciljklligeaa.Fp
namespace Go.Proofs.Ytfaciljklligeaa.Fp
open Ieee
/-! ### the quotient -/
theorem mulc {a b c : Rat} (hc : c ≠ 0) (h : a * c = b * c) : a = b := by
  have h1 := Rat.mul_inv_cancel c hc
  have h2 : a * c * c⁻¹ = b * c * c⁻¹ := by rw [h]
  rw [Rat.mul_assoc, Rat.mul_assoc, h1] at h2
  simpa using h2
theorem quot_core (m n : Nat) (hm : m ≠ 0) (hn : n ≠ 0) (more D q : Nat) (hmore : more = 54 + n.log2 - m.log2) (hD : D = m * 2 ^ more) (hq : q = 2 * (D / n) + (D % n != 0).toNat) :
    q * n ≤ 2 * D + n ∧ 2 * D ≤ q * n + n ∧ n * 2 ^ 54 ≤ 2 * D ∧ (D % n = 0 → q * n = 2 * D) := by
  have h1 := log2_le m hm
  have h2 := log2_lt n
  have hle : n * 2 ^ 54 ≤ 2 * D := by
    have : 2 ^ (54 + n.log2) ≤ D := by
      rw [hD]
      refine Nat.le_trans (Nat.pow_le_pow_right (by omega) (show 54 + n.log2 ≤ m.log2 + more by omega)) ?_
      rw [Nat.pow_add]
      exact Nat.mul_le_mul_right _ h1
    have h3 : n * 2 ^ 54 ≤ 2 ^ (n.log2 + 1) * 2 ^ 54 := Nat.mul_le_mul_right _ (Nat.le_of_lt h2)
    rw [← Nat.pow_add, show n.log2 + 1 + 54 = (54 + n.log2) + 1 by omega, Nat.pow_succ] at h3
    omega
  have hdm := Nat.div_add_mod D n
  have hlt := Nat.mod_lt D (Nat.pos_of_ne_zero hn)
  have hqn : q * n = 2 * (n * (D / n)) + (D % n != 0).toNat * n := by
    rw [hq, Nat.add_mul, Nat.mul_assoc, Nat.mul_comm (D / n) n]
  generalize n * (D / n) = X at *
  generalize hR : D % n = R at *
  by_cases h0 : R = 0
  · subst h0
    simp at hqn
    refine ⟨by omega, by omega, hle, fun _ => by omega⟩
  · have : (R != 0).toNat = 1 := by simp [h0]
    rw [this] at hqn
    refine ⟨by omega, by omega, hle, fun h => absurd h h0⟩

theorem quot_dvd (m n c : Nat) (i j : Int) (hc : c ≤ 2 ^ 53) (h : (m : Rat) * p2 i = (c : Rat) * (n : Rat) * p2 j) : (m * 2 ^ (54 + n.log2 - m.log2)) % n = 0 := by
  by_cases hm : m = 0
  · subst hm; simp
  by_cases hij : i ≤ j
  · obtain ⟨d, rfl⟩ : ∃ d : Nat, j = i + d := ⟨(j - i).toNat, by omega⟩
    rw [p2_add, p2_nat] at h
    have hp := p2_pos i
    have h' : (m : Rat) = (c : Rat) * (n : Rat) * ((2 ^ d : Nat) : Rat) := by
      have e : (m : Rat) * p2 i = ((c : Rat) * (n : Rat) * ((2 ^ d : Nat) : Rat)) * p2 i := by grind
      exact mulc (Rat.ne_of_gt hp) e
    have h2 : m = c * n * 2 ^ d := by exact_mod_cast h'
    rw [show m * 2 ^ (54 + n.log2 - m.log2) = n * (c * 2 ^ d * 2 ^ (54 + n.log2 - m.log2)) by
      generalize 2 ^ (54 + n.log2 - m.log2) = z
      rw [h2]; grind]
    exact Nat.mul_mod_right _ _
  · obtain ⟨d, rfl⟩ : ∃ d : Nat, i = j + d := ⟨(i - j).toNat, by omega⟩
    rw [p2_add, p2_nat] at h
    have hp := p2_pos j
    have h' : (m : Rat) * ((2 ^ d : Nat) : Rat) = (c : Rat) * (n : Rat) := by
      have e : ((m : Rat) * ((2 ^ d : Nat) : Rat)) * p2 j = ((c : Rat) * (n : Rat)) * p2 j := by grind
      exact mulc (Rat.ne_of_gt hp) e
    have h2 : m * 2 ^ d = c * n := by exact_mod_cast h'
    have h3 := log2_le m hm
    have h4 := log2_lt n
    have h5 : 2 ^ (m.log2 + d) < 2 ^ (54 + n.log2) := by
      rw [Nat.pow_add]
      refine Nat.lt_of_le_of_lt (Nat.mul_le_mul_right _ h3) ?_
      rw [h2]
      refine Nat.lt_of_le_of_lt (Nat.mul_le_mul_right _ hc) ?_
      rw [show 54 + n.log2 = 53 + (n.log2 + 1) by omega, Nat.pow_add]
      exact Nat.mul_lt_mul_of_pos_left h4 (Nat.two_pow_pos _)
    have h6 : m.log2 + d < 54 + n.log2 := (Nat.pow_lt_pow_iff_right (by omega)).1 h5
    obtain ⟨k, hk⟩ : ∃ k, 54 + n.log2 - m.log2 = d + k := ⟨54 + n.log2 - m.log2 - d, by omega⟩
    rw [hk, Nat.pow_add, ← Nat.mul_assoc, h2, Nat.mul_assoc, Nat.mul_left_comm]
    exact Nat.mul_mod_right _ _

/-- y is the number nearest to some v that is next to x -/
structure Rq (y x : Rat) : Prop where
  pos : 0 ≤ x → 0 ≤ y ∧ y - x ≤ x * p2 (-52) + p2 (-1074) ∧ x - y ≤ x * p2 (-52) + p2 (-1074)
  neg : x ≤ 0 → y ≤ 0 ∧ y - x ≤ -x * p2 (-52) + p2 (-1074) ∧ x - y ≤ -x * p2 (-52) + p2 (-1074)
  exact : ∀ c : Int, c.natAbs ≤ 2 ^ 53 → x = (c : Rat) → y = x

structure Nq (v x : Rat) : Prop where
  pos : 0 ≤ x → 0 ≤ v ∧ v - x ≤ x * p2 (-54) ∧ x - v ≤ x * p2 (-54)
  neg : x ≤ 0 → v ≤ 0 ∧ v - x ≤ -x * p2 (-54) ∧ x - v ≤ -x * p2 (-54)
  exact : ∀ c : Int, c.natAbs ≤ 2 ^ 53 → x = (c : Rat) → v = x

theorem Nq.flip {v x : Rat} (h : Nq v x) : Nq (-v) (-x) := by
  refine ⟨fun h0 => ?_, fun h0 => ?_, fun c hc hx => ?_⟩
  · have := h.neg (by grind); grind
  · have := h.pos (by grind); grind
  · have := h.exact (-c) (by omega) (by push_cast; grind)
    grind

/-- magnitudes -/
theorem quot_mag (m n : Nat) (i j : Int) (hn : n ≠ 0) :
    Nq (((2 * (m * 2 ^ (54 + n.log2 - m.log2) / n) + (m * 2 ^ (54 + n.log2 - m.log2) % n != 0).toNat : Nat) : Rat) * p2 (i - j - (54 + n.log2 - m.log2 : Nat) - 1)) (((m : Rat) * p2 i) / ((n : Rat) * p2 j)) := by
  have hnr : (0 : Rat) < (n : Rat) := by exact_mod_cast Nat.pos_of_ne_zero hn
  have hpi := p2_pos i
  have hpj := p2_pos j
  have hB : (0 : Rat) < (n : Rat) * p2 j := Rat.mul_pos hnr hpj
  by_cases hm : m = 0
  · subst hm
    have e1 : ((0 : Nat) : Rat) * p2 i / ((n : Rat) * p2 j) = 0 := by
      rw [show ((0 : Nat) : Rat) = 0 from rfl, Rat.zero_mul, Rat.div_def, Rat.zero_mul]
    have e2 : ((2 * (0 * 2 ^ (54 + n.log2 - Nat.log2 0) / n) + (0 * 2 ^ (54 + n.log2 - Nat.log2 0) % n != 0).toNat : Nat) : Rat) = 0 := by simp
    rw [e1, e2, Rat.zero_mul]
    exact ⟨fun _ => by grind, fun _ => by grind, fun _ _ h => h ▸ rfl⟩
  · obtain ⟨k1, k2, k3, k4⟩ := quot_core m n hm hn _ _ _ rfl rfl rfl
    have hdv := fun c hc h => quot_dvd m n c i j hc h
    generalize hmore : 54 + n.log2 - m.log2 = more at *
    generalize 2 * (m * 2 ^ more / n) + (m * 2 ^ more % n != 0).toNat = q at *
    have ep : p2 (i - j - (more : Nat) - 1) * (2 * ((2 ^ more : Nat) : Rat)) * p2 j = p2 i := by
      have : p2 i = p2 (i - j - (more : Nat) - 1) * p2 ((more : Nat) : Int) * p2 1 * p2 j := by
        rw [← p2_add, ← p2_add, ← p2_add]; congr 1; omega
      rw [this, p2_one, p2_nat]; grind
    have hP := p2_pos (i - j - (more : Nat) - 1)
    generalize p2 (i - j - (more : Nat) - 1) = P at *
    -- x·B = m·p2 i ; v = q P
    have hx : ((m : Rat) * p2 i) / ((n : Rat) * p2 j) * ((n : Rat) * p2 j) = (m : Rat) * p2 i := Rat.div_mul_cancel (Rat.ne_of_gt hB)
    generalize ((m : Rat) * p2 i) / ((n : Rat) * p2 j) = x at *
    have c1 : ((q : Nat) : Rat) * n ≤ 2 * ((m : Rat) * ((2 ^ more : Nat) : Rat)) + n := by exact_mod_cast k1
    have c2 : 2 * ((m : Rat) * ((2 ^ more : Nat) : Rat)) ≤ ((q : Nat) : Rat) * n + n := by exact_mod_cast k2
    have c3 : (n : Rat) * ((2 ^ 54 : Nat) : Rat) ≤ 2 * ((m : Rat) * ((2 ^ more : Nat) : Rat)) := by exact_mod_cast k3
    have c4 : m * 2 ^ more % n = 0 → ((q : Nat) : Rat) * n = 2 * ((m : Rat) * ((2 ^ more : Nat) : Rat)) := fun h => by exact_mod_cast k4 h
    generalize ((2 ^ more : Nat) : Rat) = M at *
    -- x * n = 2 m M P
    have hxn : x * (n : Rat) = 2 * ((m : Rat) * M) * P := by
      have e : (x * (n : Rat)) * p2 j = (2 * ((m : Rat) * M) * P) * p2 j := by rw [← ep] at hx; grind
      exact mulc (Rat.ne_of_gt hpj) e
    have e54 : p2 (-54) * ((2 ^ 54 : Nat) : Rat) = 1 := by
      rw [← p2_nat 54, ← p2_add]; exact p2_zero
    have h54 := p2_pos (-54)
    generalize hE : p2 (-54) = E at *
    generalize ((2 ^ 54 : Nat) : Rat) = K at *
    have hm0 : (0 : Rat) < (m : Rat) := by exact_mod_cast Nat.pos_of_ne_zero hm
    -- n P ≤ x n E
    have d1 : (n : Rat) * P ≤ x * E * n := by
      have a : ((n : Rat) * K) * P ≤ 2 * ((m : Rat) * M) * P := Rat.mul_le_mul_of_nonneg_right c3 (Rat.le_of_lt hP)
      rw [← hxn] at a
      have b := Rat.mul_le_mul_of_nonneg_right a (Rat.le_of_lt h54)
      have r : (n : Rat) * K * P * E = (E * K) * ((n : Rat) * P) := by grind
      rw [r, e54, Rat.one_mul] at b
      have r2 : x * (n : Rat) * E = x * E * n := by grind
      rw [r2] at b
      exact b
    have d2 : ((q : Rat) * P - x) * n ≤ (x * E) * n := by
      have a := Rat.mul_le_mul_of_nonneg_right c1 (Rat.le_of_lt hP)
      grind
    have d3 : (x - (q : Rat) * P) * n ≤ (x * E) * n := by
      have a := Rat.mul_le_mul_of_nonneg_right c2 (Rat.le_of_lt hP)
      grind
    have f2 := Rat.le_of_mul_le_mul_right d2 hnr
    have f3 := Rat.le_of_mul_le_mul_right d3 hnr
    have hq0 : (0 : Rat) ≤ (q : Rat) * P := Rat.mul_nonneg (by exact_mod_cast Nat.zero_le q) (Rat.le_of_lt hP)
    have hxpos : 0 < x := by
      have hpx : 0 < x * ((n : Rat) * p2 j) := by rw [hx]; exact Rat.mul_pos hm0 hpi
      refine Rat.not_le.1 fun hle => ?_
      have := Rat.mul_le_mul_of_nonneg_right hle (Rat.le_of_lt hB)
      grind
    refine ⟨fun _ => ⟨hq0, by rw [hE]; exact f2, by rw [hE]; exact f3⟩, fun h0 => absurd hxpos (by grind), ?_⟩
    intro c hc hxc
    have hcn : (0 : Rat) < (c : Rat) := by grind
    have hcpos : 0 < c := by exact_mod_cast hcn
    obtain ⟨cn, rfl⟩ : ∃ cn : Nat, c = cn := ⟨c.toNat, by omega⟩
    have hd := hdv cn (by omega) (by
      rw [← hx, hxc]; push_cast; grind)
    have c5 := c4 hd
    have e : ((q : Rat) * P) * n = x * n := by rw [hxn, ← c5]; grind
    exact mulc (Rat.ne_of_gt hnr) e

theorem dval_quot (s t : Bool) (m n : Nat) (i j e : Int) (q : Nat) (hn : n ≠ 0) (h : Nq ((q : Rat) * p2 e) (((m : Rat) * p2 i) / ((n : Rat) * p2 j))) :
    Nq (dval (.number (s ^^ t) q e)) (dval (.number s m i) / dval (.number t n j)) := by
  have hnr : (n : Rat) * p2 j ≠ 0 := Rat.ne_of_gt (Rat.mul_pos (by exact_mod_cast Nat.pos_of_ne_zero hn) (p2_pos j))
  unfold dval
  dsimp only
  have e1 : sg s * (m : Rat) * p2 i / (sg t * (n : Rat) * p2 j) = sg (s ^^ t) * (((m : Rat) * p2 i) / ((n : Rat) * p2 j)) := by
    have hx : ((m : Rat) * p2 i) / ((n : Rat) * p2 j) * ((n : Rat) * p2 j) = (m : Rat) * p2 i := Rat.div_mul_cancel hnr
    generalize ((m : Rat) * p2 i) / ((n : Rat) * p2 j) = x at *
    have ht : sg t * (n : Rat) * p2 j ≠ 0 := by cases t <;> simp [sg] <;> grind
    refine mulc ht ?_
    rw [Rat.div_mul_cancel ht]
    cases s <;> cases t <;> simp [sg] <;> grind
  have e2 : sg (s ^^ t) * (q : Rat) * p2 e = sg (s ^^ t) * ((q : Rat) * p2 e) := by grind
  rw [e1, e2]
  generalize (s ^^ t) = b
  cases b
  · simpa [sg] using h
  · have := h.flip
    simpa [sg, Rat.neg_mul] using this

theorem div_rd {a b : Nat} (ha : fin a) (hb : fin b) (h0 : val b ≠ 0) (h1 : val a / val b < p2 1022) (h2 : -(val a / val b) < p2 1022) :
    ∃ r v, double.div a b = some r ∧ fin r ∧ Nq v (val a / val b) ∧ Rd (val r) v := by
  obtain ⟨s, m, i, ra, va⟩ := fin_read ha
  obtain ⟨t, n, j, rb, vb⟩ := fin_read hb
  have hn : n ≠ 0 := by
    rintro rfl
    rw [vb] at h0
    exact h0 (by simp [dval])
  have hq := dval_quot s t m n i j _ _ hn (quot_mag m n i j hn)
  rw [va, vb] at h1 h2 ⊢
  generalize dval (.number s m i) / dval (.number t n j) = x at *
  have hb1 : p2 1023 = 2 * p2 1022 := p2_split 1023
  have h54 : p2 (-54) ≤ 1 := by rw [← p2_zero]; exact p2_le (by omega)
  have h54' := p2_pos (-54)
  have hP := p2_pos 1022
  have hw := written (s ^^ t) (2 * (m * 2 ^ (54 + n.log2 - m.log2) / n) + (m * 2 ^ (54 + n.log2 - m.log2) % n != 0).toNat) (i - j - (54 + n.log2 - m.log2 : Nat) - 1)
  generalize dval (.number (s ^^ t) (2 * (m * 2 ^ (54 + n.log2 - m.log2) / n) + (m * 2 ^ (54 + n.log2 - m.log2) % n != 0).toNat) (i - j - (54 + n.log2 - m.log2 : Nat) - 1)) = v at *
  have hlt : v < p2 1023 ∧ -v < p2 1023 := by
    rcases Rat.le_total (a := 0) (b := x) with hx | hx
    · have k := hq.pos hx
      have : x * p2 (-54) ≤ x * 1 := Rat.mul_le_mul_of_nonneg_left h54 hx
      constructor <;> grind
    · have k := hq.neg hx
      have : -x * p2 (-54) ≤ -x * 1 := Rat.mul_le_mul_of_nonneg_left h54 (by grind)
      constructor <;> grind
  obtain ⟨hf, hr⟩ := hw hlt.1 hlt.2
  refine ⟨_, v, ?_, hf, hq, hr⟩
  unfold Format.div
  rw [ra, rb]
  simp only [Datum.quotient, if_neg hn, Nat.shiftLeft_eq, Option.map_some]
  rfl

/-! ### the square root -/
theorem rootFrom_spec (n : Nat) : ∀ (t r : Nat), r * r ≤ n → n < (r + 2 ^ t) * (r + 2 ^ t) →
    Datum.rootFrom n t r * Datum.rootFrom n t r ≤ n ∧ n < (Datum.rootFrom n t r + 1) * (Datum.rootFrom n t r + 1) := by
  intro t
  induction t with
  | zero => intro r h1 h2; unfold Datum.rootFrom; exact ⟨h1, by simpa using h2⟩
  | succ t ih =>
    intro r h1 h2
    unfold Datum.rootFrom
    dsimp only
    rw [Nat.shiftLeft_eq, Nat.one_mul]
    by_cases h : (r + 2 ^ t) * (r + 2 ^ t) ≤ n
    · rw [if_pos h]
      exact ih _ h (by rw [show r + 2 ^ t + 2 ^ t = r + 2 ^ (t + 1) by rw [Nat.pow_succ]; omega]; exact h2)
    · rw [if_neg h]
      exact ih _ h1 (by omega)
theorem root_whole (n : Nat) : let w := Datum.rootFrom n (n.log2 / 2 + 1) 0; w * w ≤ n ∧ n < (w + 1) * (w + 1) := by
  refine rootFrom_spec n _ 0 (by simp) ?_
  rw [Nat.zero_add, ← Nat.pow_add]
  exact Nat.lt_of_lt_of_le (log2_lt n) (Nat.pow_le_pow_right (by omega) (by omega))
theorem root_core (n w q : Nat) (hn : 2 ^ 108 ≤ n) (h1 : w * w ≤ n) (h2 : n < (w + 1) * (w + 1)) (hq : q = 2 * w + (w * w != n).toNat) :
    q * q * 2 ^ 54 ≤ 4 * n * 2 ^ 54 + 4 * n ∧ 4 * n * 2 ^ 54 ≤ q * q * 2 ^ 54 + 4 * n := by
  have hw : 2 ^ 54 ≤ w := by
    by_cases h : 2 ^ 54 ≤ w
    · exact h
    · have : (w + 1) * (w + 1) ≤ 2 ^ 54 * 2 ^ 54 := Nat.mul_le_mul (by omega) (by omega)
      omega
  have h3 : w * 2 ^ 54 ≤ w * w := Nat.mul_le_mul_left _ hw
  have e2 : (w + 1) * (w + 1) = w * w + 2 * w + 1 := by grind
  rw [e2] at h2
  by_cases h0 : w * w = n
  · have : (w * w != n).toNat = 0 := by simp [h0]
    rw [this] at hq
    have : q * q = 4 * (w * w) := by rw [hq]; grind
    omega
  · have : (w * w != n).toNat = 1 := by simp [h0]
    rw [this] at hq
    have : q * q = 4 * (w * w) + 4 * w + 1 := by rw [hq]; grind
    omega
theorem sqrt_rd {a : Nat} (ha : fin a) (h0 : 0 ≤ val a) (hlt : val a < p2 1023) :
    ∃ r v, double.sqrt a = some r ∧ fin r ∧ 0 ≤ v ∧ v * v ≤ val a + val a * p2 (-54) ∧ val a ≤ v * v + val a * p2 (-54) ∧ Rd (val r) v := by
  obtain ⟨s, m, i, ra, va⟩ := fin_read ha
  by_cases hm : m = 0
  · subst hm
    have hv : dval (.number s 0 i) = 0 := by simp [dval]
    have hw := written s 0 i (by rw [hv]; exact p2_pos _) (by rw [hv]; have := p2_pos 1023; grind)
    rw [hv] at hw
    rw [va, hv]
    refine ⟨double.write (.number s 0 i), 0, ?_, hw.1, by grind, by grind, by grind, hw.2⟩
    unfold Format.sqrt; rw [ra]; rfl
  · have hm0 : (0 : Rat) < (m : Rat) := by exact_mod_cast Nat.pos_of_ne_zero hm
    have hs : s = false := by
      cases s
      · rfl
      · exfalso
        rw [va] at h0; unfold dval sg at h0
        have := Rat.mul_pos hm0 (p2_pos i)
        simp at h0
        grind
    subst hs
    have hx : val a = (m : Rat) * p2 i := by rw [va]; unfold dval sg; simp
    obtain ⟨more, hmore⟩ : ∃ more, more = 2 * 54 - m.log2 + ((i - (2 * 54 - m.log2 : Nat)) % 2).toNat := ⟨_, rfl⟩
    obtain ⟨e, he⟩ : ∃ e : Int, i = more + 2 * e := ⟨(i - more) / 2, by omega⟩
    have hn : 2 ^ 108 ≤ m * 2 ^ more := by
      refine Nat.le_trans (Nat.pow_le_pow_right (by omega) (show 108 ≤ m.log2 + more by omega)) ?_
      rw [Nat.pow_add]
      exact Nat.mul_le_mul_right _ (log2_le m hm)
    obtain ⟨w1, w2⟩ := root_whole (m * 2 ^ more)
    obtain ⟨w, hw⟩ : ∃ w, w = Datum.rootFrom (m * 2 ^ more) ((m * 2 ^ more).log2 / 2 + 1) 0 := ⟨_, rfl⟩
    rw [← hw] at w1 w2
    obtain ⟨q, hq⟩ : ∃ q, q = 2 * w + (w * w != m * 2 ^ more).toNat := ⟨_, rfl⟩
    obtain ⟨k1, k2⟩ := root_core _ w q hn w1 w2 hq
    have c1 : (q : Rat) * q * ((2 ^ 54 : Nat) : Rat) ≤ 4 * ((m : Rat) * ((2 ^ more : Nat) : Rat)) * ((2 ^ 54 : Nat) : Rat) + 4 * ((m : Rat) * ((2 ^ more : Nat) : Rat)) := by exact_mod_cast k1
    have c2 : 4 * ((m : Rat) * ((2 ^ more : Nat) : Rat)) * ((2 ^ 54 : Nat) : Rat) ≤ (q : Rat) * q * ((2 ^ 54 : Nat) : Rat) + 4 * ((m : Rat) * ((2 ^ more : Nat) : Rat)) := by exact_mod_cast k2
    have hp := p2_pos (e - 1)
    have hxe : val a = 4 * ((m : Rat) * ((2 ^ more : Nat) : Rat)) * (p2 (e - 1) * p2 (e - 1)) := by
      have : p2 i = p2 ((more : Nat) : Int) * (p2 1 * p2 1 * (p2 (e - 1) * p2 (e - 1))) := by
        rw [← p2_add, ← p2_add, ← p2_add, ← p2_add]; congr 1; omega
      rw [hx, this, p2_one, p2_nat]; grind
    have e54 : p2 (-54) * ((2 ^ 54 : Nat) : Rat) = 1 := by
      rw [← p2_nat 54, ← p2_add]; exact p2_zero
    have h54 := p2_pos (-54)
    have hq0 : (0 : Rat) ≤ (q : Rat) := by exact_mod_cast Nat.zero_le q
    have hv0 : 0 ≤ (q : Rat) * p2 (e - 1) := Rat.mul_nonneg hq0 (Rat.le_of_lt hp)
    have hsmall : p2 (-54) ≤ 1 := by rw [← p2_zero]; exact p2_le (by omega)
    have hdv : dval (.number false q (e - 1)) = (q : Rat) * p2 (e - 1) := by unfold dval sg; simp
    have hPP : 0 < p2 (-54) * (p2 (e - 1) * p2 (e - 1)) := Rat.mul_pos h54 (Rat.mul_pos hp hp)
    have d1 := Rat.mul_le_mul_of_nonneg_right c1 (Rat.le_of_lt hPP)
    have d2 := Rat.mul_le_mul_of_nonneg_right c2 (Rat.le_of_lt hPP)
    generalize (m : Rat) * ((2 ^ more : Nat) : Rat) = N at *
    generalize ((2 ^ 54 : Nat) : Rat) = K at *
    have b1 : (q : Rat) * p2 (e - 1) * ((q : Rat) * p2 (e - 1)) ≤ val a + val a * p2 (-54) := by
      rw [hxe]
      generalize p2 (-54) = E at *
      generalize p2 (e - 1) = p at *
      have r1 : (q : Rat) * q * K * (E * (p * p)) = (q : Rat) * p * ((q : Rat) * p) := by
        have : (q : Rat) * q * K * (E * (p * p)) = (E * K) * ((q : Rat) * p * ((q : Rat) * p)) := by grind
        rw [this, e54, Rat.one_mul]
      have r2 : (4 * N * K + 4 * N) * (E * (p * p)) = 4 * N * (p * p) + 4 * N * (p * p) * E := by
        have : (4 * N * K + 4 * N) * (E * (p * p)) = (E * K) * (4 * N * (p * p)) + 4 * N * (p * p) * E := by grind
        rw [this, e54, Rat.one_mul]
      rw [r1, r2] at d1
      exact d1
    have b2 : val a ≤ (q : Rat) * p2 (e - 1) * ((q : Rat) * p2 (e - 1)) + val a * p2 (-54) := by
      rw [hxe]
      generalize p2 (-54) = E at *
      generalize p2 (e - 1) = p at *
      have r1 : ((q : Rat) * q * K + 4 * N) * (E * (p * p)) = (q : Rat) * p * ((q : Rat) * p) + 4 * N * (p * p) * E := by
        have : ((q : Rat) * q * K + 4 * N) * (E * (p * p)) = (E * K) * ((q : Rat) * p * ((q : Rat) * p)) + 4 * N * (p * p) * E := by grind
        rw [this, e54, Rat.one_mul]
      have r2 : (4 * N * K) * (E * (p * p)) = 4 * N * (p * p) := by
        have : (4 * N * K) * (E * (p * p)) = (E * K) * (4 * N * (p * p)) := by grind
        rw [this, e54, Rat.one_mul]
      rw [r1, r2] at d2
      exact d2
    have hvlt : (q : Rat) * p2 (e - 1) < p2 1023 := by
      refine Rat.not_le.1 fun hge => ?_
      have hP := p2_pos 1023
      have m1 := Rat.mul_le_mul_of_nonneg_left hge (Rat.le_of_lt hP)
      have m2 := Rat.mul_le_mul_of_nonneg_right hge hv0
      have m3 : val a * p2 (-54) ≤ val a * 1 := Rat.mul_le_mul_of_nonneg_left hsmall h0
      have m4 : p2 1023 * p2 1023 = p2 1022 * p2 1024 := by rw [← p2_add, ← p2_add]; rfl
      have m5 : p2 1024 = 2 * p2 1023 := p2_split 1024
      have m6 : (1 : Rat) ≤ p2 1022 := by rw [← p2_zero]; exact p2_le (by omega)
      have m7 : 1 * p2 1024 ≤ p2 1022 * p2 1024 := Rat.mul_le_mul_of_nonneg_right m6 (Rat.le_of_lt (p2_pos _))
      grind
    obtain ⟨hf, hr⟩ := written false q (e - 1) (by rw [hdv]; exact hvlt) (by rw [hdv]; have := p2_pos 1023; grind)
    rw [hdv] at hr
    refine ⟨_, _, ?_, hf, hv0, b1, b2, hr⟩
    unfold Format.sqrt
    rw [ra]
    simp only [Datum.root, if_neg hm, Bool.false_eq_true, if_false, Nat.shiftLeft_eq, show double.fractionBits + 2 = 54 from rfl, ← hmore, Option.map_some]
    rw [← hw, ← hq, show (i - (more : Int)) / 2 - 1 = e - 1 by omega]
end Go.Proofs.Ytfaciljklligeaa.Fp
