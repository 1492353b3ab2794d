/- The order of doubles by a whole number. -/
import Derived.Test.YtfaciljklligeaaTl
namespace Go.Proofs.Ytfaciljklligeaa.Ct
open Go.ChangeShapes Go.WideShapes Go.RowKit Mm
/-- a rung's worth, in least steps -/
def vr (r : Nat) : Nat := if r < 2 ^ 52 then r else (2 ^ 52 + r % 2 ^ 52) * 2 ^ (r / 2 ^ 52 - 1)
theorem vr_lt {r s : Nat} (h : r < s) : vr r < vr s := by
  unfold vr
  by_cases h1 : s < 2 ^ 52
  · rw [if_pos h1, if_pos (by omega)]; exact h
  · rw [if_neg h1]
    have hq : 1 ≤ s / 2 ^ 52 := by omega
    have hp : 1 ≤ 2 ^ (s / 2 ^ 52 - 1) := Nat.one_le_two_pow
    by_cases h2 : r < 2 ^ 52
    · rw [if_pos h2]
      have := Nat.mul_le_mul (show 2 ^ 52 ≤ 2 ^ 52 + s % 2 ^ 52 by omega) hp
      omega
    · rw [if_neg h2]
      by_cases h3 : r / 2 ^ 52 = s / 2 ^ 52
      · rw [h3]
        exact Nat.mul_lt_mul_of_pos_right (by omega) hp
      · have h4 : r / 2 ^ 52 < s / 2 ^ 52 := by omega
        have h5 : 2 ^ (s / 2 ^ 52 - 1) = 2 ^ (r / 2 ^ 52 - 1) * 2 ^ (s / 2 ^ 52 - r / 2 ^ 52) := by rw [← Nat.pow_add]; congr 1; omega
        have h6 : 2 ^ 1 ≤ 2 ^ (s / 2 ^ 52 - r / 2 ^ 52) := Nat.pow_le_pow_right (by omega) (by omega)
        have h7 : 1 ≤ 2 ^ (r / 2 ^ 52 - 1) := Nat.one_le_two_pow
        rw [h5]
        have hm : r % 2 ^ 52 < 2 ^ 52 := Nat.mod_lt _ (by omega)
        have a1 : (2 ^ 52 + r % 2 ^ 52) * 2 ^ (r / 2 ^ 52 - 1) < 2 ^ 53 * 2 ^ (r / 2 ^ 52 - 1) := Nat.mul_lt_mul_of_pos_right (by omega) h7
        have a2 : 2 ^ 53 * 2 ^ (r / 2 ^ 52 - 1) ≤ (2 ^ 52 + s % 2 ^ 52) * (2 ^ (r / 2 ^ 52 - 1) * 2 ^ (s / 2 ^ 52 - r / 2 ^ 52)) := by
          have b1 : 2 ^ 52 * (2 ^ (r / 2 ^ 52 - 1) * 2 ^ 1) ≤ (2 ^ 52 + s % 2 ^ 52) * (2 ^ (r / 2 ^ 52 - 1) * 2 ^ (s / 2 ^ 52 - r / 2 ^ 52)) := Nat.mul_le_mul (by omega) (Nat.mul_le_mul_left _ h6)
          omega
        omega
theorem vr_le {r s : Nat} (h : r ≤ s) : vr r ≤ vr s := by
  rcases Nat.lt_or_eq_of_le h with h | h
  · exact Nat.le_of_lt (vr_lt h)
  · rw [h]; exact Nat.le_refl _
theorem vr_val (s : Bool) (r : Nat) : Fp.dval (.number s (Fp.rmag r) (Fp.rplace r)) = Fp.sg s * (vr r : Rat) * Fp.p2 (-1074) := by
  unfold Fp.dval Fp.rmag Fp.rplace vr
  dsimp only
  by_cases h : r < 2 ^ 52
  · rw [if_pos h, if_pos h, if_pos h]
  · rw [if_neg h, if_neg h, if_neg h, Fp.p2_add, Fp.p2_nat]
    push_cast
    grind
/-- sign and rung of a word -/
theorem read_parts (x : Nat) : Ieee.double.read x = if x % 2 ^ 63 < Fp.infR then .number (x / 2 ^ 63 % 2 == 1) (Fp.rmag (x % 2 ^ 63)) (Fp.rplace (x % 2 ^ 63)) else if x % 2 ^ 63 = Fp.infR then .infinity (x / 2 ^ 63 % 2 == 1) else .nan (x / 2 ^ 63 % 2 == 1) (x % 2 ^ 63 - Fp.infR) := by
  have hb : Ieee.double.binade = 2 ^ 52 := rfl
  have hi : Ieee.double.infRung = Fp.infR := rfl
  have hs : Ieee.double.signWeight = 2 ^ 63 := rfl
  have hl : Ieee.double.leastPlace = -1074 := by decide
  unfold Ieee.Format.read Fp.rmag Fp.rplace
  dsimp only
  rw [hb, hi, hs, hl]
  have hI : Fp.infR = 2047 * 2 ^ 52 := rfl
  by_cases h1 : x % 2 ^ 63 < 2 ^ 52
  · rw [if_pos h1, if_pos (by omega), if_pos h1, if_pos h1]
  · rw [if_neg h1]
    by_cases h2 : x % 2 ^ 63 < Fp.infR
    · rw [if_pos h2, if_pos h2, if_neg h1, if_neg h1]
    · rw [if_neg h2, if_neg h2]
theorem nan_iff (x : Nat) : NaN x ↔ Fp.infR < x % 2 ^ 63 := by
  unfold NaN
  rw [read_parts]
  constructor
  · rintro ⟨s, f, h⟩
    by_cases h1 : x % 2 ^ 63 < Fp.infR
    · rw [if_pos h1] at h; cases h
    · rw [if_neg h1] at h
      by_cases h2 : x % 2 ^ 63 = Fp.infR
      · rw [if_pos h2] at h; cases h
      · omega
  · intro h
    rw [if_neg (by omega), if_neg (by omega)]
    exact ⟨_, _, rfl⟩
/-- a number's place among the numbers; the two noughts alike -/
def kz (x : Nat) : Int := if 2 ^ 63 ≤ x then -((x % 2 ^ 63 : Nat) : Int) else (x : Int)
/-- the place of a word: noughts apart; what is no number last -/
def key (x : Nat) : Int := if Fp.infR < x % 2 ^ 63 then 2 ^ 64 else if 2 ^ 63 ≤ x then -((x % 2 ^ 63 : Nat) : Int) - 1 else (x : Int)
theorem sign_of {x : Nat} (hx : x < 2 ^ 64) : (x / 2 ^ 63 % 2 == 1) = decide (2 ^ 63 ≤ x) := by
  by_cases h : 2 ^ 63 ≤ x
  · rw [decide_eq_true h, beq_iff_eq]; omega
  · rw [decide_eq_false h, beq_eq_false_iff_ne]; omega
theorem cmp_num (s t : Bool) (r q : Nat) :
    let a := Fp.sg s * (vr r : Rat) * Fp.p2 (-1074); let b := Fp.sg t * (vr q : Rat) * Fp.p2 (-1074)
    let u : Int := if s then -(r : Int) else r; let v : Int := if t then -(q : Int) else q
    (a < b ↔ u < v) ∧ (a = b ↔ u = v) := by
  have hp := Fp.p2_pos (-1074)
  have hz : vr 0 = 0 := rfl
  have m1 : ∀ {r s : Nat}, (vr r : Rat) < (vr s : Rat) ↔ r < s := by
    intro r s
    constructor
    · intro h
      have h : vr r < vr s := by exact_mod_cast h
      rcases Nat.lt_or_ge r s with h1 | h1
      · exact h1
      · have := vr_le h1; omega
    · intro h; exact_mod_cast vr_lt h
  have m2 : ∀ {r s : Nat}, (vr r : Rat) = (vr s : Rat) ↔ r = s := by
    intro r s
    constructor
    · intro h
      have h : vr r = vr s := by exact_mod_cast h
      rcases Nat.lt_trichotomy r s with h1 | h1 | h1
      · have := vr_lt h1; omega
      · exact h1
      · have := vr_lt h1; omega
    · rintro rfl; rfl
  have z0 : ∀ r : Nat, (0 : Rat) ≤ (vr r : Rat) := fun r => by exact_mod_cast Nat.zero_le _
  have z1 : ∀ {r : Nat}, 0 < r → (0 : Rat) < (vr r : Rat) := by
    intro r hr
    have := vr_lt hr
    rw [hz] at this
    exact_mod_cast this
  have zz : ((vr 0 : Nat) : Rat) = 0 := rfl
  dsimp only
  have e1 : ∀ {x y : Rat}, x * Fp.p2 (-1074) < y * Fp.p2 (-1074) ↔ x < y := by
    intro x y
    constructor
    · intro h; exact Rat.lt_of_mul_lt_mul_right h (Rat.le_of_lt hp)
    · intro h; exact Rat.mul_lt_mul_of_pos_right h hp
  have e2 : ∀ {x y : Rat}, x * Fp.p2 (-1074) = y * Fp.p2 (-1074) ↔ x = y := by
    intro x y
    constructor
    · intro h; exact Fp.mulc (Rat.ne_of_gt hp) h
    · rintro rfl; rfl
  rw [e1, e2]
  have A := z0 r
  have B := z0 q
  have C := @m1 r q
  have D := @m1 q r
  have E := @m2 r q
  have F1 := @m2 r 0
  have F2 := @m2 q 0
  rw [zz] at F1 F2
  cases s <;> cases t <;> simp only [Fp.sg, Bool.false_eq_true, if_false, if_true] <;> constructor <;> constructor <;> intro h
  · have : (vr r : Rat) < vr q := by grind
    have := C.1 this; omega
  · have : r < q := by omega
    have := C.2 this; grind
  · have : (vr r : Rat) = vr q := by grind
    have := E.1 this; omega
  · have : r = q := by omega
    have := E.2 this; grind
  · exfalso; grind
  · exfalso; omega
  · have h1 : (vr r : Rat) = 0 := by grind
    have h2 : (vr q : Rat) = 0 := by grind
    have := F1.1 h1; have := F2.1 h2; omega
  · have h1 : r = 0 := by omega
    have h2 : q = 0 := by omega
    have := F1.2 h1; have := F2.2 h2; grind
  · have : ¬ (r = 0 ∧ q = 0) := by
      rintro ⟨h1, h2⟩
      have := F1.2 h1; have := F2.2 h2; grind
    omega
  · by_cases h1 : r = 0
    · have h2 : 0 < q := by omega
      have := F1.2 h1; have := z1 h2; grind
    · have := z1 (show 0 < r by omega); grind
  · have h1 : (vr r : Rat) = 0 := by grind
    have h2 : (vr q : Rat) = 0 := by grind
    have := F1.1 h1; have := F2.1 h2; omega
  · have h1 : r = 0 := by omega
    have h2 : q = 0 := by omega
    have := F1.2 h1; have := F2.2 h2; grind
  · have : (vr q : Rat) < vr r := by grind
    have := D.1 this; omega
  · have : q < r := by omega
    have := D.2 this; grind
  · have : (vr r : Rat) = vr q := by grind
    have := E.1 this; omega
  · have : r = q := by omega
    have := E.2 this; grind
theorem kz_abs {x : Nat} (hx : x < 2 ^ 64) : kz x = if decide (2 ^ 63 ≤ x) then -((x % 2 ^ 63 : Nat) : Int) else ((x % 2 ^ 63 : Nat) : Int) := by
  unfold kz
  by_cases h : 2 ^ 63 ≤ x
  · rw [if_pos h, decide_eq_true h]; rfl
  · rw [if_neg h, decide_eq_false h, show x % 2 ^ 63 = x by omega]; rfl
theorem ord_inf_inf (s t : Bool) : Ieee.Datum.order (.infinity s) (.infinity t) = some (compare t.toNat s.toNat) := rfl
theorem ord_inf_num (s t : Bool) (n : Nat) (j : Int) : Ieee.Datum.order (.infinity s) (.number t n j) = some (if s then .lt else .gt) := rfl
theorem ord_num_inf (s t : Bool) (n : Nat) (j : Int) : Ieee.Datum.order (.number s n j) (.infinity t) = some (if t then .gt else .lt) := rfl
theorem ord_key {x y : Nat} (hx : x < 2 ^ 64) (hy : y < 2 ^ 64) (nx : ¬ NaN x) (ny : ¬ NaN y) :
    (ord x y = some .lt ↔ kz x < kz y) ∧ (ord x y = some .eq ↔ kz x = kz y) ∧ (ord x y = some .gt ↔ kz y < kz x) := by
  rw [nan_iff] at nx ny
  have rx := read_parts x
  have ry := read_parts y
  rw [sign_of hx] at rx
  rw [sign_of hy] at ry
  rw [kz_abs hx, kz_abs hy]
  have hI : 0 < Fp.infR := by decide
  by_cases h1 : x % 2 ^ 63 < Fp.infR
  · rw [if_pos h1] at rx
    by_cases h2 : y % 2 ^ 63 < Fp.infR
    · rw [if_pos h2] at ry
      have fx : Fp.fin x := ⟨_, _, _, rx⟩
      have fy : Fp.fin y := ⟨_, _, _, ry⟩
      have vx : Fp.val x = Fp.sg (decide (2 ^ 63 ≤ x)) * (vr (x % 2 ^ 63) : Rat) * Fp.p2 (-1074) := by unfold Fp.val; rw [rx]; exact vr_val _ _
      have vy : Fp.val y = Fp.sg (decide (2 ^ 63 ≤ y)) * (vr (y % 2 ^ 63) : Rat) * Fp.p2 (-1074) := by unfold Fp.val; rw [ry]; exact vr_val _ _
      have o := Fp.order_val fx fy
      have c := cmp_num (decide (2 ^ 63 ≤ x)) (decide (2 ^ 63 ≤ y)) (x % 2 ^ 63) (y % 2 ^ 63)
      have c' := cmp_num (decide (2 ^ 63 ≤ y)) (decide (2 ^ 63 ≤ x)) (y % 2 ^ 63) (x % 2 ^ 63)
      dsimp only at c c'
      rw [← vx, ← vy] at c c'
      exact ⟨o.1.trans c.1, o.2.1.trans c.2, o.2.2.trans c'.1⟩
    · rw [if_neg h2, if_pos (by omega)] at ry
      have he : y % 2 ^ 63 = Fp.infR := by omega
      unfold ord Ieee.Format.order
      rw [rx, ry, ord_num_inf, he]
      generalize decide (2 ^ 63 ≤ x) = s
      generalize decide (2 ^ 63 ≤ y) = t
      generalize x % 2 ^ 63 = r at *
      generalize Fp.infR = I at *
      cases s <;> cases t <;> simp <;> omega
  · rw [if_neg h1, if_pos (by omega)] at rx
    have hex : x % 2 ^ 63 = Fp.infR := by omega
    by_cases h2 : y % 2 ^ 63 < Fp.infR
    · rw [if_pos h2] at ry
      unfold ord Ieee.Format.order
      rw [rx, ry, ord_inf_num, hex]
      generalize decide (2 ^ 63 ≤ x) = s
      generalize decide (2 ^ 63 ≤ y) = t
      generalize y % 2 ^ 63 = r at *
      generalize Fp.infR = I at *
      cases s <;> cases t <;> simp <;> omega
    · rw [if_neg h2, if_pos (by omega)] at ry
      have he : y % 2 ^ 63 = Fp.infR := by omega
      unfold ord Ieee.Format.order
      rw [rx, ry, ord_inf_inf, he, hex]
      generalize decide (2 ^ 63 ≤ x) = s
      generalize decide (2 ^ 63 ≤ y) = t
      generalize Fp.infR = I at *
      cases s <;> cases t <;> simp [compare, compareOfLessAndEq] <;> omega
/-- the same place: the same word, or both no number -/
theorem key_eq {x y : Nat} (hx : x < 2 ^ 64) (hy : y < 2 ^ 64) (h : key x = key y) : FEq x y := by
  unfold key at h
  have hI : Fp.infR = 2047 * 2 ^ 52 := rfl
  by_cases h1 : Fp.infR < x % 2 ^ 63
  · rw [if_pos h1] at h
    by_cases h2 : Fp.infR < y % 2 ^ 63
    · exact .inr ⟨(nan_iff x).2 h1, (nan_iff y).2 h2⟩
    · rw [if_neg h2] at h
      split at h <;> omega
  · rw [if_neg h1] at h
    by_cases h2 : Fp.infR < y % 2 ^ 63
    · rw [if_pos h2] at h
      split at h <;> omega
    · rw [if_neg h2] at h
      left
      split at h <;> split at h <;> omega
theorem key_kz {x : Nat} (n : ¬ NaN x) : key x = kz x - (if 2 ^ 63 ≤ x then 1 else 0) := by
  rw [nan_iff] at n
  unfold key kz
  rw [if_neg n]
  by_cases h : 2 ^ 63 ≤ x
  · rw [if_pos h, if_pos h, if_pos h]
  · rw [if_neg h, if_neg h, if_neg h]; omega
theorem key_nan {x : Nat} (n : NaN x) : key x = 2 ^ 64 := by
  rw [nan_iff] at n
  unfold key
  rw [if_pos n]
theorem key_lt_nan {x : Nat} (hx : x < 2 ^ 64) (n : ¬ NaN x) : key x < 2 ^ 64 := by
  rw [nan_iff] at n
  unfold key
  rw [if_neg n]
  split <;> omega
/-- how the comparison answers -/
def cfK (x y : Nat) : Int := if key x < key y then -1 else if key y < key x then 1 else 0
end Go.Proofs.Ytfaciljklligeaa.Ct
