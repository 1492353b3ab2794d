/- The walk of the law ColourByte. -/
import Derived.Test.YtnlpohhebkcjkaaBack
namespace Go.Proofs.Ytnlpohhebkcjkaa.K
open Go.ChangeShapes Go.WideShapes Go.RowKit I F

abbrev ord (x y : Nat) : Option Ordering := FloatKind.f64.format.order x y
def W05 : Nat := 4602678819172646912
def Wm5 : Nat := 13826050856027422720
theorem val_05 : Fp.fin W05 ∧ Fp.val W05 = 1 / 2 := ⟨⟨false, 2 ^ 52, -53, by decide +kernel⟩, by decide +kernel⟩
theorem val_m5 : Fp.fin Wm5 ∧ Fp.val Wm5 = -1 / 2 := ⟨⟨true, 2 ^ 52, -53, by decide +kernel⟩, by decide +kernel⟩

/-- a number that is no NaN is an infinity or finite -/
theorem kinds (x : Nat) : (NaN x) ∨ (∃ s, Ieee.double.read x = .infinity s) ∨ Fp.fin x := by
  cases h : Ieee.double.read x with
  | nan s f => exact .inl ⟨s, f, h⟩
  | infinity s => exact .inr (.inl ⟨s, rfl⟩)
  | number s m e => exact .inr (.inr ⟨s, m, e, h⟩)

theorem ord_0 {x n : Nat} (hn : Fp.ByteR x n) (h : ord x 0 = some .lt ∨ ord x 0 = some .eq) : n = 0 := by
  rcases kinds x with ⟨s, f, hx⟩ | ⟨s, hx⟩ | hx
  · unfold Fp.ByteR at hn; rw [hx] at hn; exact hn
  · unfold Fp.ByteR at hn; rw [hx] at hn
    have h2 : ord x 0 = some (if s then .lt else .gt) := by show Ieee.double.order x 0 = _; unfold Ieee.Format.order; rw [hx, Fp.read_0]; rfl
    cases s
    · rw [h2] at h; simp at h
    · exact hn
  · obtain ⟨s, m, e, hr⟩ := hx
    unfold Fp.ByteR at hn; rw [hr] at hn
    have o := Fp.order_val ⟨s, m, e, hr⟩ Fp.val_0.1
    rw [Fp.val_0.2] at o
    have hv : Fp.val x ≤ 0 := by
      rcases h with h | h
      · exact Rat.le_of_lt (o.1.1 h)
      · have := o.2.1.1 h; rw [this]; exact Rat.le_refl
    rcases Fp.ByteIs.low hn with h | h
    · exact h
    · have : (n : Rat) ≤ 1 / 2 := by grind
      have h2 : 2 * (n : Rat) ≤ 1 := by grind
      have h3 : 2 * n ≤ 1 := by exact_mod_cast h2
      omega
theorem ord_255 {x n : Nat} (hn : Fp.ByteR x n) (h : ord x 4643176031446892544 = some .gt ∨ ord x 4643176031446892544 = some .eq) : n = 255 := by
  rcases kinds x with ⟨s, f, hx⟩ | ⟨s, hx⟩ | hx
  · have h2 := (Fp.order_self_nan hx 4643176031446892544).1
    have h3 : ord x 4643176031446892544 = none := h2
    rw [h3] at h; simp at h
  · unfold Fp.ByteR at hn; rw [hx] at hn
    have h2 : ord x 4643176031446892544 = some (if s then .lt else .gt) := by show Ieee.double.order x Fp.W255 = _; unfold Ieee.Format.order; rw [hx, Fp.read_255]; rfl
    cases s
    · exact hn
    · rw [h2] at h; simp at h
  · obtain ⟨s, m, e, hr⟩ := hx
    unfold Fp.ByteR at hn; rw [hr] at hn
    have o := Fp.order_val ⟨s, m, e, hr⟩ Fp.val_255.1
    rw [Fp.val_255.2] at o
    have hv : 255 ≤ Fp.val x := by
      rcases h with h | h
      · exact Rat.le_of_lt (o.2.2.1 h)
      · have := o.2.1.1 h; rw [this]; exact Rat.le_refl
    rcases Fp.ByteIs.high hn with h | h
    · exact h
    · have h4 := Fp.ByteIs.le hn
      have h2 : (509 : Rat) < 2 * (n : Rat) := by grind
      have h2' : ((509 : Nat) : Rat) < ((2 * n : Nat) : Rat) := by rw [Rat.natCast_mul]; exact h2
      have h3 : 509 < 2 * n := Rat.natCast_lt_natCast.1 h2'
      omega
theorem ord_lt {x y n m : Nat} (hn : Fp.ByteR x n) (hm : Fp.ByteR y m) (h : ord x y = some .lt) : n ≤ m := by
  have hne : ord x y ≠ none := by rw [h]; simp
  rcases kinds x with ⟨s, f, hx⟩ | ⟨s, hx⟩ | hx
  · exact absurd (Fp.order_self_nan hx y).1 hne
  · rcases kinds y with ⟨s', f, hy⟩ | ⟨s', hy⟩ | ⟨s', m', e', hy⟩
    · exact absurd (Fp.order_self_nan hy x).2 hne
    · unfold Fp.ByteR at hn hm; rw [hx] at hn; rw [hy] at hm
      have h2 : ord x y = some (compare s'.toNat s.toNat) := by show Ieee.double.order x y = _; unfold Ieee.Format.order; rw [hx, hy]; rfl
      rw [h2] at h
      cases s <;> cases s' <;> first | (exact absurd h (by decide)) | (have : n = 0 := hn; omega)
    · unfold Fp.ByteR at hn; rw [hx] at hn
      have h2 : ord x y = some (if s then .lt else .gt) := by show Ieee.double.order x y = _; unfold Ieee.Format.order; rw [hx, hy]; rfl
      cases s
      · rw [h2] at h; simp at h
      · have : n = 0 := hn
        omega
  · obtain ⟨s, mm, e, hr⟩ := hx
    unfold Fp.ByteR at hn; rw [hr] at hn
    rcases kinds y with ⟨s', f, hy⟩ | ⟨s', hy⟩ | hy
    · exact absurd (Fp.order_self_nan hy x).2 hne
    · unfold Fp.ByteR at hm; rw [hy] at hm
      have h2 : ord x y = some (if s' then .gt else .lt) := by show Ieee.double.order x y = _; unfold Ieee.Format.order; rw [hr, hy]; rfl
      have := Fp.ByteIs.le hn
      cases s'
      · have : m = 255 := hm
        omega
      · rw [h2] at h; simp at h
    · obtain ⟨s', m', e', hy⟩ := hy
      unfold Fp.ByteR at hm; rw [hy] at hm
      have o := (Fp.order_val ⟨s, mm, e, hr⟩ ⟨s', m', e', hy⟩).1.1 h
      have k := Fp.ByteIs.le hn
      apply Classical.byContradiction
      intro hlt
      rcases Fp.ByteIs.low hn with h1 | h1
      · omega
      rcases Fp.ByteIs.high hm with h2 | h2
      · omega
      have h3 : m + 1 ≤ n := by omega
      have h4 : (m : Rat) + 1 ≤ (n : Rat) := by exact_mod_cast h3
      grind

/-- how far the byte is: exactly -/
theorem byte_off {x n : Nat} (hn : Fp.ByteR x n) (hx : Fp.fin x) (h0 : 0 ≤ Fp.val x) (h1 : Fp.val x ≤ 255) :
    ∃ r, floatBits .sub .f64 (floatOfInt .f64 (n : Int)) x = some r ∧ (ord r W05 == some .gt) = false ∧ ord r Wm5 = some .gt := by
  obtain ⟨s, m, e, hr⟩ := hx
  unfold Fp.ByteR at hn; rw [hr] at hn
  have hf : Fp.fin x := ⟨s, m, e, hr⟩
  have k := Fp.ByteIs.le hn
  obtain ⟨fn, vn⟩ := Fp.val_int (n : Int) (by omega)
  have cast : (((n : Nat) : Int) : Rat) = (n : Rat) := by norm_cast
  rw [cast] at vn
  have b1 : Fp.val (floatOfInt .f64 (n : Int)) - Fp.val x ≤ 1 / 2 := by
    rw [vn]
    rcases Fp.ByteIs.low hn with h | h
    · subst h; have : ((0 : Nat) : Rat) = 0 := rfl
      rw [this]; grind
    · grind
  have b2 : -1 / 2 < Fp.val (floatOfInt .f64 (n : Int)) - Fp.val x := by
    rw [vn]
    rcases Fp.ByteIs.high hn with h | h
    · subst h; have : ((255 : Nat) : Rat) = 255 := rfl
      rw [this]; grind
    · grind
  have big : (1 : Rat) < Fp.p2 1023 := by
    have := Fp.p2_lt (show (0 : Int) < 1023 by omega)
    rw [Fp.p2_zero] at this; exact this
  obtain ⟨r, h3, h4, h5⟩ := Fp.sub_rd fn hf (by grind) (by grind)
  refine ⟨r, h3, ?_⟩
  -- exact
  have hex : Fp.val r = Fp.val (floatOfInt .f64 (n : Int)) - Fp.val x := by
    obtain ⟨hm, he⟩ := Fp.read_mag hr
    have hv : Fp.val x = Fp.sg s * (m : Rat) * Fp.p2 e := by unfold Fp.val; rw [hr]; rfl
    by_cases hn0 : n = 0
    · refine h5.exact (if s then (m : Int) else -(m : Int)) e (by split <;> omega) he ?_
      rw [vn, hn0, hv]
      have : ((0 : Nat) : Rat) = 0 := rfl
      rw [this]
      unfold Fp.sg
      cases s <;> simp <;> push_cast <;> grind
    · have hge : 1 ≤ 2 * Fp.val x := by
        rcases Fp.ByteIs.low hn with h | h
        · exact absurd h hn0
        · have : (1 : Rat) ≤ (n : Rat) := by exact_mod_cast (show 1 ≤ n by omega)
          grind
      have hpp := Fp.p2_pos e
      have hmp := Fp.mag_nonneg m e
      have hs : s = false := by
        cases s
        · rfl
        · exfalso
          rw [hv] at hge
          unfold Fp.sg at hge
          simp at hge
          grind
      subst hs
      have hv' : Fp.val x = (m : Rat) * Fp.p2 e := by rw [hv]; unfold Fp.sg; simp
      have he2 : -54 ≤ e := by
        apply Classical.byContradiction
        intro hlt
        have a1 : (m : Rat) ≤ ((2 ^ 53 : Nat) : Rat) := Rat.natCast_le_natCast.2 hm
        have a2 := Rat.mul_le_mul_of_nonneg_right a1 (Rat.le_of_lt hpp)
        have a3 := Rat.mul_le_mul_of_nonneg_left (Fp.p2_le (show e ≤ -55 by omega)) (show (0 : Rat) ≤ ((2 ^ 53 : Nat) : Rat) by exact_mod_cast Nat.zero_le _)
        have a4 : ((2 ^ 53 : Nat) : Rat) * Fp.p2 (-55) = 1 / 4 := by decide +kernel
        rw [a4] at a3
        rw [hv'] at hge
        generalize (m : Rat) * Fp.p2 e = v at *
        generalize ((2 ^ 53 : Nat) : Rat) * Fp.p2 e = u at *
        grind
      by_cases hpos : 0 ≤ e
      · -- then x is whole
        refine h5.exact ((n : Int) - (m * 2 ^ e.toNat : Nat)) 0 ?_ (by omega) ?_
        · have q : Fp.val x = ((m * 2 ^ e.toNat : Nat) : Rat) := by
            rw [hv', Rat.natCast_mul, ← Fp.p2_nat, Int.toNat_of_nonneg hpos]
          have q2 : (m * 2 ^ e.toNat : Nat) ≤ 255 := by
            rw [q] at h1
            have : ((m * 2 ^ e.toNat : Nat) : Rat) ≤ ((255 : Nat) : Rat) := h1
            exact Rat.natCast_le_natCast.1 this
          generalize m * 2 ^ e.toNat = z at *
          omega
        · have q : Fp.val x = ((m * 2 ^ e.toNat : Nat) : Rat) := by
            rw [hv', Rat.natCast_mul, ← Fp.p2_nat, Int.toNat_of_nonneg hpos]
          rw [vn, q, Fp.p2_zero]
          generalize m * 2 ^ e.toNat = z at *
          push_cast
          grind
      · have hp1 : Fp.p2 e * ((2 ^ (-e).toNat : Nat) : Rat) = 1 := by
          rw [← Fp.p2_nat, ← Fp.p2_add, show e + ((-e).toNat : Int) = 0 by omega, Fp.p2_zero]
        have hxn : (n : Rat) - (m : Rat) * Fp.p2 e = (((n * 2 ^ (-e).toNat : Nat) : Int) - (m : Int) : Int) * Fp.p2 e := by
          push_cast
          push_cast at hp1
          grind
        refine h5.exact (((n * 2 ^ (-e).toNat : Nat) : Int) - (m : Int)) e ?_ he (by rw [vn, hv', hxn])
        rw [vn, hv', hxn] at b1 b2
        have hup : Fp.p2 e * ((2 ^ 53 : Nat) : Rat) ≥ 1 / 2 := by
          have := Rat.mul_le_mul_of_nonneg_right (Fp.p2_le he2) (show (0 : Rat) ≤ ((2 ^ 53 : Nat) : Rat) by exact_mod_cast Nat.zero_le _)
          have a4 : Fp.p2 (-54) * ((2 ^ 53 : Nat) : Rat) = 1 / 2 := by decide +kernel
          rw [a4] at this; exact this
        generalize ((n * 2 ^ (-e).toNat : Nat) : Int) - (m : Int) = z at *
        have c1 : (z : Rat) * Fp.p2 e ≤ (((2 ^ 53 : Nat) : Int) : Rat) * Fp.p2 e := by
          have : ((((2 ^ 53 : Nat) : Int)) : Rat) = ((2 ^ 53 : Nat) : Rat) := rfl
          rw [this, Rat.mul_comm _ (Fp.p2 e)]; grind
        have c2 : ((-((2 ^ 53 : Nat) : Int) : Int) : Rat) * Fp.p2 e ≤ (z : Rat) * Fp.p2 e := by
          have : ((-((2 ^ 53 : Nat) : Int) : Int) : Rat) = -((2 ^ 53 : Nat) : Rat) := Rat.intCast_neg _
          rw [this, Rat.neg_mul, Rat.mul_comm _ (Fp.p2 e)]; grind
        have d1 := Rat.intCast_le_intCast.1 (Rat.le_of_mul_le_mul_right c1 hpp)
        have d2 := Rat.intCast_le_intCast.1 (Rat.le_of_mul_le_mul_right c2 hpp)
        omega
  have o1 := Fp.order_val h4 val_05.1
  have o2 := Fp.order_val h4 val_m5.1
  rw [val_05.2, hex] at o1
  rw [val_m5.2, hex] at o2
  constructor
  · rw [beq_eq_false_iff_ne]; intro hh
    have := o1.2.2.1 hh
    grind
  · exact o2.2.2.2 b2
end Go.Proofs.Ytnlpohhebkcjkaa.K
