/- Doubles: writing depends on the value alone; sums and products either way round; twice a product. -/
import Derived.Test.YtfaciljklligeaaFp
namespace Go.Proofs.Ytfaciljklligeaa.Fp
open Ieee Go
theorem log2_two (n : Nat) (h : n ≠ 0) : (2 * n).log2 = n.log2 + 1 := by
  have := Nat.log2_two_mul h
  omega
theorem cut_two (s : Bool) (n d : Nat) (h : n ≠ 0) : Toward.even.cut s (2 * n) (d + 1) = Toward.even.cut s n d := by
  unfold Toward.cut
  rw [log2_two n h]
  have hm : min (d + 1) (n.log2 + 1 + 2) = min d (n.log2 + 2) + 1 := by omega
  simp only [Nat.shiftLeft_eq, Nat.one_mul, hm, Nat.pow_succ]
  generalize 2 ^ (min d (n.log2 + 2)) = g
  rw [Nat.mul_comm g 2, Nat.mul_div_mul_left _ _ (by omega), Nat.mul_mod_mul_left]
  generalize n % g = r
  have e1 : decide (2 * g < 2 * (2 * r)) = decide (g < 2 * r) := by
    rw [decide_eq_decide]; omega
  have e2 : (2 * g == 2 * (2 * r)) = (g == 2 * r) := by
    rw [Bool.eq_iff_iff, beq_iff_eq, beq_iff_eq]; omega
  simp only [e1, e2]
theorem nearest_two (s : Bool) (m : Nat) (p : Int) : double.nearest s (2 * m) (p - 1) = double.nearest s m p := by
  by_cases hm : m = 0
  · subst hm
    unfold Format.nearest
    rw [if_pos rfl, if_pos rfl]
  unfold Format.nearest
  rw [if_neg hm, if_neg (by omega), log2_two m hm]
  dsimp only
  rw [show (p - 1 + ((m.log2 + 1 : Nat) : Int) - (double.fractionBits : Int)) = p + (m.log2 : Int) - (double.fractionBits : Int) by omega]
  generalize max (p + (m.log2 : Int) - (double.fractionBits : Int)) double.leastPlace = last
  have hk : Toward.even.cut s ((2 * m) <<< (p - 1 - last).toNat) (last - (p - 1)).toNat = Toward.even.cut s (m <<< (p - last).toNat) (last - p).toNat := by
    rcases Int.lt_or_le last p with h | h
    · obtain ⟨k, hk⟩ : ∃ k : Nat, (p - last).toNat = k + 1 := ⟨(p - last).toNat - 1, by omega⟩
      rw [hk, show (p - 1 - last).toNat = k by omega, show (last - (p - 1)).toNat = 0 by omega, show (last - p).toNat = 0 by omega]
      congr 1
    · rw [show (p - 1 - last).toNat = 0 by omega, show (p - last).toNat = 0 by omega, show (last - (p - 1)).toNat = (last - p).toNat + 1 by omega]
      exact cut_two s m _ hm
  rw [hk]
theorem nearest_pow (s : Bool) (m : Nat) (p : Int) (k : Nat) : double.nearest s (m * 2 ^ k) (p - k) = double.nearest s m p := by
  induction k generalizing m with
  | zero => simp
  | succ k ih =>
    rw [show m * 2 ^ (k + 1) = 2 * (m * 2 ^ k) by rw [Nat.pow_succ]; grind, show p - ((k + 1 : Nat) : Int) = p - k - 1 by omega, nearest_two, ih]
/-- writing depends on the sign and the value alone -/
theorem nearest_congr (s : Bool) {m m' : Nat} {p p' : Int} (h : (m : Rat) * p2 p = (m' : Rat) * p2 p') : double.nearest s m p = double.nearest s m' p' := by
  have key : ∀ (m m' : Nat) (p p' : Int), p ≤ p' → (m : Rat) * p2 p = (m' : Rat) * p2 p' → double.nearest s m p = double.nearest s m' p' := by
    intro m m' p p' hp h
    obtain ⟨k, hk⟩ : ∃ k : Nat, p' = p + k := ⟨(p' - p).toNat, by omega⟩
    subst hk
    have e : m = m' * 2 ^ k := by
      rw [Int.add_comm, p2_add, p2_nat, ← Rat.mul_assoc] at h
      have h2 := mulc (Rat.ne_of_gt (p2_pos p)) h
      exact_mod_cast h2
    rw [e, ← nearest_pow s m' (p + k) k, show p + (k : Int) - k = p by omega]
  rcases Int.le_total p p' with hp | hp
  · exact key _ _ _ _ hp h
  · exact (key _ _ _ _ hp h.symm).symm
theorem write_congr (s : Bool) {m m' : Nat} {p p' : Int} (h : (m : Rat) * p2 p = (m' : Rat) * p2 p') : double.write (.number s m p) = double.write (.number s m' p') := nearest_congr s h
theorem add_comm' (a b : Nat) : double.add a b = double.add b a := by
  unfold Format.add
  congr 1
  generalize double.read a = d
  generalize double.read b = e
  rcases d with ⟨s, m, i⟩ | s | ⟨s, f⟩ <;> rcases e with ⟨t, n, j⟩ | t | ⟨t, g⟩ <;> simp only [Datum.sum]
  · rw [Int.min_comm i j, Bool.and_comm s t, Int.add_comm (signed s m _)]
  · by_cases h : s = t
    · subst h; rfl
    · rw [if_neg h, if_neg (fun k => h k.symm)]
theorem mul_comm' (a b : Nat) : double.mul a b = double.mul b a := by
  unfold Format.mul
  congr 1
  generalize double.read a = d
  generalize double.read b = e
  rcases d with ⟨s, m, i⟩ | s | ⟨s, f⟩ <;> rcases e with ⟨t, n, j⟩ | t | ⟨t, g⟩ <;> simp only [Datum.product]
  · rw [Bool.xor_comm s t, Nat.mul_comm m n, Int.add_comm i j]
  · rw [Bool.xor_comm s t]
/-- one place more: twice the number -/
theorem nearest_scale (s : Bool) (m : Nat) (p : Int) (hm : m ≠ 0) (h : -1021 ≤ p + m.log2) (hf : fin (double.nearest s m (p + 1))) :
    ∃ M P, double.read (double.nearest s m p) = .number s M P ∧ double.read (double.nearest s m (p + 1)) = .number s M (P + 1) := by
  obtain ⟨k, hk⟩ : ∃ k, k = Toward.even.cut s (m <<< (p - (p + m.log2 - 52)).toNat) (p + m.log2 - 52 - p).toNat := ⟨_, rfl⟩
  have e1 : double.nearest s m p = double.word s (min ((p + m.log2 - 52 + 1074).toNat * 2 ^ 52 + k) infR) := by
    unfold Format.nearest
    rw [if_neg hm]
    dsimp only
    rw [least_eq, binade_eq, infRung_eq, show ((double.fractionBits : Nat) : Int) = 52 from rfl, show max (p + (m.log2 : Int) - 52) (-1074) = p + m.log2 - 52 by omega, ← hk, show p + (m.log2 : Int) - 52 - -1074 = p + m.log2 - 52 + 1074 by omega]
  have e2 : double.nearest s m (p + 1) = double.word s (min ((p + m.log2 - 52 + 1074).toNat * 2 ^ 52 + k + 2 ^ 52) infR) := by
    unfold Format.nearest
    rw [if_neg hm]
    dsimp only
    rw [least_eq, binade_eq, infRung_eq, show ((double.fractionBits : Nat) : Int) = 52 from rfl, show max (p + 1 + (m.log2 : Int) - 52) (-1074) = p + m.log2 - 52 + 1 by omega, show (p + 1 - (p + (m.log2 : Int) - 52 + 1)) = p - (p + m.log2 - 52) by omega,
      show p + (m.log2 : Int) - 52 + 1 - (p + 1) = p + m.log2 - 52 - p by omega, ← hk]
    rw [show (p + (m.log2 : Int) - 52 + 1 - -1074).toNat = (p + m.log2 - 52 + 1074).toNat + 1 by omega, Nat.add_mul, Nat.one_mul, Nat.add_right_comm]
  have hR1 : 2 ^ 52 ≤ (p + (m.log2 : Int) - 52 + 1074).toNat * 2 ^ 52 + k := by omega
  obtain ⟨R, hR⟩ : ∃ R, R = (p + (m.log2 : Int) - 52 + 1074).toNat * 2 ^ 52 + k := ⟨_, rfl⟩
  rw [← hR] at e1 e2 hR1
  have hlt : R + 2 ^ 52 < infR := by
    rcases Nat.lt_or_ge (R + 2 ^ 52) infR with h1 | h1
    · exact h1
    · exfalso
      rw [e2, Nat.min_eq_right h1] at hf
      obtain ⟨s', m', e', hr⟩ := hf
      revert hr
      cases s
      · rw [show double.read (double.word false infR) = .infinity false by decide +kernel]; intro h; cases h
      · rw [show double.read (double.word true infR) = .infinity true by decide +kernel]; intro h; cases h
  rw [e1, e2, Nat.min_eq_left (by omega), Nat.min_eq_left (by omega), read_word _ _ (by omega), read_word _ _ hlt]
  refine ⟨rmag R, rplace R, rfl, ?_⟩
  unfold rmag rplace
  rw [if_neg (by omega), if_neg (by omega), if_neg (by omega), if_neg (by omega), show (R + 2 ^ 52) % 2 ^ 52 = R % 2 ^ 52 by omega, show (R + 2 ^ 52) / 2 ^ 52 - 1 = (R / 2 ^ 52 - 1) + 1 by omega]
  congr 1
  omega
end Go.Proofs.Ytfaciljklligeaa.Fp
