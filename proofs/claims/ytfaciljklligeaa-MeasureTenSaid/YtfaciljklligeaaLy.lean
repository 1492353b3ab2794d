/- How much a tile is alike: either way round the same; itself by 1. -/
import Derived.Test.YtfaciljklligeaaLl
import Derived.Test.YtfaciljklligeaaFy
namespace Go.Proofs.Ytfaciljklligeaa.Ct
open Go.ChangeShapes Go.WideShapes Go.RowKit Mm
open Ieee (double Datum)
theorem F.uniq {op : BinOp} {x y r r' : Nat} (h : F op x y r) (k : F op x y r') : r = r' := by
  unfold F at h k; rw [h] at k; injection k
theorem F.add_swap {x y r : Nat} (h : F .add x y r) : F .add y x r := by
  have e : double.add x y = some r := h
  show double.add y x = some r
  rw [Fp.add_comm', e]
theorem F.mul_swap {x y r : Nat} (h : F .mul x y r) : F .mul y x r := by
  have e : double.mul x y = some r := h
  show double.mul y x = some r
  rw [Fp.mul_comm', e]
/-- a word without a sign -/
def Plus (x : Nat) : Prop := ∃ m e, double.read x = .number false m e
theorem plus_fin {x : Nat} (h : Plus x) : Fp.fin x := ⟨_, _, _, h.choose_spec.choose_spec⟩
theorem plus_foi (n : Nat) (h : n ≤ 2 ^ 53) : Plus (foi n) := by
  have hb : (n : Rat) * Fp.p2 0 < Fp.p2 1023 := by
    rw [Fp.p2_zero, Rat.mul_one]
    have h1 : (n : Rat) ≤ ((2 ^ 53 : Nat) : Rat) := by exact_mod_cast h
    have h2 : ((2 ^ 53 : Nat) : Rat) = Fp.p2 53 := (Fp.p2_nat 53).symm
    have h3 : Fp.p2 53 < Fp.p2 1023 := Fp.p2_lt (by omega)
    grind
  have e : floatOfInt .f64 (n : Int) = double.write (.number (decide ((n : Int) < 0)) n 0) := rfl
  have hn : decide ((n : Int) < 0) = false := by simp
  unfold foi Plus
  rw [e, hn]
  obtain ⟨m', e', hr, _⟩ := Fp.write_rd false n 0 hb
  exact ⟨_, _, hr⟩
/-- what is written without a sign is read so, or is infinite -/
theorem plus_write (m : Nat) (e : Int) (h : Fp.fin (double.write (.number false m e))) : Plus (double.write (.number false m e)) := by
  have hw : ∃ r, double.write (.number false m e) = double.word false r ∧ r ≤ Fp.infR := by
    show ∃ r, double.nearest false m e = double.word false r ∧ r ≤ Fp.infR
    unfold Ieee.Format.nearest
    by_cases hm : m = 0
    · rw [if_pos hm]; exact ⟨0, rfl, Nat.zero_le _⟩
    · rw [if_neg hm]; exact ⟨_, rfl, Nat.min_le_right _ _⟩
  obtain ⟨r, hr, hle⟩ := hw
  rw [hr] at h ⊢
  rcases Nat.lt_or_ge r Fp.infR with hlt | hge
  · exact ⟨_, _, Fp.read_word false r hlt⟩
  · obtain rfl : r = Fp.infR := Nat.le_antisymm hle hge
    obtain ⟨s, m, e, hh⟩ := h
    rw [show double.read (double.word false Fp.infR) = .infinity false by decide +kernel] at hh
    cases hh
theorem plus_quo {x y r : Nat} (hx : Plus x) (hy : Plus y) (h : F .quo x y r) (hf : Fp.fin r) : Plus r := by
  obtain ⟨m, i, hx⟩ := hx
  obtain ⟨n, j, hy⟩ := hy
  have e : double.div x y = some r := h
  unfold Ieee.Format.div at e
  rw [hx, hy] at e
  simp only [Datum.quotient] at e
  by_cases hn : n = 0
  · rw [if_pos hn] at e
    by_cases hm : m = 0
    · rw [if_pos hm] at e; cases e
    · rw [if_neg hm] at e
      injection e with e
      subst e
      obtain ⟨s, m, e, hh⟩ := hf
      rw [show double.read (double.write (.infinity (false ^^ false))) = .infinity false by decide +kernel] at hh
      cases hh
  · rw [if_neg hn] at e
    injection e with e
    subst e
    exact plus_write _ _ hf
theorem mul_written {x y r : Nat} {s t : Bool} {m n : Nat} {i j : Int} (hx : double.read x = .number s m i) (hy : double.read y = .number t n j) (h : F .mul x y r) : r = double.write (.number (s ^^ t) (m * n) (i + j)) := by
  have e : double.mul x y = some r := h
  unfold Ieee.Format.mul at e
  rw [hx, hy] at e
  injection e with e
  exact e.symm
theorem read_W2 : double.read W2 = .number false (2 ^ 52) (-51) := by decide +kernel
theorem two_val (m : Nat) (e : Int) : ((2 ^ 52 * m : Nat) : Rat) * Fp.p2 (-51 + e) = ((2 * m : Nat) : Rat) * Fp.p2 e := by
  push_cast
  rw [Fp.p2_add]
  have : (2 ^ 52 : Rat) * Fp.p2 (-51) = 2 := by decide +kernel
  calc (2 ^ 52 : Rat) * (m : Rat) * (Fp.p2 (-51) * Fp.p2 e) = ((2 ^ 52 : Rat) * Fp.p2 (-51)) * (m : Rat) * Fp.p2 e := by grind
    _ = 2 * (m : Rat) * Fp.p2 e := by rw [this]
/-- twice a word -/
theorem twice_written {u w2 : Nat} {s : Bool} {m : Nat} {e : Int} (h : double.read u = .number s m e) (hw : F .mul W2 u w2) : w2 = double.write (.number s (2 * m) e) := by
  rw [mul_written read_W2 h hw]
  rw [show (false ^^ s) = s by cases s <;> rfl]
  exact Fp.write_congr s (two_val m e)
theorem add_self_written {u e0 : Nat} {s : Bool} {m : Nat} {e : Int} (h : double.read u = .number s m e) (ha : F .add u u e0) : e0 = double.write (.number s (2 * m) e) := by
  have k : double.add u u = some e0 := ha
  unfold Ieee.Format.add at k
  rw [h] at k
  simp only [Datum.sum, Option.map_some] at k
  injection k with k
  rw [← k]
  have hz : (e - min e e).toNat = 0 := by omega
  rw [hz]
  have hs : Ieee.signed s m 0 = if s then -(m : Int) else (m : Int) := by unfold Ieee.signed; simp
  rw [hs, show min e e = e by omega]
  congr 1
  cases s
  · simp only [Bool.false_eq_true, if_false]
    have h1 : (if (m : Int) + m = 0 then false && false else decide ((m : Int) + m < 0)) = false := by
      by_cases hm : (m : Int) + m = 0
      · rw [if_pos hm]; rfl
      · rw [if_neg hm]; exact decide_eq_false (by omega)
    rw [h1, show ((m : Int) + m).natAbs = 2 * m by omega]
  · simp only [if_true]
    have h1 : (if -(m : Int) + -m = 0 then true && true else decide (-(m : Int) + -m < 0)) = true := by
      by_cases hm : -(m : Int) + -m = 0
      · rw [if_pos hm]; rfl
      · rw [if_neg hm]; exact decide_eq_true (by omega)
    rw [h1, show (-(m : Int) + -m).natAbs = 2 * m by omega]
theorem twice_add {u w2 e0 : Nat} (hf : Fp.fin u) (hw : F .mul W2 u w2) (ha : F .add u u e0) : w2 = e0 := by
  obtain ⟨s, m, e, h⟩ := hf
  rw [twice_written h hw, add_self_written h ha]
/-- twice a word, read -/
theorem twice_read {p p2 : Nat} {m : Nat} {e : Int} (h : double.read p = .number false m e) (hp : F .mul W2 p p2) (hb : Fp.val p < Fp.p2 1022) :
    ∃ m' e', double.read p2 = .number false m' e' ∧ (m' : Rat) * Fp.p2 e' = ((2 * m : Nat) : Rat) * Fp.p2 e := by
  rw [twice_written h hp]
  have hv : Fp.val p = (m : Rat) * Fp.p2 e := by unfold Fp.val; rw [h]; unfold Fp.dval Fp.sg; simp
  have h2 : ((2 * m : Nat) : Rat) * Fp.p2 e < Fp.p2 1023 := by
    rw [hv] at hb
    have := Fp.p2_split 1023
    push_cast
    rw [this]
    have e1 : (2 : Rat) * (m : Rat) * Fp.p2 e = 2 * ((m : Rat) * Fp.p2 e) := by grind
    rw [e1, show (1023 : Int) - 1 = 1022 by omega]
    grind
  obtain ⟨m', e', hr, hrd⟩ := Fp.write_rd false (2 * m) e h2
  refine ⟨m', e', hr, ?_⟩
  obtain ⟨hm, he⟩ := Fp.read_mag h
  have d1 : Fp.dval (.number false m' e') = (m' : Rat) * Fp.p2 e' := by unfold Fp.dval Fp.sg; simp
  have d2 : Fp.dval (.number false (2 * m) e) = ((2 * m : Nat) : Rat) * Fp.p2 e := by unfold Fp.dval Fp.sg; simp
  rw [d1, d2] at hrd
  refine hrd.exact m (e + 1) (by omega) (by omega) ?_
  rw [Fp.p2_add, Fp.p2_one]
  push_cast
  grind
/-- (2 p) q is (2 q) p -/
theorem both_eq {p q p2 q2 b b' : Nat} (hp : Plus p) (hq : Plus q) (bp : Fp.val p < Fp.p2 1022) (bq : Fp.val q < Fp.p2 1022) (h1 : F .mul W2 p p2) (h2 : F .mul W2 q q2) (h3 : F .mul p2 q b) (h4 : F .mul q2 p b') : b = b' := by
  obtain ⟨m, i, hp⟩ := hp
  obtain ⟨n, j, hq⟩ := hq
  obtain ⟨m', i', r1, v1⟩ := twice_read hp h1 bp
  obtain ⟨n', j', r2, v2⟩ := twice_read hq h2 bq
  rw [mul_written r1 hq h3, mul_written r2 hp h4]
  refine Fp.write_congr _ ?_
  push_cast at v1 v2 ⊢
  rw [Fp.p2_add, Fp.p2_add]
  calc (m' : Rat) * (n : Rat) * (Fp.p2 i' * Fp.p2 j) = ((m' : Rat) * Fp.p2 i') * ((n : Rat) * Fp.p2 j) := by grind
    _ = ((n' : Rat) * Fp.p2 j') * ((m : Rat) * Fp.p2 i) := by rw [v1, v2]; grind
    _ = (n' : Rat) * (m : Rat) * (Fp.p2 j' * Fp.p2 i) := by grind
/-- what was read is written as it was -/
theorem write_rung (s : Bool) (r : Nat) : double.nearest s (Fp.rmag r) (Fp.rplace r) = double.word s (min r Fp.infR) := by
  unfold Fp.rmag Fp.rplace
  have kk : ∀ n : Nat, Ieee.Toward.even.cut s n 0 = n := fun n => by have := Fp.cut_exact s n 0; simpa using this
  by_cases h : r < 2 ^ 52
  · rw [if_pos h, if_pos h]
    unfold Ieee.Format.nearest
    by_cases h0 : r = 0
    · subst h0; rw [if_pos rfl]; simp
    · rw [if_neg h0]
      dsimp only
      have hl : r.log2 < 52 := (Nat.log2_lt h0).2 h
      rw [Fp.least_eq, Fp.binade_eq, Fp.infRung_eq, show ((double.fractionBits : Nat) : Int) = 52 from rfl, show max (-1074 + (r.log2 : Int) - 52) (-1074) = -1074 by omega, show ((-1074 : Int) - -1074).toNat = 0 by omega, Nat.shiftLeft_zero, kk, Nat.zero_mul, Nat.zero_add]
  · rw [if_neg h, if_neg h]
    unfold Ieee.Format.nearest
    rw [if_neg (by omega)]
    dsimp only
    have hl : (2 ^ 52 + r % 2 ^ 52).log2 = 52 := by
      refine (Nat.log2_eq_iff (by omega)).2 ⟨by omega, by omega⟩
    rw [hl, Fp.least_eq, Fp.binade_eq, Fp.infRung_eq, show ((double.fractionBits : Nat) : Int) = 52 from rfl, show max (-1074 + ((r / 2 ^ 52 - 1 : Nat) : Int) + ((52 : Nat) : Int) - 52) (-1074) = -1074 + ((r / 2 ^ 52 - 1 : Nat) : Int) by omega]
    rw [show (-1074 + ((r / 2 ^ 52 - 1 : Nat) : Int) - (-1074 + ((r / 2 ^ 52 - 1 : Nat) : Int))).toNat = 0 by omega, Nat.shiftLeft_zero, kk, show (-1074 + ((r / 2 ^ 52 - 1 : Nat) : Int) - -1074).toNat = r / 2 ^ 52 - 1 by omega, show (r / 2 ^ 52 - 1) * 2 ^ 52 + (2 ^ 52 + r % 2 ^ 52) = r by omega]
theorem fin_word {m : Nat} {e : Int} (h : Fp.fin (double.write (.number false m e))) : ∃ r, r < Fp.infR ∧ double.write (.number false m e) = double.word false r := by
  have hw : ∃ r, double.write (.number false m e) = double.word false r ∧ r ≤ Fp.infR := by
    show ∃ r, double.nearest false m e = double.word false r ∧ r ≤ Fp.infR
    unfold Ieee.Format.nearest
    by_cases hm : m = 0
    · rw [if_pos hm]; exact ⟨0, rfl, Nat.zero_le _⟩
    · rw [if_neg hm]; exact ⟨_, rfl, Nat.min_le_right _ _⟩
  obtain ⟨r, hr, hle⟩ := hw
  refine ⟨r, ?_, hr⟩
  rcases Nat.lt_or_ge r Fp.infR with hlt | hge
  · exact hlt
  · obtain rfl : r = Fp.infR := Nat.le_antisymm hle hge
    rw [hr] at h
    obtain ⟨s, m, e, hh⟩ := h
    rw [show double.read (double.word false Fp.infR) = .infinity false by decide +kernel] at hh
    cases hh
/-- twice p, times p: the square and the square -/
theorem both_self {p p2 pp both d0 : Nat} (hp : Plus p) (bp : Fp.val p < Fp.p2 1022) (hlo : Fp.val p = 0 ∨ 1 / 100 ≤ Fp.val p) (h1 : F .mul W2 p p2) (h2 : F .mul p p pp) (h3 : F .mul p2 p both) (h4 : F .add pp pp d0) (hf : Fp.fin both) : both = d0 := by
  obtain ⟨m, i, hp⟩ := hp
  obtain ⟨m', i', r1, v1⟩ := twice_read hp h1 bp
  have hv : Fp.val p = (m : Rat) * Fp.p2 i := by unfold Fp.val; rw [hp]; unfold Fp.dval Fp.sg; simp
  have e2 := mul_written hp hp h2
  have e3 := mul_written r1 hp h3
  rw [show (false ^^ false) = false from rfl] at e2 e3
  have hc : double.write (.number false (m' * m) (i' + i)) = double.nearest false (m * m) (i + i + 1) := by
    refine Fp.write_congr false ?_
    push_cast at v1 ⊢
    rw [Fp.p2_add, Fp.p2_add (i + i), Fp.p2_add, Fp.p2_one]
    calc (m' : Rat) * (m : Rat) * (Fp.p2 i' * Fp.p2 i) = ((m' : Rat) * Fp.p2 i') * ((m : Rat) * Fp.p2 i) := by grind
      _ = (m : Rat) * (m : Rat) * (Fp.p2 i * Fp.p2 i * 2) := by rw [v1]; grind
  by_cases hm : m = 0
  · subst hm
    have z : pp = 0 := by rw [e2]; rfl
    have z2 : both = 0 := by rw [e3, hc]; rfl
    subst z z2
    have k : double.add 0 0 = some d0 := h4
    rw [show double.add 0 0 = some 0 by decide +kernel] at k
    injection k
  · have hmm : m * m ≠ 0 := Nat.mul_ne_zero hm hm
    have hpos : (0 : Rat) < (m : Rat) * Fp.p2 i := Rat.mul_pos (by exact_mod_cast Nat.pos_of_ne_zero hm) (Fp.p2_pos i)
    have hlo2 : 1 / 100 ≤ (m : Rat) * Fp.p2 i := by rw [← hv]; rcases hlo with h | h; (rw [hv] at h; grind); exact h
    have hl : -1021 ≤ i + i + ((m * m).log2 : Int) := by
      have a1 := Rat.mul_le_mul_of_nonneg_right hlo2 (Rat.le_of_lt hpos)
      have a2 := Rat.mul_le_mul_of_nonneg_left hlo2 (show (0 : Rat) ≤ 1 / 100 by decide +kernel)
      have a3 : Fp.p2 (-14) ≤ 1 / 100 * (1 / 100) := by decide +kernel
      have a4 : (m : Rat) * Fp.p2 i * ((m : Rat) * Fp.p2 i) = ((m * m : Nat) : Rat) * Fp.p2 (i + i) := by rw [Fp.p2_add]; push_cast; grind
      have a5 : ((m * m : Nat) : Rat) < ((2 ^ ((m * m).log2 + 1) : Nat) : Rat) := by exact_mod_cast Fp.log2_lt (m * m)
      have a6 := Rat.mul_lt_mul_of_pos_right a5 (Fp.p2_pos (i + i))
      rw [← Fp.p2_nat, ← Fp.p2_add] at a6
      have a7 : Fp.p2 (-14) < Fp.p2 ((((m * m).log2 + 1 : Nat) : Int) + (i + i)) := by grind
      have := Fp.lt_of_p2 a7
      omega
    obtain ⟨M, P, q1, q2⟩ := Fp.nearest_scale false (m * m) (i + i) hmm hl (by rw [← hc, ← e3]; exact hf)
    have rp : double.read pp = .number false M P := by rw [e2]; exact q1
    rw [add_self_written rp h4]
    have hn : double.write (.number false (2 * M) P) = double.nearest false M (P + 1) := by
      have := Fp.nearest_two false M (P + 1)
      rw [show P + 1 - 1 = P by omega] at this
      exact this
    rw [hn, e3]
    rw [e3] at hf
    obtain ⟨r, hr, hw⟩ := fin_word hf
    have hrd := Fp.read_word false r hr
    rw [← hw, hc, q2] at hrd
    injection hrd with _ hM hP
    rw [hM, hP, write_rung, Nat.min_eq_left (Nat.le_of_lt hr), hw]
theorem div_one' {x : Rat} (h : x ≠ 0) : x / x = 1 := by rw [Rat.div_def, Rat.mul_inv_cancel x h]
/-- a word by itself -/
theorem quo_self {x r : Nat} (h : F .quo x x r) : Fp.fin r ∧ Fp.val r = 1 := by
  have k : double.div x x = some r := h
  have hx : Fp.fin x ∧ Fp.val x ≠ 0 := by
    unfold Ieee.Format.div at k
    unfold Fp.fin Fp.val
    generalize double.read x = d at k
    rcases d with ⟨s, m, e⟩ | s | ⟨s, f⟩
    · refine ⟨⟨_, _, _, rfl⟩, ?_⟩
      simp only [Datum.quotient] at k
      by_cases hm : m = 0
      · rw [if_pos hm, if_pos hm] at k; cases k
      · have h0 : (0 : Rat) < (m : Rat) * Fp.p2 e := Rat.mul_pos (by exact_mod_cast Nat.pos_of_ne_zero hm) (Fp.p2_pos e)
        unfold Fp.dval Fp.sg
        cases s <;> simp <;> grind
    · cases k
    · cases k
  obtain ⟨r', v, hr, hf, hq, hd⟩ := Fp.div_rd hx.1 hx.1 hx.2 (by rw [div_one' hx.2]; decide +kernel) (by rw [div_one' hx.2]; decide +kernel)
  rw [hr] at k
  injection k with k
  subst k
  rw [div_one' hx.2] at hq
  have hv := hq.exact 1 (by decide) (by decide +kernel)
  subst hv
  exact ⟨hf, hd.exact 1 0 (by decide) (by decide) (by decide +kernel)⟩
theorem Sums.symm {n a b aa bb ab : Nat} (h : Sums n a b aa bb ab) : Sums n b a bb aa ab :=
  ⟨h.n1, h.n64, h.lb, h.la, h.lbb, h.laa, h.lab, h.cb, h.ca, by have := h.cp; rw [Nat.add_comm b a, Nat.add_comm bb aa]; exact this, by
    have := h.cm
    have e : ((b : Int) - a) * ((b : Int) - a) = ((a : Int) - b) * ((a : Int) - b) := by rw [← Int.neg_mul_neg, Int.neg_sub]
    rw [e, Int.add_comm (bb : Int) aa]
    exact this⟩
/-- a mean of a tile -/
theorem mean_plus {s n p : Nat} (h1 : 1 ≤ n) (h64 : n ≤ 64) (hs : s ≤ 255 * n) (h : F .quo (foi s) (foi n) p) : Plus p ∧ Fp.val p ≤ 256 ∧ 0 ≤ Fp.val p ∧ (Fp.val p = 0 ∨ 1 / 100 ≤ Fp.val p) := by
  obtain ⟨p', hp, fp, np, P0, P1⟩ := quo_int s n h1 h64 255 (by omega) (by omega) hs
  obtain rfl := F.uniq hp h
  have hpl := plus_quo (plus_foi s (by omega)) (plus_foi n (by omega)) h fp
  have k255 : ((255 : Nat) : Rat) = 255 := rfl
  rw [k255] at np P1
  have np1 : Near (Fp.val p') ((s : Rat) / n) (1 / 10000000000000) := near_le np (by decide +kernel)
  unfold Near at np1
  have hp0 : 0 ≤ Fp.val p' := by
    obtain ⟨m, e, hr⟩ := hpl
    unfold Fp.val
    rw [hr]
    unfold Fp.dval Fp.sg
    simp only [Bool.false_eq_true, if_false]
    have := Fp.mag_nonneg m e
    grind
  refine ⟨hpl, by grind, hp0, ?_⟩
  by_cases h0 : s = 0
  · left
    subst h0
    have hz : floatOfInt .f64 ((0 : Nat) : Int) = 0 := by decide +kernel
    have k : double.div (foi 0) (foi n) = some p' := h
    obtain ⟨f2, v2⟩ := foi_val n (by omega)
    have hnr : (0 : Rat) < (n : Rat) := by exact_mod_cast h1
    have hne : Fp.val (foi n) ≠ 0 := by unfold foi; rw [v2]; exact Rat.ne_of_gt hnr
    have f0 : Fp.fin (foi 0) ∧ Fp.val (foi 0) = 0 := by unfold foi; rw [hz]; exact Fp.val_0
    have e0 : Fp.val (foi 0) / Fp.val (foi n) = 0 := by rw [f0.2, Rat.div_def, Rat.zero_mul]
    obtain ⟨r', v, hr, hf, hq, hd⟩ := Fp.div_rd f0.1 f2 hne (by unfold foi at e0; rw [e0]; decide +kernel) (by unfold foi at e0; rw [e0]; decide +kernel)
    rw [hr] at k
    injection k with k
    subst k
    unfold foi at e0
    rw [e0] at hq
    have hv := hq.exact 0 (by decide) (by decide +kernel)
    subst hv
    exact hd.exact 0 0 (by decide) (by decide) (by decide +kernel)
  · right
    have hnr : (0 : Rat) < (n : Rat) := by exact_mod_cast h1
    have : 1 / 64 ≤ (s : Rat) / n := by
      refine le_div' hnr ?_
      have a : (1 : Rat) ≤ (s : Rat) := by exact_mod_cast Nat.pos_of_ne_zero h0
      have b : (n : Rat) ≤ 64 := by exact_mod_cast h64
      grind
    grind
theorem small_1022 {x : Rat} (h : x ≤ 256) : x < Fp.p2 1022 := p2_big (by grind)
theorem like_symm {n a b aa bb ab : Nat} (h : Sums n a b aa bb ab) : likeP n a b aa bb ab = likeP n b a bb aa ab := by
  obtain ⟨p, q, pp, qq, pq, ga, gb, gg, u, v, w, p2, both, w2, b1, c1, above, d0, d, e0, e, below, r, L, _⟩ := like_ex h
  obtain ⟨p', q', pp', qq', pq', ga', gb', gg', u', v', w', p2', both', w2', b1', c1', above', d0', d', e0', e', below', r', L', _⟩ := like_ex h.symm
  rw [L.eq, L'.eq]
  obtain ⟨P1, P2, _, _⟩ := mean_plus h.n1 h.n64 h.la L.hp
  obtain ⟨Q1, Q2, _, _⟩ := mean_plus h.n1 h.n64 h.lb L.hq
  obtain rfl := F.uniq L.hp L'.hq
  obtain rfl := F.uniq L.hq L'.hp
  obtain rfl := F.uniq L.hpp L'.hqq
  obtain rfl := F.uniq L.hqq L'.hpp
  obtain rfl := F.uniq L.hpq L'.hpq.mul_swap
  obtain rfl := F.uniq L.hga L'.hgb
  obtain rfl := F.uniq L.hgb L'.hga
  obtain rfl := F.uniq L.hgg L'.hgg
  obtain rfl := F.uniq L.hu L'.hv
  obtain rfl := F.uniq L.hv L'.hu
  obtain rfl := F.uniq L.hw L'.hw
  obtain rfl := both_eq P1 Q1 (small_1022 P2) (small_1022 Q2) L.hp2 L'.hp2 L.hboth L'.hboth
  obtain rfl := F.uniq L.hw2 L'.hw2
  obtain rfl := F.uniq L.hb1 L'.hb1
  obtain rfl := F.uniq L.hc1 L'.hc1
  obtain rfl := F.uniq L.habove L'.habove
  obtain rfl := F.uniq L.hd0 L'.hd0.add_swap
  obtain rfl := F.uniq L.hd L'.hd
  obtain rfl := F.uniq L.he0 L'.he0.add_swap
  obtain rfl := F.uniq L.he L'.he
  obtain rfl := F.uniq L.hbelow L'.hbelow
  exact F.uniq L.hr L'.hr
/-- a product of two small words is a number -/
theorem mul_fin {x y r : Nat} (hx : Fp.fin x) (hy : Fp.fin y) (h1 : 0 ≤ Fp.val x ∧ Fp.val x ≤ 1000) (h2 : 0 ≤ Fp.val y ∧ Fp.val y ≤ 1000) (h : F .mul x y r) : Fp.fin r := by
  have hp := prod_le (x := Fp.val x) (y := Fp.val y) (α := 1000) (d := 1000) (by grind) (by grind)
  obtain ⟨r', hr, hf, _⟩ := mul_near hx hy 1000000 (by decide +kernel) (by decide +kernel) (by grind)
  rwa [F.uniq h hr]
theorem like_self {n a aa : Nat} (h : Sums n a a aa aa aa) : Fp.fin (likeP n a a aa aa aa) ∧ Fp.val (likeP n a a aa aa aa) = 1 := by
  obtain ⟨p, q, pp, qq, pq, ga, gb, gg, u, v, w, p2, both, w2, b1, c1, above, d0, d, e0, e, below, r, L, _⟩ := like_ex h
  rw [L.eq]
  obtain ⟨P1, P2, P0, P3⟩ := mean_plus h.n1 h.n64 h.la L.hp
  obtain rfl := F.uniq L.hp L.hq
  obtain rfl := F.uniq L.hpp L.hqq
  obtain rfl := F.uniq L.hpp L.hpq
  obtain rfl := F.uniq L.hga L.hgb
  obtain rfl := F.uniq L.hga L.hgg
  obtain rfl := F.uniq L.hu L.hv
  obtain rfl := F.uniq L.hu L.hw
  have fu : Fp.fin u := by
    obtain ⟨ga', hga, fga, nga, A0, A1⟩ := quo_int aa n h.n1 h.n64 65025 (by omega) (by omega) h.laa
    obtain rfl := F.uniq hga L.hga
    have k65 : ((65025 : Nat) : Rat) = 65025 := rfl
    rw [k65, eps_val] at nga
    rw [k65] at A1
    unfold Near at nga
    obtain ⟨pp', hpp, fpp, n1⟩ := mul_near (plus_fin P1) (plus_fin P1) 1000000 (by decide +kernel) (by decide +kernel) (by
      have hp := prod_le (x := Fp.val p) (y := Fp.val p) (α := 1000) (d := 1000) (by constructor <;> grind) (by constructor <;> grind)
      constructor <;> grind)
    obtain rfl := F.uniq hpp L.hpp
    have hp2 := prod_le (x := Fp.val p) (y := Fp.val p) (α := 1000) (d := 1000) (by constructor <;> grind) (by constructor <;> grind)
    rw [eps_val] at n1
    unfold Near at n1
    obtain ⟨u', hu, fu, _⟩ := sub_near fga fpp 10000000 (by decide +kernel) (by decide +kernel) (by constructor <;> grind)
    rwa [F.uniq L.hu hu]
  have fb : Fp.fin both := by
    obtain ⟨p2', hp2, fp2, n1⟩ := mul_near fin_W2.1 (plus_fin P1) 600 (by decide +kernel) (by decide +kernel) (by rw [fin_W2.2]; constructor <;> grind)
    rw [fin_W2.2, eps_val] at n1
    obtain rfl := F.uniq hp2 L.hp2
    unfold Near at n1
    obtain ⟨b', hb', fb', _⟩ := mul_near fp2 (plus_fin P1) 1000000 (by decide +kernel) (by decide +kernel) (by
      have hp := prod_le (x := Fp.val p2') (y := Fp.val p) (α := 1000) (d := 1000) (by constructor <;> grind) (by constructor <;> grind)
      constructor <;> grind)
    rwa [F.uniq L.hboth hb']
  obtain rfl := both_self P1 (small_1022 P2) P3 L.hp2 L.hpp L.hboth L.hd0 fb
  obtain rfl := twice_add fu L.hw2 L.he0
  obtain rfl := F.uniq L.hb1 L.hd
  obtain rfl := F.uniq L.hc1 L.he
  obtain rfl := F.uniq L.habove L.hbelow
  exact quo_self L.hr
end Go.Proofs.Ytfaciljklligeaa.Ct
