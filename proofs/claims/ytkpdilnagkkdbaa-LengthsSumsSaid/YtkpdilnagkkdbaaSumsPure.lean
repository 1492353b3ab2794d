/- Of every two lists the cost is the document's, and so is the answer whether the second one fits. Conditions: none. -/
import Derived.Test.YtkpdilnagkkdbaaSumsWalk
namespace Go.Proofs.Ytkpdilnagkkdbaa.Pure
open Go.RowKit Go.Proofs.Ytkpdilnagkkdbaa.PLengthsSums Go.Proofs.YtkpdilnagkkdbaaW.PrintWords Go.Proofs.YtkpdilnagkkdbaaW.PrintLast Go.Proofs.YtkpdilnagkkdbaaW.PrintMore

/-- from some number of rounds on -/
def Evs {α : Type} (g : Nat → Option α) (r : α) : Prop := ∃ K, ∀ k, K ≤ k → g k = some r
theorem Evs.step {α : Type} {g h : Nat → Option α} {r : α} (e : ∀ k, g (k + 1) = h k) (H : Evs h r) : Evs g r := by
  obtain ⟨K, H⟩ := H
  refine ⟨K + 1, fun k hk => ?_⟩
  obtain ⟨k, rfl⟩ : ∃ m, k = m + 1 := ⟨k - 1, by omega⟩
  rw [e]
  exact H k (by omega)
theorem Evs.now {α : Type} {g : Nat → Option α} {r : α} (e : ∀ k, g (k + 1) = some r) : Evs g r := by
  refine ⟨1, fun k hk => ?_⟩
  obtain ⟨k, rfl⟩ : ∃ m, k = m + 1 := ⟨k - 1, by omega⟩
  exact e k

theorem wrap_next {i : Int} {n : Nat} (h0 : 0 ≤ i) (h : i < (n : Int)) (hn : n * 8 ≤ 140737488351232) : wrap64 (i + 1) = i + 1 := by
  unfold wrap64
  omega

theorem cost_both (a b : List Int) (ha : a.length * 8 ≤ 140737488351232) (d : Nat) : ∀ (i s : Int), 0 ≤ i → mn (a.length : Int) (b.length : Int) - i ≤ d →
    ∃ r, Evs (fun k => lengths_Cost.l0 k a b s (mn (a.length : Int) (b.length : Int)) i) r ∧ Evs (fun k => mosaicref05_Cost.l0 k a b s i) r := by
  have hm : mn (a.length : Int) (b.length : Int) ≤ a.length ∧ mn (a.length : Int) (b.length : Int) ≤ b.length ∧ (mn (a.length : Int) (b.length : Int) = a.length ∨ mn (a.length : Int) (b.length : Int) = b.length) := by
    unfold mn; split <;> omega
  generalize mn (a.length : Int) (b.length : Int) = m at *
  obtain ⟨m1, m2, m3⟩ := hm
  induction d with
  | zero =>
    intro i s h0 h1
    refine ⟨s, Evs.now fun k => ?_, Evs.now fun k => ?_⟩
    · simp only [lengths_Cost.l0]; rw [if_neg (by omega)]
    · simp only [mosaicref05_Cost.l0]
      by_cases h : i < (a.length : Int)
      · rw [if_pos h, if_neg (by omega)]
      · rw [if_neg h]
  | succ d ih =>
    intro i s h0 h1
    by_cases h : i < m
    · obtain ⟨r, h3, h4⟩ := ih (i + 1) (wrap64 (s + (wrap64 ((rd a i) * (rd b i))))) (by omega) (by omega)
      refine ⟨r, Evs.step (fun k => ?_) h3, Evs.step (fun k => ?_) h4⟩
      · simp only [lengths_Cost.l0]
        rw [if_pos h, if_pos h0, if_pos (by omega), if_pos (by omega), wrap_next (n := a.length) h0 (by omega) ha]
      · simp only [mosaicref05_Cost.l0]
        rw [if_pos (by omega), if_pos (by omega), if_pos h0, wrap_next (n := a.length) h0 (by omega) ha]
    · refine ⟨s, Evs.now fun k => ?_, Evs.now fun k => ?_⟩
      · simp only [lengths_Cost.l0]; rw [if_neg h]
      · simp only [mosaicref05_Cost.l0]
        by_cases h : i < (a.length : Int)
        · rw [if_pos h, if_neg (by omega)]
        · rw [if_neg h]

theorem half (n : Nat) : wrap64 (Int.tdiv ((2 ^ (n + 1) : Nat) : Int) 2) = if n + 1 ≤ 63 then ((2 ^ n : Nat) : Int) else wrap64 (Int.tdiv ((2 ^ (n + 1) : Nat) : Int) 2) := by
  split
  · rename_i h
    rw [Int.tdiv_eq_ediv_of_nonneg (by exact_mod_cast Nat.zero_le _)]
    have e : ((2 ^ (n + 1) : Nat) : Int) = 2 * ((2 ^ n : Nat) : Int) := by rw [Nat.pow_succ]; push_cast; omega
    rw [e, Int.mul_ediv_cancel_left _ (by omega)]
    have hle : 2 ^ n ≤ 2 ^ 62 := Nat.pow_le_pow_right (by omega) (by omega)
    generalize 2 ^ n = p at *
    unfold wrap64
    omega
  · rfl

/-- the part of a length: halved so often -/
theorem halves (x0 : List Int) (x3 x4 x5 : Int) (hx : 0 ≤ x5) (hx' : x5 ≤ 32) (r : Bool) (d : Nat) : ∀ (j : Int), 0 ≤ j → j ≤ x5 → x5 - j = d →
    Evs (fun k => if x5 > 0 then mosaicref05_Fits.l0 k x0 (wrap64 (x3 + ((2 ^ (32 - x5.toNat) : Nat) : Int))) (wrap64 (x4 + 1)) else mosaicref05_Fits.l0 k x0 x3 (wrap64 (x4 + 1))) r →
    Evs (fun k => mosaicref05_Fits.l1 k x0 x3 x4 x5 ((2 ^ (32 - j.toNat) : Nat) : Int) j) r := by
  induction d with
  | zero =>
    intro j h0 h1 h2 H
    obtain rfl : j = x5 := by omega
    refine Evs.step (fun k => ?_) H
    simp only [mosaicref05_Fits.l1]
    rw [if_neg (by omega)]
  | succ d ih =>
    intro j h0 h1 h2 H
    have := ih (j + 1) (by omega) (by omega) (by omega) H
    refine Evs.step (fun k => ?_) this
    simp only [mosaicref05_Fits.l1]
    rw [if_pos (by omega)]
    have e : 32 - j.toNat = (32 - (j + 1).toNat) + 1 := by omega
    rw [e, half, if_pos (by omega), show wrap64 (j + 1) = j + 1 by unfold wrap64; omega]

theorem shl_one (l : Int) (h0 : 0 < l) (h1 : l ≤ 32) : shl .i64 1 (wrap64 (32 - l)) = ((2 ^ (32 - l.toNat) : Nat) : Int) := by
  have e : wrap64 (32 - l) = 32 - l := by unfold wrap64; omega
  rw [e]
  unfold shl
  have e2 : min (32 - l).toNat IntKind.i64.bits = 32 - l.toNat := by
    have : IntKind.i64.bits = 64 := rfl
    rw [this]; omega
  rw [e2, IntKind.wrap_i64]
  have hle : 2 ^ (32 - l.toNat) ≤ 2 ^ 32 := Nat.pow_le_pow_right (by omega) (by omega)
  have hc : (2 : Int) ^ (32 - l.toNat) = ((2 ^ (32 - l.toNat) : Nat) : Int) := by push_cast; rfl
  rw [hc]
  generalize 2 ^ (32 - l.toNat) = p at *
  omega

theorem fits_both (b : List Int) (hb : b.length * 8 ≤ 140737488351232) (d : Nat) : ∀ (i s : Int), 0 ≤ i → (b.length : Int) - i ≤ d →
    ∃ r, Evs (fun k => lengths_Fits.l0 k s b (b.length : Int) i) r ∧ Evs (fun k => mosaicref05_Fits.l0 k b s i) r := by
  induction d with
  | zero =>
    intro i s h0 h1
    refine ⟨decide (s ≤ 4294967296), Evs.now fun k => ?_, Evs.now fun k => ?_⟩
    · simp only [lengths_Fits.l0]; rw [if_neg (by omega)]
    · simp only [mosaicref05_Fits.l0]; rw [if_neg (by omega)]
  | succ d ih =>
    intro i s h0 h1
    by_cases h : i < (b.length : Int)
    · have hw := wrap_next h0 h hb
      by_cases bad : rd b i < 0 ∨ 32 < rd b i
      · refine ⟨false, Evs.step (h := fun k => lengths_Fits.j1 k s (rd b i) b (b.length : Int) i true) (fun k => ?_) (Evs.now fun k => ?_),
          Evs.step (h := fun k => mosaicref05_Fits.j1 k b s i (rd b i) true) (fun k => ?_) (Evs.now fun k => ?_)⟩
        · simp only [lengths_Fits.l0]
          rw [if_pos h, if_pos h0, if_pos h]
          rcases bad with c | c
          · rw [if_pos c]
          · rw [if_neg (by omega), decide_eq_true (by omega)]
        · simp only [lengths_Fits.j1, if_true]
        · simp only [mosaicref05_Fits.l0]
          rw [if_pos h, if_pos h0]
          rcases bad with c | c
          · rw [if_pos c]
          · rw [if_neg (by omega), decide_eq_true (by omega)]
        · simp only [mosaicref05_Fits.j1, if_true]
      · have b0 : 0 ≤ rd b i := by omega
        have b1 : rd b i ≤ 32 := by omega
        obtain ⟨r, h3, h4⟩ : ∃ r, Evs (fun k => if rd b i > 0 then lengths_Fits.l0 k (wrap64 (s + ((2 ^ (32 - (rd b i).toNat) : Nat) : Int))) b (b.length : Int) (wrap64 (i + 1)) else lengths_Fits.l0 k s b (b.length : Int) (wrap64 (i + 1))) r ∧
            Evs (fun k => if rd b i > 0 then mosaicref05_Fits.l0 k b (wrap64 (s + ((2 ^ (32 - (rd b i).toNat) : Nat) : Int))) (wrap64 (i + 1)) else mosaicref05_Fits.l0 k b s (wrap64 (i + 1))) r := by
          by_cases hp : rd b i > 0
          · simp only [if_pos hp, hw]; exact ih _ _ (by omega) (by omega)
          · simp only [if_neg hp, hw]; exact ih _ _ (by omega) (by omega)
        refine ⟨r, Evs.step (h := fun k => lengths_Fits.j1 k s (rd b i) b (b.length : Int) i false) (fun k => ?_) (Evs.step (fun k => ?_) h3),
          Evs.step (h := fun k => mosaicref05_Fits.j1 k b s i (rd b i) false) (fun k => ?_) (Evs.step (h := fun k => mosaicref05_Fits.l1 k b s i (rd b i) 4294967296 0) (fun k => ?_) ?_)⟩
        · simp only [lengths_Fits.l0]
          rw [if_pos h, if_pos h0, if_pos h, if_neg (by omega), decide_eq_false (by omega)]
        · simp only [lengths_Fits.j1, Bool.false_eq_true, if_false]
          by_cases hp : rd b i > 0
          · rw [if_pos hp, if_pos hp, shl_one _ hp b1, if_pos (by unfold wrap64; omega)]
          · rw [if_neg hp, if_neg hp]
        · simp only [mosaicref05_Fits.l0]
          rw [if_pos h, if_pos h0, if_neg (by omega), decide_eq_false (by omega)]
        · simp only [mosaicref05_Fits.j1, Bool.false_eq_true, if_false]
        · exact halves b s i (rd b i) b0 b1 r (rd b i).toNat 0 (by omega) b0 (by omega) h4
    · refine ⟨decide (s ≤ 4294967296), Evs.now fun k => ?_, Evs.now fun k => ?_⟩
      · simp only [lengths_Fits.l0]; rw [if_neg h]
      · simp only [mosaicref05_Fits.l0]; rw [if_neg h]

theorem LengthsSums : mosaiclaw05_LengthsSums.Pure := by
  intro a b _ ha _ _ hb _
  obtain ⟨r, ⟨K1, h1⟩, ⟨K2, h2⟩⟩ := cost_both a b ha (mn (a.length : Int) (b.length : Int)).toNat 0 0 (by omega) (by omega)
  obtain ⟨t, ⟨K3, h3⟩, ⟨K4, h4⟩⟩ := fits_both b hb b.length 0 0 (by omega) (by omega)
  refine ⟨K1 + K2 + K3 + K4, ?_⟩
  unfold mosaiclaw05_LengthsSums.f lengths_Cost.f mosaicref05_Cost.f lengths_Fits.f mosaicref05_Fits.f
  have g1 := h1 (K1 + K2 + K3 + K4) (by omega)
  have g2 := h2 (K1 + K2 + K3 + K4) (by omega)
  have g3 := h3 (K1 + K2 + K3 + K4) (by omega)
  have g4 := h4 (K1 + K2 + K3 + K4) (by omega)
  dsimp only at g1 g2 g3 g4
  rw [g1, g2, g3, g4]
  simp

end Go.Proofs.Ytkpdilnagkkdbaa.Pure
