/- A stand-in out of its neighbours: the sums. -/
import Derived.Test.YtnepchdpgbdogaaSt
namespace Go.Proofs.Ytnepchdpgbdogaa.Ct
open Go.ChangeShapes Go.WideShapes Go.RowKit Mm
/-- neighbours as they come: few, near, of 16 bits -/
def Nbs (L : List (Int × Nat)) : Prop := L.length ≤ 4 ∧ ∀ p ∈ L, (-32768 ≤ p.1 ∧ p.1 ≤ 32767) ∧ 1 ≤ p.2 ∧ p.2 ≤ 8192
def farI (L : List (Int × Nat)) (k : Nat) : Nat := (L.getD k (0, 1)).2
def dcI (L : List (Int × Nat)) (k : Nat) : Int := (L.getD k (0, 1)).1
def wP (L : List (Int × Nat)) (i : Nat) : Nat → Nat
  | 0 => 1
  | k + 1 => if k = i then wP L i k else wP L i k * farI L k
def sumW (L : List (Int × Nat)) : Nat → Nat
  | 0 => 0
  | i + 1 => sumW L i + wP L i L.length
def sumA (L : List (Int × Nat)) : Nat → Int
  | 0 => 0
  | i + 1 => sumA L i + dcI L i * (wP L i L.length : Nat)
def siP (L : List (Int × Nat)) : Int := nearI (sumA L L.length) (sumW L L.length)
theorem farI_le {L : List (Int × Nat)} (h : Nbs L) (k : Nat) : 1 ≤ farI L k ∧ farI L k ≤ 8192 := by
  unfold farI
  by_cases hk : k < L.length
  · rw [show L.getD k (0, 1) = L[k] by simp [hk]]
    exact (h.2 _ (List.getElem_mem hk)).2
  · rw [show L.getD k (0, 1) = (0, 1) by simp [List.getD, List.getElem?_eq_none (Nat.le_of_not_lt hk)]]
    simp
theorem dcI_le {L : List (Int × Nat)} (h : Nbs L) (k : Nat) : -32768 ≤ dcI L k ∧ dcI L k ≤ 32767 := by
  unfold dcI
  by_cases hk : k < L.length
  · rw [show L.getD k (0, 1) = L[k] by simp [hk]]
    exact (h.2 _ (List.getElem_mem hk)).1
  · rw [show L.getD k (0, 1) = (0, 1) by simp [List.getD, List.getElem?_eq_none (Nat.le_of_not_lt hk)]]
    simp
theorem wP_le {L : List (Int × Nat)} (h : Nbs L) (i : Nat) (k : Nat) : 1 ≤ wP L i k ∧ wP L i k ≤ 8192 ^ (if i < k then k - 1 else k) := by
  induction k with
  | zero => simp [wP]
  | succ k ih =>
    have hf := farI_le h k
    unfold wP
    by_cases hk : k = i
    · subst hk
      rw [if_pos rfl, if_pos (Nat.lt_succ_self k)]
      simpa using ih
    · rw [if_neg hk]
      refine ⟨Nat.le_trans ih.1 (Nat.le_mul_of_pos_right _ hf.1), ?_⟩
      have : (if i < k + 1 then k + 1 - 1 else k + 1) = (if i < k then k - 1 else k) + 1 := by
        by_cases h1 : i < k
        · rw [if_pos h1, if_pos (by omega)]; omega
        · rw [if_neg h1, if_neg (by omega)]
      rw [this, Nat.pow_succ]
      exact Nat.mul_le_mul ih.2 hf.2
theorem wP_small {L : List (Int × Nat)} (h : Nbs L) {i k : Nat} (hi : i < L.length) (hk : k ≤ L.length) : 1 ≤ wP L i k ∧ wP L i k ≤ 549755813888 := by
  have := wP_le h i k
  refine ⟨this.1, Nat.le_trans this.2 ?_⟩
  have h4 := h.1
  refine Nat.le_trans (Nat.pow_le_pow_right (by omega) (show (if i < k then k - 1 else k) ≤ 3 by split <;> omega)) (by decide)
theorem sums_small {L : List (Int × Nat)} (h : Nbs L) (i : Nat) (hi : i ≤ L.length) : i ≤ sumW L i ∧ sumW L i ≤ 549755813888 * i ∧ (-32768 : Int) * (sumW L i : Nat) ≤ sumA L i ∧ sumA L i ≤ 32767 * (sumW L i : Nat) := by
  induction i with
  | zero => simp [sumW, sumA]
  | succ i ih =>
    obtain ⟨a1, a2, a3, a4⟩ := ih (by omega)
    have hw := wP_small h (i := i) (k := L.length) (by omega) (Nat.le_refl _)
    have hd := dcI_le h i
    have m1 : -32768 * ((wP L i L.length : Nat) : Int) ≤ dcI L i * (wP L i L.length : Nat) := Int.mul_le_mul_of_nonneg_right hd.1 (by omega)
    have m2 : dcI L i * ((wP L i L.length : Nat) : Int) ≤ 32767 * (wP L i L.length : Nat) := Int.mul_le_mul_of_nonneg_right hd.2 (by omega)
    unfold sumW sumA
    push_cast
    refine ⟨by omega, by omega, by omega, by omega⟩
theorem siP_bounds {L : List (Int × Nat)} (h : Nbs L) (hn : L ≠ []) : -32768 ≤ siP L ∧ siP L ≤ 32767 := by
  have hl : 0 < L.length := List.length_pos_iff.2 hn
  obtain ⟨a1, a2, a3, a4⟩ := sums_small h L.length (Nat.le_refl _)
  exact nearI_bounds (by omega) a3 a4
/-- the neighbours in one direction are near -/
theorem nbF_near {W H : Nat} (hW : W ≤ 8192) (hH : H ≤ 8192) {l : List Bool} {D : Nat → Int} (hD : ∀ i, -32768 ≤ D i ∧ D i ≤ 32767) {x y dx dy : Int} (hd : Dir dx dy) (hx : 0 ≤ x ∧ x < W) (hy : 0 ≤ y ∧ y < H) (f : Nat) :
    ∀ d, 1 ≤ d → ∀ p, nbF W H l D x y dx dy f d = some p → (-32768 ≤ p.1 ∧ p.1 ≤ 32767) ∧ 1 ≤ p.2 ∧ p.2 ≤ 8192 := by
  induction f with
  | zero => intro d _ p h; simp [nbF] at h
  | succ f ih =>
    intro d h1 p h
    unfold nbF at h
    by_cases hi : inB W H (x + d * dx) (y + d * dy) = true
    · rw [if_pos hi] at h
      by_cases hh : hasB W H l (x + d * dx) (y + d * dy) = true
      · rw [if_pos hh] at h
        exact ih (d + 1) (by omega) p h
      · rw [if_neg hh] at h
        injection h with h
        subst h
        have := dir_far hW hH hd hx hy hi
        exact ⟨hD _, h1, by simp; omega⟩
    · rw [if_neg hi] at h
      simp at h
theorem nbL_nbs {W H : Nat} (hW : W ≤ 8192) (hH : H ≤ 8192) {l : List Bool} {D : Nat → Int} (hD : ∀ i, -32768 ≤ D i ∧ D i ≤ 32767) {x y : Int} (hx : 0 ≤ x ∧ x < W) (hy : 0 ≤ y ∧ y < H) : Nbs (nbL W H l D x y) := by
  refine ⟨nbL_len _ _ _ _ _ _, fun p hp => ?_⟩
  unfold nbL at hp
  simp only [List.mem_append, Option.mem_toList] at hp
  rcases hp with ((hp | hp) | hp) | hp
  · exact nbF_near hW hH hD (.inl ⟨rfl, rfl⟩) hx hy _ 1 (by omega) p hp
  · exact nbF_near hW hH hD (.inr (.inl ⟨rfl, rfl⟩)) hx hy _ 1 (by omega) p hp
  · exact nbF_near hW hH hD (.inr (.inr (.inl ⟨rfl, rfl⟩))) hx hy _ 1 (by omega) p hp
  · exact nbF_near hW hH hD (.inr (.inr (.inr ⟨rfl, rfl⟩))) hx hy _ 1 (by omega) p hp
/-- the cells of the list -/
theorem nlC_get (L : List (Int × Nat)) (i : Nat) (hi : i < L.length) : (nlC L)[i * 2]? = some (.int .i64 (dcI L i)) ∧ (nlC L)[i * 2 + 1]? = some (.int .i64 (farI L i)) := by
  induction L generalizing i with
  | nil => simp at hi
  | cons p r ih =>
    rcases i with _ | i
    · simp [nlC, dcI, farI]
    · have := ih i (by simpa using hi)
      have e1 : (i + 1) * 2 = i * 2 + 1 + 1 := by omega
      rw [e1]
      simpa [nlC, dcI, farI] using this
end Go.Proofs.Ytnepchdpgbdogaa.Ct
