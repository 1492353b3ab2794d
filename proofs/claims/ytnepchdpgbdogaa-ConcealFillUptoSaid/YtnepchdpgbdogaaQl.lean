/- The plain law of Quiet: a stand-in lies between the least and the greatest of what is to be believed. -/
import Derived.Test.YtnepchdpgbdogaaFl
namespace Go.Proofs.Ytnepchdpgbdogaa.Ct
/-- every one that is not flagged lies from lo to hi -/
def Within (n : Nat) (l : List Bool) (D : Nat → Int) (lo hi : Int) : Prop := ∀ j, j < n → l.getD j false = false → lo ≤ D j ∧ D j ≤ hi
theorem nbF_in {W H : Nat} {l : List Bool} {D : Nat → Int} {x y dx dy : Int} (f : Nat) : ∀ d p, nbF W H l D x y dx dy f d = some p → ∃ j, j < W * H ∧ l.getD j false = false ∧ p.1 = D j := by
  induction f with
  | zero => intro d p h; simp [nbF] at h
  | succ f ih =>
    intro d p h
    unfold nbF at h
    by_cases hi : inB W H (x + d * dx) (y + d * dy) = true
    · rw [if_pos hi] at h
      by_cases hh : hasB W H l (x + d * dx) (y + d * dy) = true
      · rw [if_pos hh] at h
        exact ih (d + 1) p h
      · rw [if_neg hh] at h
        injection h with h
        subst h
        obtain ⟨a, b, ha, hb, hA, hB⟩ := of_inB hi
        have e : (((b : Int) * (W : Int)) + (a : Int)).toNat = b * W + a := by
          rw [show ((b : Int) * (W : Int) + (a : Int)) = ((b * W + a : Nat) : Int) by push_cast; rfl]; exact Int.toNat_natCast _
        refine ⟨b * W + a, idx_lt hA hB, ?_, ?_⟩
        · unfold hasB at hh
          rw [hi, Bool.true_and, ha, hb, e] at hh
          simpa using hh
        · show D _ = D _
          rw [ha, hb, e]
    · rw [if_neg hi] at h
      simp at h
theorem nbL_in {W H : Nat} {l : List Bool} {D : Nat → Int} {x y : Int} {p : Int × Nat} (hp : p ∈ nbL W H l D x y) : ∃ j, j < W * H ∧ l.getD j false = false ∧ p.1 = D j := by
  unfold nbL at hp
  simp only [List.mem_append, Option.mem_toList] at hp
  rcases hp with ((hp | hp) | hp) | hp <;> exact nbF_in _ _ _ hp
theorem sums_within {L : List (Int × Nat)} {lo hi : Int} (hw : ∀ p ∈ L, lo ≤ p.1 ∧ p.1 ≤ hi) (i : Nat) (hi' : i ≤ L.length) : lo * (sumW L i : Nat) ≤ sumA L i ∧ sumA L i ≤ hi * (sumW L i : Nat) := by
  induction i with
  | zero => simp [sumW, sumA]
  | succ i ih =>
    obtain ⟨a3, a4⟩ := ih (by omega)
    have hd : lo ≤ dcI L i ∧ dcI L i ≤ hi := by
      unfold dcI
      rw [show L.getD i (0, 1) = L[i]'(by omega) by simp [show i < L.length by omega]]
      exact hw _ (List.getElem_mem _)
    have m1 : lo * ((wP L i L.length : Nat) : Int) ≤ dcI L i * (wP L i L.length : Nat) := Int.mul_le_mul_of_nonneg_right hd.1 (by omega)
    have m2 : dcI L i * ((wP L i L.length : Nat) : Int) ≤ hi * (wP L i L.length : Nat) := Int.mul_le_mul_of_nonneg_right hd.2 (by omega)
    unfold sumW sumA
    push_cast
    rw [Int.mul_add, Int.mul_add]
    exact ⟨by omega, by omega⟩
theorem siP_within {L : List (Int × Nat)} (h : Nbs L) (hn : L ≠ []) {lo hi : Int} (hw : ∀ p ∈ L, lo ≤ p.1 ∧ p.1 ≤ hi) : lo ≤ siP L ∧ siP L ≤ hi := by
  have hl : 0 < L.length := List.length_pos_iff.2 hn
  obtain ⟨a1, _, _, _⟩ := sums_small h L.length (Nat.le_refl _)
  obtain ⟨a3, a4⟩ := sums_within hw L.length (Nat.le_refl _)
  exact nearI_bounds (by omega) a3 a4
theorem mn_within {n : Nat} {l : List Bool} {D : Nat → Int} {lo hi : Int} (hw : Within n l D lo hi) (i : Nat) (hi' : i ≤ n) : lo * (mnN l i : Int) ≤ mnS l D i ∧ mnS l D i ≤ hi * (mnN l i : Int) := by
  induction i with
  | zero => simp [mnN, mnS]
  | succ i ih =>
    obtain ⟨a, b⟩ := ih (by omega)
    cases hf : l.getD i false
    · have := hw i (by omega) hf
      rw [mnN, mnS, hf]
      simp only [Bool.false_eq_true, if_false]
      push_cast
      rw [Int.mul_add, Int.mul_add]
      omega
    · rw [mnN, mnS, hf]
      simp only [if_true]
      exact ⟨a, b⟩
theorem mnN_pos {l : List Bool} {j : Nat} (hf : l.getD j false = false) (n : Nat) (hj : j < n) : 0 < mnN l n := by
  induction n with
  | zero => omega
  | succ n ih =>
    by_cases h : j = n
    · subst h
      rw [mnN, hf]
      simp
    · have := ih (by omega)
      rw [mnN]
      split <;> omega
theorem mnN_zero {l : List Bool} (n : Nat) (h : ∀ j, j < n → l.getD j false = true) : mnN l n = 0 := by
  induction n with
  | zero => rfl
  | succ n ih =>
    rw [mnN, h n (by omega), if_pos rfl]
    exact ih (fun j hj => h j (by omega))
/-- between the least and the greatest -/
theorem stP_within {W H : Nat} (hW : W ≤ 8192) (hH : H ≤ 8192) {l : List Bool} {D : Nat → Int} (hD : ∀ i, -32768 ≤ D i ∧ D i ≤ 32767) {x y : Int} (hx : 0 ≤ x ∧ x < W) (hy : 0 ≤ y ∧ y < H) {lo hi : Int} (hw : Within (W * H) l D lo hi) {j : Nat} (hj : j < W * H) (hf : l.getD j false = false) :
    lo ≤ stP W H l D x y ∧ stP W H l D x y ≤ hi := by
  unfold stP
  split
  · obtain ⟨a, b⟩ := mn_within hw (W * H) (Nat.le_refl _)
    have := mnN_pos hf (W * H) hj
    unfold mnP
    rw [if_neg (by omega)]
    exact nearI_bounds (by omega) a b
  · rename_i hne
    refine siP_within (nbL_nbs hW hH hD hx hy) hne fun p hp => ?_
    obtain ⟨k, hk, hkf, e⟩ := nbL_in hp
    rw [e]
    exact hw k hk hkf
/-- nothing to be believed: 0 -/
theorem stP_zero {W H : Nat} {l : List Bool} {D : Nat → Int} {x y : Int} (h : ∀ j, j < W * H → l.getD j false = true) : stP W H l D x y = 0 := by
  unfold stP
  rw [if_pos ?_]
  · unfold mnP
    rw [if_pos (mnN_zero _ h)]
  · cases hL : nbL W H l D x y with
    | nil => rfl
    | cons p r =>
      obtain ⟨k, hk, hkf, _⟩ := nbL_in (W := W) (H := H) (l := l) (D := D) (x := x) (y := y) (p := p) (by rw [hL]; simp)
      rw [h k hk] at hkf
      cases hkf
/-- what DC tells of a place is the DC of Fill's block -/
theorem dcP_fl {W H : Nat} {l : List Bool} {bs : List (List Int)} {i : Nat} (h : i < W * H) : dcP W H l (dcs bs) ((i % W : Nat) : Int) ((i / W : Nat) : Int) = (flB W H l bs i).getD 0 0 := by
  obtain ⟨_, h1, h2, h3⟩ := idx_of h
  unfold dcP
  rw [if_pos (inB_nat h1 h2), hasB_idx h]
  cases hf : l.getD i false
  · rw [if_neg (by decide), flB_not hf]
    have : ((((i / W : Nat) : Int) * (W : Int) + ((i % W : Nat) : Int))).toNat = i := by
      rw [show ((((i / W : Nat) : Int) * (W : Int) + ((i % W : Nat) : Int))) = ((i / W * W + i % W : Nat) : Int) by push_cast; rfl, h3]
      exact Int.toNat_natCast _
    rw [this]
    rfl
  · rw [if_pos rfl, flB_yes hf]
    rfl
end Go.Proofs.Ytnepchdpgbdogaa.Ct
