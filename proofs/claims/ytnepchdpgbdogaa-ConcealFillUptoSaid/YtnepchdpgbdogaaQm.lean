/- The least and the greatest of what is to be believed. -/
import Derived.Test.YtnepchdpgbdogaaQl
namespace Go.Proofs.Ytnepchdpgbdogaa.Ct
/-- the least and the greatest so far -/
def lsP (l : List Bool) (D : Nat → Int) : Nat → Int
  | 0 => 32768
  | i + 1 => if l.getD i false then lsP l D i else min (lsP l D i) (D i)
def msP (l : List Bool) (D : Nat → Int) : Nat → Int
  | 0 => -32769
  | i + 1 => if l.getD i false then msP l D i else max (msP l D i) (D i)
theorem ls_bounds {l : List Bool} {D : Nat → Int} (hD : ∀ i, -32768 ≤ D i ∧ D i ≤ 32767) (i : Nat) : -32768 ≤ lsP l D i ∧ lsP l D i ≤ 32768 ∧ -32769 ≤ msP l D i ∧ msP l D i ≤ 32767 := by
  induction i with
  | zero => simp [lsP, msP]
  | succ i ih =>
    have := hD i
    unfold lsP msP
    split <;> omega
theorem ls_within (l : List Bool) (D : Nat → Int) (n : Nat) : Within n l D (lsP l D n) (msP l D n) := by
  induction n with
  | zero => intro j hj; omega
  | succ n ih =>
    intro j hj hf
    unfold lsP msP
    by_cases hjn : j = n
    · subst hjn
      rw [hf]
      simp only [Bool.false_eq_true, if_false]
      omega
    · have := ih j (by omega) hf
      split <;> omega
theorem ls_some {l : List Bool} {D : Nat → Int} {n : Nat} (h : lsP l D n ≤ msP l D n) : ∃ j, j < n ∧ l.getD j false = false := by
  induction n with
  | zero => simp [lsP, msP] at h
  | succ n ih =>
    cases hf : l.getD n false
    · exact ⟨n, by omega, hf⟩
    · unfold lsP msP at h
      rw [hf] at h
      obtain ⟨j, hj, e⟩ := ih h
      exact ⟨j, by omega, e⟩
theorem ls_none {l : List Bool} {D : Nat → Int} {n : Nat} (h : ¬ lsP l D n ≤ msP l D n) : ∀ j, j < n → l.getD j false = true := by
  intro j hj
  cases hf : l.getD j false
  · have := ls_within l D n j hj hf
    omega
  · rfl
end Go.Proofs.Ytnepchdpgbdogaa.Ct
