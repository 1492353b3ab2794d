/- What flagged blocks held does not matter: plain laws. -/
import Derived.Test.YtnepchdpgbdogaaQl
namespace Go.Proofs.Ytnepchdpgbdogaa.Ct
/-- two grids' DCs are alike where nothing is flagged -/
def Alike (n : Nat) (l : List Bool) (D D' : Nat → Int) : Prop := ∀ j, j < n → l.getD j false = false → D j = D' j
theorem nbF_alike {W H : Nat} {l : List Bool} {D D' : Nat → Int} (h : Alike (W * H) l D D') {x y dx dy : Int} (f : Nat) : ∀ d, nbF W H l D x y dx dy f d = nbF W H l D' x y dx dy f d := by
  induction f with
  | zero => intro d; rfl
  | succ f ih =>
    intro d
    unfold nbF
    by_cases hi : inB W H (x + d * dx) (y + d * dy) = true
    · rw [if_pos hi, if_pos hi]
      by_cases hh : hasB W H l (x + d * dx) (y + d * dy) = true
      · rw [if_pos hh, if_pos hh]
        exact ih (d + 1)
      · rw [if_neg hh, if_neg hh]
        obtain ⟨a, b, ha, hb, hA, hB⟩ := of_inB hi
        have e : (((b : Int) * (W : Int)) + (a : Int)).toNat = b * W + a := by
          rw [show ((b : Int) * (W : Int) + (a : Int)) = ((b * W + a : Nat) : Int) by push_cast; rfl]; exact Int.toNat_natCast _
        rw [ha, hb, e]
        rw [h (b * W + a) (idx_lt hA hB) (by
          unfold hasB at hh
          rw [hi, Bool.true_and, ha, hb, e] at hh
          simpa using hh)]
    · rw [if_neg hi, if_neg hi]
theorem nbL_alike {W H : Nat} {l : List Bool} {D D' : Nat → Int} (h : Alike (W * H) l D D') (x y : Int) : nbL W H l D x y = nbL W H l D' x y := by
  unfold nbL nb
  simp only [nbF_alike h]
theorem mnS_alike {n : Nat} {l : List Bool} {D D' : Nat → Int} (h : Alike n l D D') (i : Nat) (hi : i ≤ n) : mnS l D i = mnS l D' i := by
  induction i with
  | zero => rfl
  | succ i ih =>
    unfold mnS
    cases hf : l.getD i false
    · simp only [Bool.false_eq_true, if_false]
      rw [ih (by omega), h i (by omega) hf]
    · simp only [if_true]
      exact ih (by omega)
theorem mnP_alike {n : Nat} {l : List Bool} {D D' : Nat → Int} (h : Alike n l D D') : mnP l D n = mnP l D' n := by
  unfold mnP
  rw [mnS_alike h n (Nat.le_refl _)]
theorem stP_alike {W H : Nat} {l : List Bool} {D D' : Nat → Int} (h : Alike (W * H) l D D') (x y : Int) : stP W H l D x y = stP W H l D' x y := by
  unfold stP
  rw [nbL_alike h, mnP_alike h]
theorem flL_alike {W H : Nat} {l : List Bool} {bs bs' : List (List Int)} (hl : bs.length = W * H) (hl' : bs'.length = W * H) (h : ∀ j, j < W * H → l.getD j false = false → bs'.getD j [] = bs.getD j []) : flL W H l bs' = flL W H l bs := by
  have ha : Alike (W * H) l (dcs bs') (dcs bs) := fun j hj hf => by unfold dcs; rw [h j hj hf]
  unfold flL
  rw [hl, hl']
  refine List.map_congr_left fun i hi => ?_
  have hi : i < W * H := List.mem_range.1 hi
  unfold flB
  cases hf : l.getD i false
  · simp only [Bool.false_eq_true, if_false]
    exact h i hi hf
  · simp only [if_true]
    rw [stP_alike ha]
/-- filled once more, nothing changes -/
theorem flL_again {W H : Nat} {l : List Bool} {bs : List (List Int)} (hl : bs.length = W * H) : flL W H l (flL W H l bs) = flL W H l bs :=
  flL_alike hl (by rw [flL_len, hl]) fun j hj hf => by rw [flL_get W H l bs j (by omega), flB_not hf]
/-- the grid with other blocks in the place of the first n flagged ones -/
def othL (l : List Bool) (os bs : List (List Int)) (n : Nat) : List (List Int) := (List.range bs.length).map fun j => if j < n ∧ l.getD j false = true ∧ 0 < os.length then os.getD (j % os.length) [] else bs.getD j []
theorem othL_len (l : List Bool) (os bs : List (List Int)) (n : Nat) : (othL l os bs n).length = bs.length := by simp [othL]
theorem othL_get (l : List Bool) (os bs : List (List Int)) (n j : Nat) (hj : j < bs.length) : (othL l os bs n).getD j [] = if j < n ∧ l.getD j false = true ∧ 0 < os.length then os.getD (j % os.length) [] else bs.getD j [] := by simp [othL, hj]
theorem othL_zero (l : List Bool) (os bs : List (List Int)) : othL l os bs 0 = bs := by
  refine List.ext_getElem (by rw [othL_len]) fun j h1 h2 => ?_
  simp [othL, List.getD, h2]
theorem othL_bls {l : List Bool} {os bs : List (List Int)} (ho : Bls os) (hb : Bls bs) (n : Nat) : Bls (othL l os bs n) := by
  intro b hm
  obtain ⟨j, hj, rfl⟩ := List.mem_map.1 hm
  have hj := List.mem_range.1 hj
  split
  · rename_i h
    have hk := Nat.mod_lt j h.2.2
    have e : os.getD (j % os.length) [] = os[j % os.length] := by simp [hk]
    rw [e]
    exact ho _ (List.getElem_mem _)
  · have e : bs.getD j [] = bs[j] := by simp [hj]
    rw [e]
    exact hb _ (List.getElem_mem _)
theorem flL_oth {W H : Nat} {l : List Bool} {os bs : List (List Int)} (hl : bs.length = W * H) (n : Nat) : flL W H l (othL l os bs n) = flL W H l bs :=
  flL_alike hl (by rw [othL_len, hl]) fun j hj hf => by rw [othL_get l os bs n j (by omega), if_neg (by rw [hf]; simp)]
/-- a place that keeps its block -/
theorem othL_keep {l : List Bool} {os bs : List (List Int)} {n : Nat} (h : ¬ (l.getD n false = true ∧ 0 < os.length)) : othL l os bs (n + 1) = othL l os bs n := by
  unfold othL
  refine List.map_congr_left fun j _ => ?_
  by_cases hj : j = n
  · subst hj
    rw [if_neg (fun h' => h h'.2), if_neg (fun h' => h h'.2)]
  · have : (j < n + 1) = (j < n) := by simp; omega
    simp only [this]
/-- a place that gets another block -/
theorem othL_set {l : List Bool} {os bs : List (List Int)} {n : Nat} (hf : l.getD n false = true) (h0 : 0 < os.length) : othL l os bs (n + 1) = (othL l os bs n).set n (os.getD (n % os.length) []) := by
  refine List.ext_getElem (by rw [List.length_set, othL_len, othL_len]) fun j h1 h2 => ?_
  have key : ∀ k (h : j < (othL l os bs k).length), (othL l os bs k)[j] = if j < k ∧ l.getD j false = true ∧ 0 < os.length then os.getD (j % os.length) [] else bs.getD j [] := fun k h => by simp [othL]
  rw [List.getElem_set, key]
  by_cases hj : n = j
  · subst hj
    rw [if_pos rfl, if_pos ⟨by omega, hf, h0⟩]
  · rw [if_neg hj, key]
    have : (j < n + 1) = (j < n) := by simp; omega
    simp only [this]
end Go.Proofs.Ytnepchdpgbdogaa.Ct
