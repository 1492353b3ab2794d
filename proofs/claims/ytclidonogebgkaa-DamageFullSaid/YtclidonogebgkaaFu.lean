/- The greatest maps: the plain law. -/
import Derived.Test.YtclidonogebgkaaCw
namespace Go.Proofs.Ytclidonogebgkaa.Ct
open Go.ChangeShapes Go.WideShapes Go.RowKit Mm
def lnH : Ln := ⟨[35], by decide⟩
def lnD : Ln := ⟨[46], by decide⟩
def lnX : Ln := ⟨[120], by decide⟩
def manyL (n : Nat) : List Ln := List.replicate n lnH
theorem many_succ (n : Nat) : manyL (n + 1) = manyL n ++ [lnH] := by unfold manyL; rw [List.replicate_succ']
theorem rep_succ (n : Nat) (b : Bool) : List.replicate (n + 1) b = List.replicate n b ++ [b] := List.replicate_succ'
theorem read_many (n : Nat) : rdL (manyL (n + 1)) = some ⟨1, n + 1, List.replicate (n + 1) true⟩ := by
  induction n with
  | zero => rfl
  | succ n ih =>
    rw [many_succ, rdL_snoc, ih, rep_succ (n + 1)]
    show rd1 _ _ = _
    unfold rd1
    rw [if_neg (by simp [lnH]), if_pos (by decide)]
    rfl
theorem read_dot (n : Nat) : rdL (manyL (n + 1) ++ [lnD]) = some ⟨1, n + 2, List.replicate (n + 1) true ++ [false]⟩ := by
  rw [rdL_snoc, read_many]
  show rd1 _ _ = _
  unfold rd1
  rw [if_neg (by simp [lnD]), if_pos (by decide)]
  rfl
theorem read_ex (n : Nat) : rdL (manyL (n + 1) ++ [lnX]) = none := by
  rw [rdL_snoc, read_many]
  show rd1 _ _ = _
  unfold rd1
  rw [if_neg (by simp [lnX]), if_neg (by decide)]
theorem many10 (n : Nat) : ∀ x ∈ manyL n, (10 : UInt8) ∉ x.1 := by
  intro x hx
  rw [List.eq_of_mem_replicate hx]
  decide
theorem flat_many (n : Nat) : flat (manyL (n + 1)) = flat (manyL n) ++ [35, 10] := by
  rw [many_succ]
  simp [flat, lnH]
theorem flat_many_len (n : Nat) : (flat (manyL n)).length = 2 * n := by
  induction n with
  | zero => rfl
  | succ n ih => rw [flat_many, List.length_append, ih]; simp; omega
/-! ### one rectangle -/
theorem hig_full {H : Nat} : ∀ (f b : Nat) (r : List Bool), b + f = H → r.length = H → (∀ i, b ≤ i → i < H → r.getD i false = true) → (hig 1 H 0 0 1 r f b).2 = H := by
  intro f
  induction f with
  | zero => intro b r h _ _; unfold hig; exact h
  | succ f ih =>
    intro b r h hl hr
    have hb : b < r.length := by omega
    have h1 := hr b (Nat.le_refl _) (by omega)
    have hk : (0 + b) * 1 + 0 + 1 ≤ r.length := by omega
    unfold hig
    rw [if_pos]
    · refine ih (b + 1) _ (by omega) (by rw [fillL_len hk, hl]) fun i h2 h3 => ?_
      rw [fillL_get hk, if_neg (by omega)]
      exact hr i (by omega) h3
    · refine ⟨by omega, ?_⟩
      unfold okR
      rw [show (0 + b) * 1 + 0 = b by omega, List.all_eq_true]
      intro v hv
      obtain ⟨j, hj, rfl⟩ := List.mem_iff_getElem.1 hv
      have hj0 : j = 0 := by simp at hj; omega
      subst hj0
      rw [List.getElem_take, List.getElem_drop]
      rw [List.getD_eq_getElem?_getD, List.getElem?_eq_getElem hb] at h1
      simpa using h1
theorem stp_false {W H : Nat} : ∀ (ys : List Nat) (st : List Bool × List Bx), (∀ i, st.1.getD i false = false) → ys.foldl (stp W H) st = st := by
  intro ys
  induction ys with
  | nil => intro st _; rfl
  | cons y ys ih =>
    intro st h
    rw [List.foldl_cons]
    have : stp W H st y = st := by
      unfold stp
      rw [if_neg (by rw [h y]; simp)]
    rw [this]
    exact ih st h
theorem upF_all (n : Nat) : ∀ k, k ≤ n → (upF (List.replicate n true) k).map (·.1) = List.range k := by
  intro k
  induction k with
  | zero => intro _; rfl
  | succ k ih =>
    intro hk
    rw [upF_succ _ (show k < (List.replicate n true).length by simp; omega), if_pos (by simp [show k < n by omega]), List.map_append, ih (by omega), List.range_succ]
    rfl
theorem one_box (n : Nat) : (bxs 1 (n + 1) (List.replicate (n + 1) true) ((upF (List.replicate (n + 1) true) (List.replicate (n + 1) true).length).map (·.1))).2 = [⟨0, 0, 1, n + 1⟩] := by
  rw [upF_all (n + 1) _ (by simp), List.length_replicate, List.range_succ_eq_map]
  unfold bxs
  rw [List.foldl_cons]
  have hl : (List.replicate (n + 1) true).length = 1 * (n + 1) := by simp
  have hg : ∀ i, i < n + 1 → (List.replicate (n + 1) true).getD i false = true := fun i hi => by simp [hi]
  generalize hr : List.replicate (n + 1) true = r at *
  have hB : hasB 1 (n + 1) r ((0 : Nat) : Int) ((0 : Nat) : Int) = true := by rw [hasB_nat (by omega) (by omega)]; exact hg 0 (by omega)
  have hw : wid r 1 (n + 1) 0 0 1 0 = 1 := by
    unfold wid
    rw [if_pos (by simpa using hB)]
    rfl
  have hs : stp 1 (n + 1) (r, []) 0 = ((hig 1 (n + 1) 0 0 1 r (n + 1) 0).1, [⟨0, 0, 1, (hig 1 (n + 1) 0 0 1 r (n + 1) 0).2⟩]) := by
    unfold stp
    rw [if_pos (hg 0 (by omega))]
    simp only [Nat.zero_mod, Nat.zero_div, hw, List.nil_append]
  have h2 := hig_full (H := n + 1) (n + 1) 0 r (by omega) (by rw [hl]; omega) (fun i _ hi => hg i hi)
  obtain ⟨_, _, h3, _, h5⟩ := hig_spec (W := 1) (H := n + 1) (x := 0) (y := 0) (a := 1) (by omega) (by omega) (n + 1) r 0 hl (by omega)
  rw [hs, stp_false]
  · rw [h2]
  · intro i
    show (hig 1 (n + 1) 0 0 1 r (n + 1) 0).1.getD i false = false
    rw [h5 i, h2]
    by_cases hi : i < n + 1
    · rw [if_pos (by simp [Nat.div_one]; omega)]
    · rw [if_neg (by simp [Nat.div_one]; omega)]
      rw [List.getD_eq_getElem?_getD, List.getElem?_eq_none (by rw [hl]; omega)]
      rfl
end Go.Proofs.Ytclidonogebgkaa.Ct
