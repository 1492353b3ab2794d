/- Piles: a row, step by step; rows in memory. -/
import Derived.Test.YtjkeampckinniaaSo
namespace Go.Proofs.Ytjkeampckinniaa.Ct
open Go.ChangeShapes Go.WideShapes Go.RowKit Mm
/-- what is there so far, and what is left of the single ones -/
def mg (st : List Pile × List Pile) (b : Pile) : List Pile × List Pile := (st.1 ++ pre st.2 b ++ [b], post st.2 b)
theorem mrg_fold (bs : List Pile) : ∀ (o s : List Pile), o ++ mrg s bs = (bs.foldl mg (o, s)).1 ++ (bs.foldl mg (o, s)).2 := by
  induction bs with
  | nil => intro o s; rfl
  | cons b bs ih =>
    intro o s
    rw [List.foldl_cons, show mg (o, s) b = (o ++ pre s b ++ [b], post s b) from rfl, ← ih]
    show o ++ (pre s b ++ b :: mrg (post s b) bs) = _
    simp
def mgTo (s bs : List Pile) (m : Nat) : List Pile × List Pile := (bs.take m).foldl mg ([], s)
theorem mgTo_succ {s bs : List Pile} {m : Nat} (h : m < bs.length) : mgTo s bs (m + 1) = mg (mgTo s bs m) bs[m] := by
  unfold mgTo
  rw [List.take_succ_eq_append_getElem h, List.foldl_append]
  rfl
theorem mgTo_all (s bs : List Pile) : mrg s bs = (mgTo s bs bs.length).1 ++ (mgTo s bs bs.length).2 := by
  have := mrg_fold bs [] s
  unfold mgTo
  rw [List.take_length]
  exact this
theorem post_drop (s : List Pile) (b : Pile) : post s b = s.drop (pre s b).length := by
  conv => rhs; arg 2; rw [← pre_post s b]
  rw [List.drop_left]
/-- what is left is the end of the row -/
theorem mgTo_suffix (s bs : List Pile) (m : Nat) : ∃ j, j ≤ s.length ∧ (mgTo s bs m).2 = s.drop j := by
  induction m with
  | zero => exact ⟨0, by omega, by simp [mgTo]⟩
  | succ m ih =>
    by_cases h : m < bs.length
    · obtain ⟨j, hj, e⟩ := ih
      rw [mgTo_succ h]
      refine ⟨min s.length (j + (pre (mgTo s bs m).2 bs[m]).length), by omega, ?_⟩
      show post (mgTo s bs m).2 bs[m] = _
      rw [post_drop, e, List.drop_drop]
      rcases Nat.le_total (j + (pre (List.drop j s) bs[m]).length) s.length with h1 | h1
      · rw [Nat.min_eq_right h1]
      · rw [Nat.min_eq_left h1, List.drop_eq_nil_of_le h1, List.drop_length]
    · have e : mgTo s bs (m + 1) = mgTo s bs m := by
        unfold mgTo
        rw [List.take_of_length_le (by omega), List.take_of_length_le (by omega)]
      rw [e]
      exact ih
theorem mgTo_len (s bs : List Pile) : ∀ m, m ≤ bs.length → (mgTo s bs m).1.length + (mgTo s bs m).2.length = s.length + m := by
  intro m
  induction m with
  | zero => intro _; simp [mgTo]
  | succ m ih =>
    intro h
    have h1 := ih (by omega)
    rw [mgTo_succ (show m < bs.length by omega)]
    show ((mgTo s bs m).1 ++ pre (mgTo s bs m).2 bs[m] ++ [bs[m]]).length + (post (mgTo s bs m).2 bs[m]).length = _
    have h2 := congrArg List.length (pre_post (mgTo s bs m).2 bs[m])
    rw [List.length_append] at h2
    simp only [List.length_append, List.length_cons, List.length_nil]
    omega
theorem pairs_get : ∀ (ps : List Pile) (m : Nat), 2 * m + 1 < ps.length → (pairs ps)[m]? = (ps[2 * m]?).bind fun a => (ps[2 * m + 1]?).map fun b => .two a b := by
  intro ps
  fun_induction pairs ps with
  | case1 a b r ih =>
    intro m h
    cases m with
    | zero => simp
    | succ m =>
      have := ih m (by simp at h; omega)
      rw [show 2 * (m + 1) = 2 * m + 1 + 1 by omega]
      simpa using this
  | case2 ps h =>
    intro m hm
    match ps, h with
    | [], _ => simp at hm
    | [a], _ => simp at hm
    | a :: b :: r, h => exact absurd rfl (h a b r)
/-! ### a row in memory -/
def gC (gs : List Nat) : List Value := gs.map P
theorem gC_len (gs : List Nat) : (gC gs).length = gs.length := by simp [gC]
theorem gC_get {gs : List Nat} {i : Nat} (h : i < gs.length) : (gC gs)[i]? = some (P gs[i]) := by simp [gC, h]
theorem gC_app (a b : List Nat) : gC (a ++ b) = gC a ++ gC b := by simp [gC]
theorem gC_one (gs : List Nat) : ∀ u ∈ gC gs, u.oneCell' = true := by
  intro u hu
  obtain ⟨g, _, rfl⟩ := List.mem_map.1 hu
  rfl
inductive RowAt (w : World) : List Pile → List Nat → Prop
  | nil : RowAt w [] []
  | cons {p g ps gs} : PAt w p g → RowAt w ps gs → RowAt w (p :: ps) (g :: gs)
section
variable {w w' : World} {ps qs : List Pile} {gs hs : List Nat}
theorem RowAt.len (h : RowAt w ps gs) : ps.length = gs.length := by
  induction h with
  | nil => rfl
  | cons _ _ ih => simp [ih]
theorem RowAt.get (h : RowAt w ps gs) : ∀ (i : Nat) (h1 : i < ps.length) (h2 : i < gs.length), PAt w ps[i] gs[i] := by
  induction h with
  | nil => intro i h1; simp at h1
  | cons hp _ ih =>
    intro i h1 h2
    cases i with
    | zero => exact hp
    | succ i => exact ih i (by simpa using h1) (by simpa using h2)
theorem RowAt.map (h : RowAt w ps gs) (hf : ∀ p g, PAt w p g → PAt w' p g) : RowAt w' ps gs := by
  induction h with
  | nil => exact .nil
  | cons hp _ ih => exact .cons (hf _ _ hp) ih
theorem RowAt.app (h : RowAt w ps gs) (k : RowAt w qs hs) : RowAt w (ps ++ qs) (gs ++ hs) := by
  induction h with
  | nil => exact k
  | cons hp _ ih => exact .cons hp ih
theorem RowAt.drop (h : RowAt w ps gs) (j : Nat) : RowAt w (ps.drop j) (gs.drop j) := by
  induction h generalizing j with
  | nil => simp; exact .nil
  | cons hp h ih =>
    cases j with
    | zero => exact .cons hp h
    | succ j => exact ih j
theorem RowAt.take (h : RowAt w ps gs) (j : Nat) : RowAt w (ps.take j) (gs.take j) := by
  induction h generalizing j with
  | nil => simp; exact .nil
  | cons hp h ih =>
    cases j with
    | zero => exact .nil
    | succ j => exact .cons hp (ih j)
end
end Go.Proofs.Ytjkeampckinniaa.Ct
