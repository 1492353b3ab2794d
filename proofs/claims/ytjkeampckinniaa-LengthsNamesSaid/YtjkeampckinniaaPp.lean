/- Piles: rows of them, poured together: the plain law. -/
import Derived.Test.YtjkeampckinniaaMem
namespace Go.Proofs.Ytjkeampckinniaa.Ct
/-- one thing, or two piles poured together -/
inductive Pile where
  | one (w t : Nat)
  | two (l r : Pile)
instance : Inhabited Pile := ⟨.one 0 0⟩
def wt : Pile → Nat
  | .one w _ => w
  | .two l r => wt l + wt r
def leaves : Pile → List Nat
  | .one _ t => [t]
  | .two l r => leaves l ++ leaves r
def pairs : List Pile → List Pile
  | a :: b :: r => .two a b :: pairs r
  | _ => []
/-- what of s comes ahead of b -/
def pre (s : List Pile) (b : Pile) : List Pile := s.takeWhile fun x => decide (wt x ≤ wt b)
def post (s : List Pile) (b : Pile) : List Pile := s.dropWhile fun x => decide (wt x ≤ wt b)
def mrg (s : List Pile) : List Pile → List Pile
  | [] => s
  | b :: bs => pre s b ++ b :: mrg (post s b) bs
def rowN (s : List Pile) : Nat → List Pile
  | 0 => s
  | k + 1 => mrg s (pairs (rowN s k))
def bump (l : List Nat) (t : Nat) : List Nat := l.set t (l.getD t 0 + 1)
def addP (l : List Nat) (p : Pile) : List Nat := (leaves p).foldl bump l
def addAll (l : List Nat) (ps : List Pile) : List Nat := ps.foldl addP l
theorem bump_len (l : List Nat) (t : Nat) : (bump l t).length = l.length := by simp [bump]
theorem addP_len (p : Pile) : ∀ l, (addP l p).length = l.length := by
  unfold addP
  intro l
  generalize leaves p = ts
  induction ts generalizing l with
  | nil => rfl
  | cons t ts ih => rw [List.foldl_cons, ih, bump_len]
theorem addAll_len (ps : List Pile) : ∀ l, (addAll l ps).length = l.length := by
  unfold addAll
  induction ps with
  | nil => intro l; rfl
  | cons p ps ih => intro l; rw [List.foldl_cons, ih, addP_len]
theorem bump_get (l : List Nat) (t i : Nat) (ht : t < l.length) : (bump l t).getD i 0 = l.getD i 0 + if i = t then 1 else 0 := by
  unfold bump
  simp only [List.getD_eq_getElem?_getD]
  rw [List.getElem?_set]
  by_cases e : t = i
  · subst e
    rw [if_pos rfl, if_pos ht, if_pos rfl]
    rfl
  · rw [if_neg e, if_neg (fun h => e h.symm), Nat.add_zero]
theorem foldl_bump_get (ts : List Nat) : ∀ (l : List Nat) (i : Nat), (∀ t ∈ ts, t < l.length) → (ts.foldl bump l).getD i 0 = l.getD i 0 + ts.count i := by
  induction ts with
  | nil => intro l i _; simp
  | cons t ts ih =>
    intro l i h
    rw [List.foldl_cons, ih _ _ (fun x hx => by rw [bump_len]; exact h x (List.mem_cons_of_mem _ hx)), bump_get _ _ _ (h t List.mem_cons_self), List.count_cons]
    by_cases e : i = t
    · subst e; simp; omega
    · rw [if_neg e]
      have : ¬ (t == i) = true := by simp; exact fun h => e h.symm
      rw [if_neg this]
      omega
/-- leaves of all piles of a row -/
def leavesL (ps : List Pile) : List Nat := ps.flatMap leaves
theorem addAll_eq (ps : List Pile) (l : List Nat) : addAll l ps = (leavesL ps).foldl bump l := by
  induction ps generalizing l with
  | nil => rfl
  | cons p ps ih =>
    show addAll (addP l p) ps = _
    rw [ih]
    simp [leavesL, addP]
theorem leavesL_app (a b : List Pile) : leavesL (a ++ b) = leavesL a ++ leavesL b := by simp [leavesL]
def wtL (ps : List Pile) : Nat := (ps.map wt).sum
theorem wtL_app (a b : List Pile) : wtL (a ++ b) = wtL a + wtL b := by simp [wtL]
theorem wtL_perm {a b : List Pile} (h : a.Perm b) : wtL a = wtL b := (h.map wt).sum_nat
theorem leavesL_len_perm {a b : List Pile} (h : a.Perm b) : (leavesL a).length = (leavesL b).length := (h.flatMap_right leaves).length_eq
theorem pre_post (s : List Pile) (b : Pile) : pre s b ++ post s b = s := List.takeWhile_append_dropWhile
theorem mrg_perm (bs : List Pile) : ∀ s, (mrg s bs).Perm (s ++ bs) := by
  induction bs with
  | nil => intro s; unfold mrg; simp
  | cons b bs ih =>
    intro s
    unfold mrg
    refine ((List.Perm.refl (pre s b)).append ((ih (post s b)).cons b)).trans ?_
    conv => rhs; rw [← pre_post s b, List.append_assoc]
    exact (List.Perm.refl _).append (List.perm_middle.symm)
theorem pairs_le (ps : List Pile) : wtL (pairs ps) ≤ wtL ps ∧ (leavesL (pairs ps)).length ≤ (leavesL ps).length ∧ (pairs ps).length = ps.length / 2 := by
  fun_induction pairs ps with
  | case1 a b r ih =>
    have e1 : wtL (.two a b :: pairs r) = wt a + wt b + wtL (pairs r) := by simp [wtL, wt]
    have e2 : wtL (a :: b :: r) = wt a + (wt b + wtL r) := by simp [wtL]
    have e3 : (leavesL (.two a b :: pairs r)).length = (leaves a).length + (leaves b).length + (leavesL (pairs r)).length := by simp [leavesL, leaves]; omega
    have e4 : (leavesL (a :: b :: r)).length = (leaves a).length + ((leaves b).length + (leavesL r).length) := by simp [leavesL]
    rw [e1, e2, e3, e4, List.length_cons, List.length_cons, List.length_cons, ih.2.2]
    omega
  | case2 ps h =>
    refine ⟨by simp [wtL], by simp [leavesL], ?_⟩
    match ps, h with
    | [], _ => rfl
    | [a], _ => simp
    | a :: b :: r, h => exact absurd rfl (h a b r)
theorem row_bounds (s : List Pile) (k : Nat) : wtL (rowN s k) ≤ (k + 1) * wtL s ∧ (leavesL (rowN s k)).length ≤ (k + 1) * (leavesL s).length := by
  induction k with
  | zero => simp [rowN]
  | succ k ih =>
    have hp := mrg_perm (pairs (rowN s k)) s
    have h := pairs_le (rowN s k)
    unfold rowN
    rw [wtL_perm hp, leavesL_len_perm hp, wtL_app, leavesL_app, List.length_append, Nat.succ_mul (k + 1), Nat.succ_mul (k + 1)]
    omega
theorem row_len (s : List Pile) (k : Nat) : (rowN s (k + 1)).length = s.length + (rowN s k).length / 2 := by
  show (mrg s (pairs (rowN s k))).length = _
  rw [(mrg_perm _ s).length_eq, List.length_append, (pairs_le _).2.2]
theorem row_len_s (s : List Pile) (k : Nat) : s.length ≤ (rowN s k).length := by
  cases k with
  | zero => exact Nat.le_refl _
  | succ k => rw [row_len]; omega
/-- so many rows give piles enough -/
theorem row_enough (s : List Pile) : ∀ (k m : Nat), s.length ≤ 2 ^ (m + 1 + k) → 2 * s.length ≤ (rowN s k).length + 2 ^ (m + 1) := by
  intro k
  induction k with
  | zero => intro m h; rw [Nat.add_zero] at h; show 2 * s.length ≤ s.length + _; omega
  | succ k ih =>
    intro m h
    have := ih (m + 1) (by rw [show m + 1 + 1 + k = m + 1 + (k + 1) by omega]; exact h)
    rw [row_len]
    rw [Nat.pow_succ 2 (m + 1)] at this
    omega
theorem wt_le {ps : List Pile} {p : Pile} (h : p ∈ ps) : wt p ≤ wtL ps := by
  induction ps with
  | nil => cases h
  | cons q ps ih =>
    have e : wtL (q :: ps) = wt q + wtL ps := by simp [wtL]
    rcases List.mem_cons.1 h with rfl | h
    · omega
    · have := ih h; omega
end Go.Proofs.Ytjkeampckinniaa.Ct
