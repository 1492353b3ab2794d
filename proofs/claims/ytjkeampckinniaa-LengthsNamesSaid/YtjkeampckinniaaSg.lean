/- Single piles, sorted: the plain law. -/
import Derived.Test.YtjkeampckinniaaPm
namespace Go.Proofs.Ytjkeampckinniaa.Ct
open Go.ChangeShapes Go.WideShapes Go.RowKit Mm
/-- the order of single piles: weight, thing -/
def lePT (x y : Nat × Nat) : Prop := x.1 < y.1 ∨ (x.1 = y.1 ∧ y.2 ≤ x.2)
instance (x y : Nat × Nat) : Decidable (lePT x y) := by unfold lePT; infer_instance
def ltPT (x y : Nat × Nat) : Bool := decide (x.1 < y.1 ∨ (x.1 = y.1 ∧ y.2 < x.2))
/-- one more is put in its place -/
def ins (x : Nat × Nat) : List (Nat × Nat) → List (Nat × Nat)
  | [] => [x]
  | y :: l => if ltPT y x then y :: ins x l else x :: y :: l
def srt (l : List (Nat × Nat)) : List (Nat × Nat) := l.foldl (fun o x => ins x o) []
theorem ins_perm (x : Nat × Nat) (l : List (Nat × Nat)) : (ins x l).Perm (x :: l) := by
  induction l with
  | nil => exact List.Perm.refl _
  | cons y l ih =>
    unfold ins
    split
    · exact (ih.cons y).trans (List.Perm.swap x y l)
    · exact List.Perm.refl _
theorem srt_perm (l : List (Nat × Nat)) : (srt l).Perm l := by
  have : ∀ (l o : List (Nat × Nat)), (l.foldl (fun o x => ins x o) o).Perm (o ++ l) := by
    intro l
    induction l with
    | nil => intro o; simp
    | cons x l ih =>
      intro o
      rw [List.foldl_cons]
      refine (ih _).trans ?_
      exact ((ins_perm x o).append_right l).trans (List.perm_middle.symm)
  exact this l []
theorem ins_sorted (x : Nat × Nat) (l : List (Nat × Nat)) (h : l.Pairwise lePT) : (ins x l).Pairwise lePT := by
  induction l with
  | nil => exact List.pairwise_singleton _ _
  | cons y l ih =>
    obtain ⟨h1, h2⟩ := List.pairwise_cons.1 h
    unfold ins
    split
    · rename_i hlt
      have hlt := of_decide_eq_true hlt
      refine List.pairwise_cons.2 ⟨fun z hz => ?_, ih h2⟩
      rcases List.mem_cons.1 ((ins_perm x l).mem_iff.1 hz) with rfl | hz
      · unfold lePT; omega
      · exact h1 z hz
    · rename_i hlt
      have hlt : ¬ (y.1 < x.1 ∨ (y.1 = x.1 ∧ x.2 < y.2)) := fun h => hlt (decide_eq_true h)
      refine List.pairwise_cons.2 ⟨fun z hz => ?_, h⟩
      have hxy : lePT x y := by unfold lePT; omega
      rcases List.mem_cons.1 hz with rfl | hz
      · exact hxy
      · have := h1 z hz
        unfold lePT at *
        omega
theorem srt_sorted (l : List (Nat × Nat)) : (srt l).Pairwise lePT := by
  have : ∀ (l o : List (Nat × Nat)), o.Pairwise lePT → (l.foldl (fun o x => ins x o) o).Pairwise lePT := by
    intro l
    induction l with
    | nil => intro o h; exact h
    | cons x l ih => intro o h; exact ih _ (ins_sorted x o h)
  exact this l [] List.Pairwise.nil
theorem lePT_antisymm {x y : Nat × Nat} (h : lePT x y) (k : lePT y x) : x = y := by
  unfold lePT at *
  obtain ⟨a, b⟩ := x
  obtain ⟨c, d⟩ := y
  simp at *
  omega
theorem sorted_uniq : ∀ (a b : List (Nat × Nat)), a.Perm b → a.Pairwise lePT → b.Pairwise lePT → a = b := by
  intro a
  induction a with
  | nil => intro b h _ _; exact (List.Perm.nil_eq h)
  | cons x a ih =>
    intro b h ha hb
    cases b with
    | nil => exact absurd h.length_eq (by simp)
    | cons y b =>
      obtain ⟨a1, a2⟩ := List.pairwise_cons.1 ha
      obtain ⟨b1, b2⟩ := List.pairwise_cons.1 hb
      have e : x = y := by
        rcases List.mem_cons.1 (h.mem_iff.1 (List.mem_cons_self (a := x))) with e | hx
        · exact e
        rcases List.mem_cons.1 (h.mem_iff.2 (List.mem_cons_self (a := y))) with e | hy
        · exact e.symm
        exact lePT_antisymm (a1 y hy) (b1 x hx)
      subst e
      rw [ih b (List.Perm.cons_inv h) a2 b2]
/-- the single piles of things -/
def keyP (x : It) : Nat × Nat := (x.w, x.t)
def oneP (x : Nat × Nat) : Pile := .one x.1 x.2
def sgl (ts : List Nat) (cw : Nat → Nat) : List Pile := (srt (ts.map fun t => (cw t, t))).map oneP
theorem sgl_of {ts : List Nat} {cw : Nat → Nat} {its qs : List It} (h1 : its.map keyP = ts.map fun t => (cw t, t)) (hp : qs.Perm its) (hs : SrtI qs) : (qs.map keyP).map oneP = sgl ts cw := by
  unfold sgl
  congr 1
  refine sorted_uniq _ _ ?_ ?_ (srt_sorted _)
  · rw [← h1]
    exact (hp.map keyP).trans (srt_perm _).symm
  · unfold SrtI at hs
    rw [List.pairwise_map]
    exact hs.imp fun h => by unfold lePT keyP; simp at h ⊢; omega
theorem sgl_len (ts : List Nat) (cw : Nat → Nat) : (sgl ts cw).length = ts.length := by
  unfold sgl
  rw [List.length_map, (srt_perm _).length_eq, List.length_map]
theorem sgl_wt (ts : List Nat) (cw : Nat → Nat) : wtL (sgl ts cw) = (ts.map cw).sum := by
  unfold wtL sgl
  rw [List.map_map]
  have : (wt ∘ oneP) = fun x : Nat × Nat => x.1 := by funext x; rfl
  rw [this, ((srt_perm (ts.map fun t => (cw t, t))).map (fun x : Nat × Nat => x.1)).sum_nat, List.map_map]
  rfl
theorem sgl_leaves (ts : List Nat) (cw : Nat → Nat) : (leavesL (sgl ts cw)).Perm ts := by
  have h1 : ∀ l : List (Nat × Nat), leavesL (l.map oneP) = l.map fun x => x.2 := by
    intro l
    induction l with
    | nil => rfl
    | cons x l ih => show leaves (oneP x) ++ leavesL (l.map oneP) = _; rw [ih]; rfl
  unfold sgl
  rw [h1]
  refine ((srt_perm _).map _).trans ?_
  rw [List.map_map]
  conv => rhs; rw [← List.map_id ts]
  exact List.Perm.refl _
/-- what the rows give -/
def rowsP (ts : List Nat) (cw : Nat → Nat) (most limit : Nat) : List Nat :=
  if ts.length = 1 then (List.replicate most 0).set (ts.getD 0 0) 1
  else addAll (List.replicate most 0) ((rowN (sgl ts cw) (limit - 1)).take (2 * ts.length - 2))
theorem leaves_mem_row (s : List Pile) (k : Nat) : ∀ t, t ∈ leavesL (rowN s k) → t ∈ leavesL s := by
  induction k with
  | zero => intro t h; exact h
  | succ k ih =>
    intro t h
    unfold rowN at h
    have h2 : t ∈ leavesL (s ++ pairs (rowN s k)) := by
      obtain ⟨p, hp, ht⟩ := List.mem_flatMap.1 h
      exact List.mem_flatMap.2 ⟨p, (mrg_perm _ s).mem_iff.1 hp, ht⟩
    rw [leavesL_app] at h2
    rcases List.mem_append.1 h2 with h2 | h2
    · exact h2
    · apply ih
      generalize rowN s k = r at h2
      fun_induction pairs r with
      | case1 a b r ih2 =>
        have e : leavesL (.two a b :: pairs r) = leaves a ++ leaves b ++ leavesL (pairs r) := by simp [leavesL, leaves]
        have e2 : leavesL (a :: b :: r) = leaves a ++ (leaves b ++ leavesL r) := by simp [leavesL]
        rw [e] at h2
        rw [e2]
        simp only [List.mem_append] at h2 ⊢
        rcases h2 with (h2 | h2) | h2
        · exact .inl h2
        · exact .inr (.inl h2)
        · exact .inr (.inr (ih2 h2))
      | case2 r _ => simp [leavesL] at h2
end Go.Proofs.Ytjkeampckinniaa.Ct
