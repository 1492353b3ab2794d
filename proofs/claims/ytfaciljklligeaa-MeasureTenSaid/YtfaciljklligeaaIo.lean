/- Lists in order: one more put in. -/
import Derived.Test.YtfaciljklligeaaLs
namespace Go.Proofs.Ytfaciljklligeaa.Ct
open Go.ChangeShapes Go.WideShapes Go.RowKit Mm
def Sorted (l : List Nat) : Prop := l.Pairwise fun a b => key a ≤ key b
def ins (ms : List Nat) (k x : Nat) : List Nat := ms.take k ++ x :: ms.drop k
theorem ins_perm (ms : List Nat) (k x : Nat) : (ins ms k x).Perm (ms ++ [x]) := by
  unfold ins
  have h1 : (ms.take k ++ x :: ms.drop k).Perm (x :: (ms.take k ++ ms.drop k)) := List.perm_middle
  rw [List.take_append_drop] at h1
  exact h1.trans (List.perm_append_singleton x ms).symm
theorem ins_length (ms : List Nat) (k x : Nat) : (ins ms k x).length = ms.length + 1 := by
  have := (ins_perm ms k x).length_eq
  simpa using this
theorem sorted_le {ms : List Nat} (h : Sorted ms) {i j : Nat} (hij : i < j) (hj : j < ms.length) : key (ms.getD i 0) ≤ key (ms.getD j 0) := by
  have := List.pairwise_iff_getElem.1 h i j (by omega) hj hij
  rw [show ms.getD i 0 = ms[i]'(by omega) by simp [show i < ms.length by omega], show ms.getD j 0 = ms[j] by simp [hj]]
  exact this
theorem ins_sorted {ms : List Nat} (h : Sorted ms) {k x : Nat} (hk : k ≤ ms.length) (h1 : ∀ e ∈ ms.drop k, key x < key e) (h2 : k = 0 ∨ ¬ key x < key (ms.getD (k - 1) 0)) : Sorted (ins ms k x) := by
  unfold Sorted ins
  rw [List.pairwise_append]
  refine ⟨h.sublist (List.take_sublist k ms), List.pairwise_cons.2 ⟨fun e he => Int.le_of_lt (h1 e he), h.sublist (List.drop_sublist k ms)⟩, ?_⟩
  intro a ha b hb
  obtain ⟨i, hi, rfl⟩ := List.mem_iff_getElem.1 ha
  have hik : i < k := by simp at hi; omega
  rw [List.getElem_take]
  have ha' : ms[i]'(by omega) = ms.getD i 0 := by simp [show i < ms.length by omega]
  have hax : key (ms.getD i 0) ≤ key x := by
    rcases h2 with h2 | h2
    · omega
    · by_cases e : i = k - 1
      · subst e; omega
      · have := sorted_le h (show i < k - 1 by omega) (by omega)
        omega
  rw [ha']
  rcases List.mem_cons.1 hb with rfl | hb
  · exact hax
  · have := h1 b hb
    omega
/-- one step down -/
theorem ins_set (ms : List Nat) (k z : Nat) (h0 : 0 < k) (hk : k ≤ ms.length) : (ins ms k z).set k (ms.getD (k - 1) 0) = ins ms (k - 1) (ms.getD (k - 1) 0) := by
  unfold ins
  have hl : (ms.take k).length = k := by simp; omega
  rw [List.set_append_right _ _ (by omega), hl, Nat.sub_self, List.set_cons_zero]
  obtain ⟨j, rfl⟩ : ∃ j, k = j + 1 := ⟨k - 1, by omega⟩
  have hj : j < ms.length := by omega
  rw [Nat.add_sub_cancel, List.take_succ_eq_append_getElem hj, List.drop_eq_getElem_cons hj, List.append_assoc, show ms.getD j 0 = ms[j] by simp [hj]]
  rfl
theorem ins_put (ms : List Nat) (k z x : Nat) (hk : k ≤ ms.length) : (ins ms k z).set k x = ins ms k x := by
  unfold ins
  have hl : (ms.take k).length = k := by simp; omega
  rw [List.set_append_right _ _ (by omega), hl, Nat.sub_self, List.set_cons_zero]
theorem ins_last (ms : List Nat) (x : Nat) : ins ms ms.length x = ms ++ [x] := by unfold ins; simp
theorem ins_below (ms : List Nat) (k z i : Nat) (hi : i < k) (hk : k ≤ ms.length) : (ins ms k z).getD i 0 = ms.getD i 0 := by
  unfold ins
  have h1 : i < (ms.take k).length := by simp; omega
  rw [List.getD_eq_getElem?_getD, List.getD_eq_getElem?_getD, List.getElem?_append_left h1, List.getElem?_take, if_pos hi]
theorem ins_at (ms : List Nat) (k z : Nat) (hk : k ≤ ms.length) : (ins ms k z).getD k 0 = z := by
  unfold ins
  have hl : (ms.take k).length = k := by simp; omega
  rw [List.getD_eq_getElem?_getD, List.getElem?_append_right (by omega), hl, Nat.sub_self]
  rfl
theorem drop_more {ms : List Nat} {k x : Nat} (h0 : 0 < k) (hk : k ≤ ms.length) (h1 : ∀ e ∈ ms.drop k, key x < key e) (h2 : key x < key (ms.getD (k - 1) 0)) : ∀ e ∈ ms.drop (k - 1), key x < key e := by
  obtain ⟨j, rfl⟩ : ∃ j, k = j + 1 := ⟨k - 1, by omega⟩
  have hj : j < ms.length := by omega
  rw [Nat.add_sub_cancel] at h2 ⊢
  rw [List.drop_eq_getElem_cons hj]
  intro e he
  rcases List.mem_cons.1 he with rfl | he
  · rw [show ms.getD j 0 = ms[j] by simp [hj]] at h2; exact h2
  · exact h1 e he
theorem flC_set (l : List Nat) (k x : Nat) : (flC l).set k (.float .f64 x) = flC (l.set k x) := by unfold flC; rw [List.map_set]
/-- in order, and of the same things: the same places -/
theorem sorted_keys {a b : List Nat} (ha : Sorted a) (hb : Sorted b) (h : a.Perm b) : a.map key = b.map key := by
  refine List.Perm.eq_of_pairwise (le := fun x y : Int => x ≤ y) ?_ ?_ ?_ (h.map key)
  · intro x y _ _ h1 h2; omega
  · exact List.pairwise_map.2 ha
  · exact List.pairwise_map.2 hb
end Go.Proofs.Ytfaciljklligeaa.Ct
