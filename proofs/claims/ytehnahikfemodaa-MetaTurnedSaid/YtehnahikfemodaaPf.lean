/- A profile's pieces: the plain law. -/
set_option linter.unusedVariables false
namespace Go.Proofs.Ytehnahikfemodaa.Pf
variable {α : Type} (num cnt : α → Int) (txt : α → ByteArray)
/-- the count that the last one names; 0: there is none -/
def lastC (p : List α) : Int := (p.getLast?.map cnt).getD 0
def Pw (p : List α) : Prop := p.Pairwise fun a b => num a ≠ num b ∧ cnt a = cnt b
/-- the pieces make a profile -/
def Good (p : List α) : Prop := Pw num cnt p ∧ lastC cnt p = p.length ∧ ∀ k : Nat, 1 ≤ k → k ≤ p.length → ∃ x ∈ p, num x = k
/-- the text of the piece of a number -/
def tx (p : List α) (k : Int) : ByteArray := ((p.find? fun x => num x == k).map txt).getD ByteArray.empty
/-- the texts of the first k numbers -/
def cat (p : List α) : Nat → ByteArray
  | 0 => ByteArray.empty
  | k + 1 => cat p k ++ tx num txt p (k + 1 : Nat)
theorem lastC_snoc (p : List α) (x : α) : lastC cnt (p ++ [x]) = cnt x := by simp [lastC]
theorem lastC_nil : lastC cnt ([] : List α) = 0 := rfl
theorem Pw_nil : Pw num cnt ([] : List α) := List.Pairwise.nil
theorem Pw_snoc (p : List α) (x : α) : Pw num cnt (p ++ [x]) ↔ Pw num cnt p ∧ ∀ a ∈ p, num a ≠ num x ∧ cnt a = cnt x := by
  unfold Pw
  rw [List.pairwise_append]
  simp
theorem Pw_take {p : List α} (h : Pw num cnt p) (q r : List α) (e : p = q ++ r) : Pw num cnt q := by
  subst e
  unfold Pw at h ⊢
  rw [List.pairwise_append] at h
  exact h.1
/-- all have the last one's count -/
theorem Pw_last {p : List α} (h : Pw num cnt p) : ∀ a ∈ p, cnt a = lastC cnt p := by
  rcases List.eq_nil_or_concat p with rfl | ⟨q, x, rfl⟩
  · simp
  · intro a ha
    rw [List.concat_eq_append] at h ha ⊢
    rw [lastC_snoc]
    rw [Pw_snoc] at h
    rcases List.mem_append.1 ha with h1 | h1
    · exact (h.2 a h1).2
    · rw [List.mem_singleton.1 h1]
/-- one more -/
theorem Pw_more {p : List α} (h : Pw num cnt p) (x : α) (h1 : ∀ a ∈ p, num a ≠ num x) (h2 : p = [] ∨ cnt x = lastC cnt p) : Pw num cnt (p ++ [x]) := by
  rw [Pw_snoc]
  refine ⟨h, fun a ha => ⟨h1 a ha, ?_⟩⟩
  rcases h2 with rfl | h2
  · simp at ha
  · rw [h2]; exact Pw_last num cnt h a ha
theorem Pw_fall {p : List α} (x : α) (h : Pw num cnt (p ++ [x])) : (∀ a ∈ p, num a ≠ num x) ∧ (p = [] ∨ cnt x = lastC cnt p) := by
  rw [Pw_snoc] at h
  refine ⟨fun a ha => (h.2 a ha).1, ?_⟩
  rcases List.eq_nil_or_concat p with rfl | ⟨q, y, rfl⟩
  · exact .inl rfl
  · right
    rw [List.concat_eq_append] at h ⊢
    rw [lastC_snoc]
    exact ((h.2 y (by simp)).2).symm
/-- how many have a number -/
def many (p : List α) (k : Int) : Nat := p.countP fun x => num x == k
theorem many_one {p : List α} (h : Pw num cnt p) {k : Int} (hx : ∃ x ∈ p, num x = k) : many num p k = 1 := by
  unfold many
  induction p with
  | nil => simp at hx
  | cons a p ih =>
    unfold Pw at h
    rw [List.pairwise_cons] at h
    rw [List.countP_cons]
    by_cases ha : num a = k
    · have h0 : List.countP (fun x => num x == k) p = 0 := by
        rw [List.countP_eq_zero]
        intro b hb
        have := (h.1 b hb).1
        simp
        omega
      simp [ha, h0]
    · obtain ⟨x, hx, hk⟩ := hx
      have hx' : x ∈ p := by
        rcases List.mem_cons.1 hx with rfl | h1
        · exact absurd hk ha
        · exact h1
      rw [ih h.2 ⟨x, hx', hk⟩]
      simp [ha]
/-- how many have a number from 1 to n -/
theorem many_sum (p : List α) (n : Nat) : ((List.range n).map fun k : Nat => many num p ((k + 1 : Nat) : Int)).sum = p.countP fun x => decide (1 ≤ num x ∧ num x ≤ n) := by
  induction n with
  | zero =>
    symm
    simp only [List.range_zero, List.map_nil, List.sum_nil]
    rw [List.countP_eq_zero]
    intro a _
    simp
    omega
  | succ n ih =>
    rw [List.range_succ, List.map_append, List.sum_append, ih]
    unfold many
    simp only [List.map_cons, List.map_nil, List.sum_cons, List.sum_nil, Nat.add_zero]
    clear ih
    induction p with
    | nil => rfl
    | cons a p ih =>
      simp only [List.countP_cons]
      have e : (if decide (1 ≤ num a ∧ num a ≤ n) = true then 1 else 0) + (if (num a == ((n + 1 : Nat) : Int)) = true then 1 else 0) = (if decide (1 ≤ num a ∧ num a ≤ ((n + 1 : Nat) : Int)) = true then 1 else 0) := by
        simp only [decide_eq_true_eq, beq_iff_eq]
        split <;> split <;> split <;> omega
      omega
theorem sum_ones (f : Nat → Nat) (n : Nat) (h : ∀ k, k < n → f k = 1) : ((List.range n).map f).sum = n := by
  induction n with
  | zero => rfl
  | succ n ih => rw [List.range_succ, List.map_append, List.sum_append, ih (fun k hk => h k (by omega))]; simp [h n (by omega)]
theorem nodup_of_ones {p : List α} (h : ∀ x ∈ p, many num p (num x) = 1) : p.Pairwise fun a b => num a ≠ num b := by
  unfold many at h
  induction p with
  | nil => exact .nil
  | cons a p ih =>
    have h0 := h a (by simp)
    rw [List.countP_cons] at h0
    simp only [beq_self_eq_true, if_true] at h0
    have h1 : List.countP (fun x => num x == num a) p = 0 := by omega
    rw [List.countP_eq_zero] at h1
    refine List.pairwise_cons.2 ⟨fun b hb e => h1 b hb (by simp [e]), ih fun x hx => ?_⟩
    have h2 := h x (by simp [hx])
    rw [List.countP_cons] at h2
    have h3 := h1 x hx
    have : (num a == num x) = false := by
      rw [beq_eq_false_iff_ne]; intro e; exact h3 (by simp [e])
    rw [this] at h2
    simpa using h2
/-- as the reference asks it -/
theorem good_of {p : List α} (hc : ∀ x ∈ p, cnt x = lastC cnt p) (hl : lastC cnt p = p.length) (h1 : ∀ k : Nat, 1 ≤ k → k ≤ p.length → many num p k = 1) : Good num cnt p := by
  have hs := many_sum num p p.length
  rw [sum_ones _ _ (fun k hk => h1 (k + 1) (by omega) (by omega))] at hs
  have hall : ∀ x ∈ p, 1 ≤ num x ∧ num x ≤ p.length := by
    have := List.countP_eq_length.1 hs.symm
    intro x hx
    simpa using this x hx
  have hnd := nodup_of_ones num (p := p) (fun x hx => by
    obtain ⟨a, b⟩ := hall x hx
    have := h1 (num x).toNat (by omega) (by omega)
    rwa [Int.toNat_of_nonneg (by omega)] at this)
  refine ⟨?_, hl, fun k hk1 hk2 => ?_⟩
  · unfold Pw
    have hc2 : p.Pairwise fun a b => cnt a = cnt b := by
      rw [List.pairwise_iff_forall_sublist]
      intro a b hab
      rw [hc a (hab.subset (by simp)), hc b (hab.subset (by simp))]
    exact hnd.and hc2
  · have h2 := h1 k hk1 hk2
    unfold many at h2
    have h3 : 0 < List.countP (fun x => num x == (k : Int)) p := by omega
    obtain ⟨x, hx, he⟩ := List.countP_pos_iff.1 h3
    exact ⟨x, hx, by simpa using he⟩
theorem good_many {p : List α} (h : Good num cnt p) (k : Nat) (h1 : 1 ≤ k) (h2 : k ≤ p.length) : many num p k = 1 := many_one num cnt h.1 (h.2.2 k h1 h2)
theorem many_snoc (p : List α) (x : α) (k : Int) : many num (p ++ [x]) k = many num p k + if num x == k then 1 else 0 := by
  unfold many; rw [List.countP_append, List.countP_cons]; simp
theorem many_mono {p q : List α} (k : Int) (r : List α) (e : q = p ++ r) : many num p k ≤ many num q k := by
  unfold many; rw [e, List.countP_append]; omega
/-- the texts of all of a number -/
def txs (p : List α) (k : Int) : ByteArray := (p.filter fun x => num x == k).foldl (fun b x => b ++ txt x) ByteArray.empty
theorem txs_snoc (p : List α) (x : α) (k : Int) : txs num txt (p ++ [x]) k = if num x == k then txs num txt p k ++ txt x else txs num txt p k := by
  unfold txs
  rw [List.filter_append]
  by_cases h : (num x == k) = true
  · simp [h]
  · simp [h]
theorem txs_one {p : List α} {k : Int} (h : many num p k = 1) : txs num txt p k = tx num txt p k := by
  unfold txs tx
  unfold many at h
  rw [List.countP_eq_length_filter] at h
  obtain ⟨x, hx⟩ := List.length_eq_one_iff.1 h
  have : p.find? (fun x => num x == k) = some x := by
    rw [← List.head?_filter, hx]; rfl
  rw [hx, this]
  simp
open Classical in
/-- the profile, or the error -/
noncomputable def prof (p : List α) : ByteArray × Int := if Good num cnt p then (cat num txt p p.length, 0) else (ByteArray.empty, 165)
/-- the texts' bytes -/
def szs (p : List α) : Nat := (p.map fun x => (txt x).size).sum
theorem tx_cons (a : α) (p : List α) (k : Int) : tx num txt (a :: p) k = if num a = k then txt a else tx num txt p k := by
  unfold tx
  rw [List.find?_cons]
  by_cases h : num a = k
  · simp [h]
  · rw [show (num a == k) = false from beq_eq_false_iff_ne.2 h, if_neg h]
theorem cat_size (p : List α) (k : Nat) : (cat num txt p k).size = ((List.range k).map fun j : Nat => (tx num txt p ((j + 1 : Nat) : Int)).size).sum := by
  induction k with
  | zero => rfl
  | succ k ih => rw [cat, ByteArray.size_append, ih, List.range_succ, List.map_append, List.sum_append]; simp
theorem sum_if (a : Nat) (c : Nat) (m : Int) : ∀ k : Nat, ((List.range k).map fun j : Nat => if m = ((j + 1 : Nat) : Int) then a else 0).sum ≤ a
  | 0 => by simp
  | k + 1 => by
    rw [List.range_succ, List.map_append, List.sum_append]
    have ih := sum_if a c m k
    by_cases h : m = ((k + 1 : Nat) : Int)
    · have h0 : ((List.range k).map fun j : Nat => if m = ((j + 1 : Nat) : Int) then a else 0).sum = 0 := by
        have : (List.range k).map (fun j : Nat => if m = ((j + 1 : Nat) : Int) then a else 0) = (List.range k).map fun _ => 0 := by
          apply List.map_congr_left
          intro j hj
          rw [List.mem_range] at hj
          rw [if_neg (by omega)]
        rw [this]
        clear this ih h
        induction k with
        | zero => rfl
        | succ k ih => rw [List.range_succ, List.map_append, List.sum_append, ih]; rfl
      rw [h0]
      simp [h]
    · have e : ((List.map (fun j : Nat => if m = ((j + 1 : Nat) : Int) then a else 0) [k]).sum) = 0 := by
        simp only [List.map_cons, List.map_nil, List.sum_cons, List.sum_nil, Nat.add_zero]
        rw [if_neg h]
      omega
theorem cat_le (p : List α) (k : Nat) : (cat num txt p k).size ≤ szs txt p := by
  rw [cat_size]
  unfold szs
  induction p with
  | nil =>
    have : ((List.range k).map fun j : Nat => (tx num txt ([] : List α) ((j + 1 : Nat) : Int)).size) = (List.range k).map fun _ => 0 := by
      apply List.map_congr_left
      intro j _
      rfl
    rw [this]
    clear this
    induction k with
    | zero => simp
    | succ k ih => rw [List.range_succ, List.map_append, List.sum_append]; simpa using ih
  | cons a p ih =>
    have h : ((List.range k).map fun j : Nat => (tx num txt (a :: p) ((j + 1 : Nat) : Int)).size).sum ≤ ((List.range k).map fun j : Nat => if num a = ((j + 1 : Nat) : Int) then (txt a).size else 0).sum + ((List.range k).map fun j : Nat => (tx num txt p ((j + 1 : Nat) : Int)).size).sum := by
      clear ih
      induction k with
      | zero => simp
      | succ k ih =>
        simp only [List.range_succ, List.map_append, List.sum_append, List.map_cons, List.map_nil, List.sum_cons, List.sum_nil, Nat.add_zero]
        rw [tx_cons]
        by_cases h : num a = ((k + 1 : Nat) : Int)
        · rw [if_pos h, if_pos h]; omega
        · rw [if_neg h, if_neg h]; omega
    have h2 := sum_if (txt a).size 0 (num a) k
    simp only [List.map_cons, List.sum_cons]
    omega
theorem txs_le (p : List α) (k : Int) : (txs num txt p k).size ≤ szs txt p := by
  rcases List.eq_nil_or_concat p with rfl | ⟨q, x, rfl⟩
  · simp [txs, szs]
  · rw [List.concat_eq_append]
    have ih := txs_le q k
    rw [txs_snoc]
    unfold szs at *
    simp only [List.map_append, List.map_cons, List.map_nil, List.sum_append, List.sum_cons, List.sum_nil]
    split
    · rw [ByteArray.size_append]; omega
    · omega
termination_by p.length
decreasing_by all_goals (subst_vars; simp)
end Go.Proofs.Ytehnahikfemodaa.Pf
