/- The plain law of ResyncOrder. -/
import Derived.Test.YtdbidojncboalaaRs
namespace Go.Proofs.Ytdbidojncboalaa.Rs

def pl (s : Slot) : Bool := s.2 == 0 || s.2 == 6
/-- the last placed piece -/
def ahead (l : List Slot) : Int := l.foldl (fun a s => if pl s then s.1 else a) (-1)
theorem ahead_snoc (l : List Slot) (s : Slot) : ahead (l ++ [s]) = if pl s then s.1 else ahead l := by simp [ahead, List.foldl_append]
theorem ahead_rep (l : List Slot) (s : Slot) (h : pl s = false) (m : Nat) : ahead (l ++ List.replicate m s) = ahead l := by
  induction m with
  | zero => simp
  | succ m ih => rw [List.replicate_succ', ← List.append_assoc, ahead_snoc, h]; simpa using ih
theorem ahead_le (l : List Slot) (T : Int) (hT : 0 ≤ T) (h : ∀ x ∈ l, x.1 < T) : ahead l < T := by
  have : ∀ (l : List Slot) (a : Int), a < T → (∀ x ∈ l, x.1 < T) → l.foldl (fun a s => if pl s then s.1 else a) a < T := by
    intro l
    induction l with
    | nil => intro a ha _; exact ha
    | cons x l ih =>
      intro a ha hx
      simp only [List.foldl_cons]
      refine ih _ ?_ (fun y hy => hx y (List.mem_cons_of_mem _ hy))
      split
      · exact hx x (List.mem_cons_self ..)
      · exact ha
  exact this l (-1) (by omega) h

structure SlotOk (rs : List Int) (N : Int) (S : List Int) (pre : List Slot) (s : Slot) : Prop where
  asc : ∀ x ∈ pre, x.1 ≤ s.1
  low : -1 ≤ s.1
  st : s.2 = 0 ∨ s.2 = 6 ∨ s.2 = 5 ∨ s.2 = 7
  placed : pl s = true → (∀ x ∈ pre, x.1 < s.1) ∧ 0 ≤ s.1 ∧ (∃ r, rs[s.1.toNat]? = some r ∧ ((pre.length : Int) + 1 < N → 0 ≤ r ∧ (r - pre.length) % 8 = 0) ∧ ((pre.length : Int) + 1 = N → r = -1)) ∧ s.1 ∉ S ∧
    ((∃ x ∈ S, ahead pre < x ∧ x < s.1) ↔ s.2 = 6)
  cut : s.2 = 7 → 0 ≤ s.1 ∧ ∃ r, rs[s.1.toNat]? = some r ∧ r < -1
def AllOk (rs : List Int) (N : Int) (S : List Int) (L : List Slot) : Prop := ∀ i (h : i < L.length), SlotOk rs N S (L.take i) L[i]
theorem AllOk.snoc {rs : List Int} {N : Int} {S : List Int} {L : List Slot} {s : Slot} (h : AllOk rs N S L) (hs : SlotOk rs N S L s) : AllOk rs N S (L ++ [s]) := by
  intro i hi
  by_cases h1 : i < L.length
  · rw [List.getElem_append_left h1, List.take_append_of_le_length (by omega)]
    exact h i h1
  · have : i = L.length := by simp at hi; omega
    subst this
    simp only [List.take_left', List.getElem_concat_length]
    exact hs
theorem AllOk.rep {rs : List Int} {N : Int} {S : List Int} {L : List Slot} {s : Slot} (h : AllOk rs N S L) (hs : ∀ j, SlotOk rs N S (L ++ List.replicate j s) s) (m : Nat) : AllOk rs N S (L ++ List.replicate m s) := by
  induction m with
  | zero => simpa using h
  | succ m ih => rw [List.replicate_succ', ← List.append_assoc]; exact ih.snoc (hs m)
theorem SlotOk.stray {rs : List Int} {N : Int} {S : List Int} {pre : List Slot} {s : Slot} (h : SlotOk rs N S pre s) {T : Int} (hT : s.1 < T) : SlotOk rs N (S ++ [T]) pre s :=
  { h with
    placed := fun hp => by
      obtain ⟨h1, h2, h3, h4, h5⟩ := h.placed hp
      refine ⟨h1, h2, h3, by simp only [List.mem_append, List.mem_singleton, not_or]; exact ⟨h4, by omega⟩, ?_⟩
      rw [← h5]
      constructor
      · rintro ⟨x, hx, h6, h7⟩
        rcases List.mem_append.1 hx with h8 | h8
        · exact ⟨x, h8, h6, h7⟩
        · have := List.mem_singleton.1 h8; omega
      · rintro ⟨x, hx, h6⟩
        exact ⟨x, List.mem_append_left _ hx, h6⟩ }
/-- the slots so far -/
structure OI (rs : List Int) (N : Int) (t : Tr) (L : List Slot) (S : List Int) : Prop where
  ok : Ok t
  tN : t.N = N
  len : (L.length : Int) = t.next
  all : AllOk rs N S L
  lt : ∀ x ∈ L, 0 ≤ x.1 ∧ x.1 < t.taken
  sl : ∀ x ∈ S, 0 ≤ x ∧ x < t.taken
  sp : S.Pairwise (· < ·)
  str : t.stray = true ↔ ∃ x ∈ S, ahead L < x
  sev : ∀ x ∈ L, x.2 = 7 → t.done = true
  run : ∀ i j (_ : i < j) (hj : j < L.length), (L[i]'(by omega)).2 = 7 → L[j].2 = 7
  fin : t.done = true → t.next = N
theorem OI.start (rs : List Int) {n : Int} (h : 0 ≤ n) : OI rs n (new n) [] [] :=
  ⟨new_ok h, rfl, by simp [new], fun i hi => by simp at hi, by simp, by simp, List.Pairwise.nil, by simp [new], by simp, fun i j _ hj => by simp at hj, by simp [new]⟩
/-- several slots alike that are not placed -/
theorem OI.more {rs : List Int} {N : Int} {t t' : Tr} {L : List Slot} {S : List Int} (h : OI rs N t L S) (hd : t.done = false) (m : Nat) (q r : Int) (hq : q = 5 ∨ q = 7) (hr : rs[t.taken.toNat]? = some r) (h7 : q = 7 → r < -1 ∧ t'.done = true)
    (hok : Ok t') (hN : t'.N = N) (hl : t'.next = t.next + m) (hT : t'.taken = t.taken + 1) (hs : t'.stray = t.stray) (hf : t'.done = true → t'.next = N) : OI rs N t' (L ++ List.replicate m (t.taken, q)) S := by
  have hpl : pl (t.taken, q) = false := by rcases hq with rfl | rfl <;> rfl
  have t0 := h.ok.t0
  have no7 : ∀ x ∈ L, x.2 ≠ 7 := fun x hx e => by have := h.sev x hx e; rw [hd] at this; cases this
  refine ⟨hok, hN, by simp; have := h.len; omega, h.all.rep (fun j => ?_) m, fun x hx => ?_, fun x hx => ?_, h.sp, ?_, fun x hx e => ?_, fun i j hij hj e => ?_, hf⟩
  · refine ⟨fun x hx => ?_, by omega, by rcases hq with rfl | rfl <;> simp, fun hp => (by rw [hpl] at hp; cases hp), fun e => ⟨t0, r, hr, (h7 e).1⟩⟩
    rcases List.mem_append.1 hx with h1 | h1
    · have := h.lt x h1; simp; omega
    · rw [List.eq_of_mem_replicate h1]; exact Int.le_refl _
  · rcases List.mem_append.1 hx with h1 | h1
    · have := h.lt x h1; omega
    · rw [List.eq_of_mem_replicate h1]; simp; omega
  · have := h.sl x hx; omega
  · rw [hs, h.str, ahead_rep _ _ hpl]
  · rcases List.mem_append.1 hx with h1 | h1
    · exact absurd e (no7 x h1)
    · rw [List.eq_of_mem_replicate h1] at e
      exact (h7 e).2
  · by_cases hi : i < L.length
    · rw [List.getElem_append_left hi] at e
      exact absurd e (no7 _ (List.getElem_mem hi))
    · rw [List.getElem_append_right (by omega), List.getElem_replicate] at e
      rw [List.getElem_append_right (by omega), List.getElem_replicate]
      exact e
/-- one slot that is placed -/
theorem OI.one {rs : List Int} {N : Int} {t t' : Tr} {L : List Slot} {S : List Int} (h : OI rs N t L S) (hd : t.done = false) (r : Int) (hr : rs[t.taken.toNat]? = some r)
    (h1 : t.next + 1 < N → 0 ≤ r ∧ (r - t.next) % 8 = 0) (h2 : t.next + 1 = N → r = -1)
    (hok : Ok t') (hN : t'.N = N) (hl : t'.next = t.next + 1) (hT : t'.taken = t.taken + 1) (hs : t'.stray = false) (hf : t'.done = true → t'.next = N) : OI rs N t' (L ++ [(t.taken, placedI t)]) S := by
  have hpi : placedI t = 0 ∨ placedI t = 6 := by unfold placedI; split <;> simp
  have hpl : pl (t.taken, placedI t) = true := by rcases hpi with e | e <;> simp [pl, e]
  have t0 := h.ok.t0
  have no7 : ∀ x ∈ L, x.2 ≠ 7 := fun x hx e => by have := h.sev x hx e; rw [hd] at this; cases this
  refine ⟨hok, hN, by simp; have := h.len; omega, h.all.snoc ?_, fun x hx => ?_, fun x hx => ?_, h.sp, ?_, fun x hx e => ?_, fun i j hij hj e => ?_, hf⟩
  · refine ⟨fun x hx => by have := h.lt x hx; simp; omega, by simp; omega, by rcases hpi with e | e <;> simp [e], fun _ => ⟨fun x hx => by have := h.lt x hx; simp; omega, t0, ⟨r, hr, by rw [h.len]; exact h1, by rw [h.len]; exact h2⟩, fun hx => by have := (h.sl _ hx).2; simp at this, ?_⟩, fun e => by rcases hpi with e' | e' <;> simp [e'] at e⟩
    constructor
    · rintro ⟨x, hx, h3, _⟩
      have : t.stray = true := h.str.2 ⟨x, hx, h3⟩
      simp [placedI, this]
    · intro e
      have : t.stray = true := by
        unfold placedI at e
        cases hst : t.stray
        · simp [hst] at e
        · rfl
      obtain ⟨x, hx, h3⟩ := h.str.1 this
      exact ⟨x, hx, h3, by have := h.sl x hx; simp; omega⟩
  · rcases List.mem_append.1 hx with h3 | h3
    · have := h.lt x h3; omega
    · rw [List.mem_singleton.1 h3]; simp; omega
  · have := h.sl x hx; omega
  · rw [hs, ahead_snoc, if_pos hpl]
    constructor
    · intro e; cases e
    · rintro ⟨x, hx, h3⟩
      have := h.sl x hx
      simp at h3; omega
  · rcases List.mem_append.1 hx with h3 | h3
    · exact absurd e (no7 x h3)
    · rw [List.mem_singleton.1 h3] at e
      rcases hpi with e' | e' <;> simp [e'] at e
  · by_cases hi : i < L.length
    · rw [List.getElem_append_left hi] at e
      exact absurd e (no7 _ (List.getElem_mem hi))
    · simp at hj; omega
theorem OI.step {rs : List Int} {N : Int} {t : Tr} {L : List Slot} {S : List Int} (h : OI rs N t L S) (hd : t.done = false) {r : Int} (hr : rs[t.taken.toNat]? = some r) :
    OI rs N (take t r).2 (L ++ (take t r).1) (if (take t r).1.length = 0 ∧ (take t r).2.done = false then S ++ [t.taken] else S) := by
  have hok := take_ok h.ok r
  have hN := (take_N t r).trans h.tN
  obtain ⟨n0, n1, t0⟩ := h.ok
  have hTN := h.tN
  unfold take at hok hN ⊢
  rw [if_neg (by rw [hd]; decide)] at hok hN ⊢
  by_cases h0 : r < 0
  · rw [if_pos h0] at hok hN ⊢
    by_cases h1 : r = -1
    · rw [if_neg (by simpa using h1)] at hok hN ⊢
      by_cases h2 : t.N - t.next = 1
      · rw [if_pos h2] at hok hN ⊢
        simp only [List.length_cons, List.length_nil, Nat.zero_add, Nat.one_ne_zero, false_and, if_false] at hok hN ⊢
        exact h.one hd r hr (by omega) (by omega) hok hN rfl rfl rfl (fun _ => by simp; omega)
      · rw [if_neg h2] at hok hN ⊢
        simp only [Bool.true_eq_false, and_false, if_false] at hok hN ⊢
        exact h.more hd _ 5 r (.inl rfl) hr (fun e => absurd e (by decide)) hok hN (by simp; omega) rfl rfl (fun _ => by simp; omega)
    · rw [if_pos (by simpa using h1)] at hok hN ⊢
      simp only [Bool.true_eq_false, and_false, if_false] at hok hN ⊢
      exact h.more hd _ 7 r (.inr rfl) hr (fun _ => ⟨by omega, rfl⟩) hok hN (by simp; omega) rfl rfl (fun _ => by simp; omega)
  · rw [if_neg h0] at hok hN ⊢
    by_cases h1 : (r - t.next) % 8 ≥ t.N - t.next - 1
    · rw [if_pos h1] at hok hN ⊢
      simp only [List.length_nil, hd, and_self, if_true, List.append_nil] at hok hN ⊢
      refine ⟨hok, hN, h.len, fun i hi => (h.all i hi).stray (h.lt _ (List.getElem_mem hi)).2, fun x hx => by have := h.lt x hx; simp; omega, fun x hx => ?_, ?_, ?_, fun x hx e => (by have := h.sev x hx e; rw [hd] at this; cases this), h.run, fun e => by simp at e⟩
      · rcases List.mem_append.1 hx with h3 | h3
        · have := h.sl x h3; simp; omega
        · rw [List.mem_singleton.1 h3]; simp; omega
      · rw [List.pairwise_append]
        exact ⟨h.sp, by simp, fun x hx y hy => by rw [List.mem_singleton.1 hy]; exact (h.sl x hx).2⟩
      · simp only [true_iff]
        exact ⟨t.taken, by simp, ahead_le L t.taken t0 (fun x hx => (h.lt x hx).2)⟩
    · rw [if_neg h1] at hok hN ⊢
      by_cases h2 : (r - t.next) % 8 = 0
      · rw [if_pos h2] at hok hN ⊢
        simp only [List.length_cons, List.length_nil, Nat.zero_add, Nat.one_ne_zero, false_and, if_false] at hok hN ⊢
        exact h.one hd r hr (fun _ => ⟨by omega, h2⟩) (by omega) hok hN rfl rfl rfl (fun e => by simp at e; rw [hd] at e; cases e)
      · rw [if_neg h2] at hok hN ⊢
        have hne : ¬ ((List.replicate ((r - t.next) % 8 + 1).toNat (t.taken, (5 : Int))).length = 0 ∧ t.done = false) := by
          rw [List.length_replicate]; omega
        simp only at hok hN ⊢
        rw [if_neg hne]
        exact h.more hd _ 5 r (.inl rfl) hr (fun e => absurd e (by decide)) hok hN (by simp; omega) rfl rfl (fun e => by simp at e; rw [hd] at e; cases e)
theorem OI.go {rs : List Int} {N : Int} : ∀ (ss : List Int) (t : Tr) (i : Int) (L : List Slot) (S : List Int), OI rs N t L S → (0 ≤ i) → ss = rs.drop i.toNat → (t.done = false → i = t.taken) → t.taken ≤ rs.length →
    OI rs N (placeGo t i ss L S).2.2 (placeGo t i ss L S).1 (placeGo t i ss L S).2.1 ∧ (placeGo t i ss L S).2.2.taken ≤ rs.length := by
  intro ss
  induction ss with
  | nil => intro t i L S h _ _ _ hl; exact ⟨h, hl⟩
  | cons r ss ih =>
    intro t i L S h hi hss he hl
    unfold placeGo
    by_cases hd : t.done = true
    · rw [if_pos hd]; exact ⟨h, hl⟩
    · rw [if_neg hd]
      have hd' : t.done = false := by simpa using hd
      have hit := he hd'
      have hget : rs[i.toNat]? = some r := by
        have := congrArg List.head? hss
        rw [List.head?_cons, List.head?_drop] at this
        exact this.symm
      have hlt := (List.getElem?_eq_some_iff.1 hget).1
      have htk := take_taken t r
      rw [if_neg hd] at htk
      have hst := h.step hd' (by rw [← hit]; exact hget)
      rw [← hit] at hst
      refine ih _ _ _ _ hst (by omega) ?_ (fun _ => by omega) (by omega)
      rw [show (i + 1).toNat = i.toNat + 1 by omega, ← List.drop_drop, ← hss]
      rfl
/-- all that is asked of the answer of Place -/
structure OrdOk (rs : List Int) (n : Int) (L : List Slot) (S : List Int) (T : Int) : Prop where
  len : (L.length : Int) = n
  t0 : 0 ≤ T
  t1 : T ≤ rs.length
  all : AllOk rs n S L
  lt : ∀ x ∈ L, x.1 < T
  sl : ∀ x ∈ S, 0 ≤ x ∧ x < T
  sp : S.Pairwise (· < ·)
  run : ∀ i j (_ : i < j) (hj : j < L.length), (L[i]'(by omega)).2 = 7 → L[j].2 = 7
theorem place_ord (rs : List Int) (n : Int) (h0 : 0 ≤ n) (h1 : n ≤ 1048576) : OrdOk rs n (place rs n).1 (place rs n).2.1 (place rs n).2.2 := by
  obtain ⟨h, hT⟩ := OI.go rs (new n) 0 [] [] (OI.start rs h0) (by omega) rfl (fun _ => rfl) (by simp [new])
  unfold place
  rw [if_neg (by omega)]
  generalize placeGo (new n) 0 rs [] [] = X at h hT
  obtain ⟨L, S, t⟩ := X
  simp only at h hT ⊢
  obtain ⟨n0, n1, t0⟩ := h.ok
  have hN := h.tN
  have hlen := h.len
  have hpl : pl (t.taken - 1, 5) = false := rfl
  refine ⟨by simp; omega, t0, hT, h.all.rep (fun j => ?_) _, fun x hx => ?_, h.sl, h.sp, fun i j hij hj e => ?_⟩
  · refine ⟨fun x hx => ?_, by simp; omega, by simp, fun hp => (by rw [hpl] at hp; cases hp), fun e => by simp at e⟩
    rcases List.mem_append.1 hx with h2 | h2
    · have := h.lt x h2; simp; omega
    · rw [List.eq_of_mem_replicate h2]; exact Int.le_refl _
  · rcases List.mem_append.1 hx with h2 | h2
    · exact (h.lt x h2).2
    · rw [List.eq_of_mem_replicate h2]; simp; omega
  · by_cases hi : i < L.length
    · rw [List.getElem_append_left hi] at e
      have hd := h.sev _ (List.getElem_mem hi) e
      have hf := h.fin hd
      have hjl : j < L.length := by simp at hj; omega
      rw [List.getElem_append_left hjl]
      exact h.run i j hij hjl e
    · rw [List.getElem_append_right (by omega), List.getElem_replicate] at e
      simp at e
end Go.Proofs.Ytdbidojncboalaa.Rs
