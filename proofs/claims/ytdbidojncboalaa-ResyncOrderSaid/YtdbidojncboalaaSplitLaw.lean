/- Piece by piece is at once: plainly. -/
import Derived.Test.YtdbidojncboalaaRs
namespace Go.Proofs.Ytdbidojncboalaa.Rs

/-- the pieces taken one by one -/
def seq : Tr → List Int → List Slot × Tr
  | t, [] => ([], t)
  | t, r :: rs => ((take t r).1 ++ (seq (take t r).2 rs).1, (seq (take t r).2 rs).2)
theorem take_done {t : Tr} (h : t.done = true) (r : Int) : take t r = ([], t) := by unfold take; rw [if_pos h]
theorem seq_done {t : Tr} (h : t.done = true) (rs : List Int) : seq t rs = ([], t) := by
  induction rs with
  | nil => rfl
  | cons r rs ih => simp only [seq, take_done h, ih]; rfl
theorem placeGo_seq (t : Tr) (i : Int) (rs : List Int) (L : List Slot) (S : List Int) : (placeGo t i rs L S).1 = L ++ (seq t rs).1 ∧ (placeGo t i rs L S).2.2 = (seq t rs).2 := by
  induction rs generalizing t i L S with
  | nil => simp [placeGo, seq]
  | cons r rs ih =>
    rw [placeGo]
    by_cases hd : t.done
    · rw [if_pos hd, seq_done hd]; simp
    · rw [if_neg hd]
      obtain ⟨h1, h2⟩ := ih (take t r).2 (i + 1) (L ++ (take t r).1) (if (take t r).1.length = 0 ∧ (take t r).2.done = false then S ++ [i] else S)
      rw [h1, h2]
      simp [seq]
theorem take_mono (t : Tr) (r : Int) : t.taken ≤ (take t r).2.taken := by rw [take_taken]; split <;> omega
theorem seq_mono (t : Tr) (rs : List Int) : t.taken ≤ (seq t rs).2.taken := by
  induction rs generalizing t with
  | nil => exact Int.le_refl _
  | cons r rs ih => exact Int.le_trans (take_mono t r) (ih _)
def DoneN (t : Tr) : Prop := t.done = true → t.next = t.N
theorem take_doneN {t : Tr} (h : DoneN t) (r : Int) : DoneN (take t r).2 := by
  unfold DoneN at *
  unfold take
  split
  · exact h
  · rename_i hd
    split
    · split
      · intro _; rfl
      · split
        · intro _; simp; omega
        · intro _; rfl
    · split
      · intro hh; exact absurd hh hd
      · split
        · intro hh; exact absurd hh hd
        · intro hh; exact absurd hh hd
theorem place_seq (rs : List Int) (n : Int) (h : ¬ (n < 0 ∨ 1048576 < n)) :
    (place rs n).1 = (seq (new n) rs).1 ++ List.replicate (n - (seq (new n) rs).2.next).toNat ((seq (new n) rs).2.taken - 1, 5) ∧ (place rs n).2.2 = (seq (new n) rs).2.taken := by
  obtain ⟨h1, h2⟩ := placeGo_seq (new n) 0 rs [] []
  unfold place
  rw [if_neg h]
  simp only
  rw [h1, h2]
  simp
theorem seq_ok {t : Tr} (h : Ok t) (rs : List Int) : Ok (seq t rs).2 ∧ (seq t rs).2.N = t.N ∧ ((seq t rs).1.length : Int) = (seq t rs).2.next - t.next := by
  induction rs generalizing t with
  | nil => exact ⟨h, rfl, by simp [seq]⟩
  | cons r rs ih =>
    obtain ⟨a, b, c⟩ := ih (take_ok h r)
    refine ⟨a, b.trans (take_N t r), ?_⟩
    have := take_len h r
    simp only [seq, List.length_append]
    omega

/-- what the loop of ResyncSplit knows ahead of piece k -/
structure SI (rs : List Int) (n : Int) (k : Nat) (t : Tr) (L : List Slot) : Prop where
  ok : Ok t
  N : t.N = n
  len : (L.length : Int) = t.next
  go : (L ++ (seq t (rs.drop k)).1, (seq t (rs.drop k)).2) = seq (new n) rs
  tk0 : t.done = false → t.taken = k
  tk1 : t.done = true → t.taken ≤ k
  dn : DoneN t
theorem SI.new {rs : List Int} {n : Int} (h : 0 ≤ n) : SI rs n 0 (new n) [] := ⟨new_ok h, rfl, by simp [Rs.new], by simp, fun _ => by simp [Rs.new], fun h => by simp [Rs.new] at h, fun h => by simp [Rs.new] at h⟩
theorem SI.step {rs : List Int} {n : Int} {k : Nat} {t : Tr} {L : List Slot} (h : SI rs n k t L) {r : Int} (hr : rs[k]? = some r) : SI rs n (k + 1) (take t r).2 (L ++ (take t r).1) := by
  obtain ⟨hk, hg⟩ := List.getElem?_eq_some_iff.1 hr
  have hlen := take_len h.ok r
  have hN := take_N t r
  refine ⟨take_ok h.ok r, hN.trans h.N, ?_, ?_, ?_, ?_, take_doneN h.dn r⟩
  · have := h.len; rw [List.length_append]; omega
  · have := h.go
    rw [List.drop_eq_getElem_cons hk, hg] at this
    rw [← this]
    simp [seq]
  · intro hd
    have h1 : t.done = false := by
      cases hh : t.done
      · rfl
      · rw [take_done hh] at hd; exact absurd hd (by rw [hh]; decide)
    rw [take_taken, h1, h.tk0 h1]; simp
  · intro hd
    rw [take_taken]
    cases hh : t.done
    · have := h.tk0 hh; simp; omega
    · have := h.tk1 hh; simp; omega
/-- is it done just when all that Place took is behind it? -/
theorem SI.done {rs : List Int} {n : Int} {k : Nat} {t : Tr} {L : List Slot} (h : SI rs n k t L) (hk : k < rs.length) : t.done = decide ((k : Int) ≥ (seq (Rs.new n) rs).2.taken) := by
  have hg := h.go
  rw [List.drop_eq_getElem_cons hk] at hg
  have h2 : (seq t (rs[k] :: rs.drop (k + 1))).2 = (seq (Rs.new n) rs).2 := by rw [← hg]
  cases hh : t.done
  · have h1 := h.tk0 hh
    have h3 := seq_mono (take t rs[k]).2 (rs.drop (k + 1))
    rw [take_taken, hh] at h3
    simp only [seq] at h2
    rw [h2] at h3
    simp at h3
    symm
    rw [decide_eq_false_iff_not]
    omega
  · rw [seq_done hh] at h2
    have := h.tk1 hh
    rw [← h2]
    symm
    rw [decide_eq_true_iff]
    exact this
/-- what piece k gives stands in Place's slots -/
theorem SI.slot {rs : List Int} {n : Int} {k : Nat} {t : Tr} {L : List Slot} (h : SI rs n k t L) {r : Int} (hr : rs[k]? = some r) (X : List Slot) (j : Nat) (hj : j < (take t r).1.length) :
    ((seq (Rs.new n) rs).1 ++ X)[L.length + j]? = some (take t r).1[j] := by
  obtain ⟨hk, hg⟩ := List.getElem?_eq_some_iff.1 hr
  have hh := h.go
  rw [List.drop_eq_getElem_cons hk, hg] at hh
  rw [← hh]
  simp only [seq]
  rw [List.append_assoc, List.getElem?_append_right (by omega), Nat.add_sub_cancel_left, List.append_assoc, List.getElem?_append_left hj, List.getElem?_eq_getElem hj]
end Go.Proofs.Ytdbidojncboalaa.Rs
