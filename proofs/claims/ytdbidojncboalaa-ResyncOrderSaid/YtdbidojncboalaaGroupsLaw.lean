/- What Place makes of groups. -/
import Derived.Test.YtdbidojncboalaaPieces
namespace Go.Proofs.Ytdbidojncboalaa.Ct
open Go.ChangeShapes Go.WideShapes Go.RowKit Mm Rs

def grp (j : Int) : List Int → List Slot
  | [] => []
  | g :: gs => (if g = 1 then [(j, 0)] else List.replicate g.toNat (j, 5)) ++ grp (j + 1) gs
theorem tot_zero {gs : List Int} (h : ∀ g ∈ gs, 1 ≤ g) (h0 : tot gs ≤ 0) : gs = [] := by
  have := tot_len gs h
  exact List.eq_nil_of_length_eq_zero (by omega)
theorem placeGo_groups (n : Int) (gs : List Int) (at_ j : Int) (L : List Slot) (h8 : ∀ g ∈ gs, 1 ≤ g ∧ g ≤ 8) (h : at_ + tot gs = n) (h0 : 0 ≤ at_) :
    ∃ t, placeGo ⟨n, at_, j, false, false⟩ j ((pcs n at_ gs).map (·.r)) L [] = (L ++ grp j gs, [], t) ∧ t.next = n ∧ t.taken = j + gs.length := by
  induction gs generalizing at_ j L with
  | nil => exact ⟨⟨n, at_, j, false, false⟩, by simp [pcs, placeGo, grp], by simp [tot] at h; exact h, by simp⟩
  | cons g gs ih =>
    have hg := h8 g (by simp)
    have ht : 0 ≤ tot gs := by have := tot_len gs (fun g hg => (h8 g (by simp [hg])).1); omega
    simp only [tot] at h
    by_cases he : at_ + g = n
    · have hz := tot_zero (fun g hg => (h8 g (by simp [hg])).1) (show tot gs ≤ 0 by omega)
      subst hz
      have htk : take ⟨n, at_, j, false, false⟩ (-1) = (if g = 1 then [(j, 0)] else List.replicate g.toNat (j, 5), ⟨n, n, j + 1, false, true⟩) := by
        unfold take
        rw [if_neg (by simp), if_pos (by omega), if_neg (by simp)]
        simp only
        by_cases h1 : g = 1
        · rw [if_pos (by omega), if_pos h1]
          simp [placedI]
          omega
        · rw [if_neg (by omega), if_neg h1, show n - at_ = g by omega]
      refine ⟨⟨n, n, j + 1, false, true⟩, ?_, rfl, by simp⟩
      simp only [pcs, List.map_cons, List.map_nil, he, if_true, placeGo, htk, grp]
      simp
    · have htk : take ⟨n, at_, j, false, false⟩ ((at_ + g - 1) % 8) = (if g = 1 then [(j, 0)] else List.replicate g.toNat (j, 5), ⟨n, at_ + g, j + 1, false, false⟩) := by
        unfold take
        rw [if_neg (by simp), if_neg (by omega)]
        simp only
        rw [if_neg (by omega)]
        by_cases h1 : g = 1
        · rw [if_pos (by omega), if_pos h1, h1]
          simp [placedI]
        · rw [if_neg (by omega), if_neg h1, show ((at_ + g - 1) % 8 - at_) % 8 + 1 = g by omega]
      obtain ⟨t, h1, h2, h3⟩ := ih (at_ + g) (j + 1) (L ++ (if g = 1 then [(j, 0)] else List.replicate g.toNat (j, 5))) (fun g hg => h8 g (by simp [hg])) (by omega) (by omega)
      refine ⟨t, ?_, h2, by rw [h3, List.length_cons]; omega⟩
      have hne : (if g = 1 then [((j, 0) : Slot)] else List.replicate g.toNat (j, 5)).length ≠ 0 := by
        split
        · simp
        · simp; omega
      simp only [pcs, List.map_cons, if_neg he, placeGo, htk, grp]
      generalize (if g = 1 then [((j, 0) : Slot)] else List.replicate g.toNat (j, 5)) = X at h1 hne ⊢
      rw [if_neg (by simp), if_neg (fun h => hne h.1), h1, List.append_assoc]
theorem place_groups (n : Int) (gs : List Int) (h8 : ∀ g ∈ gs, 1 ≤ g ∧ g ≤ 8) (h : tot gs = n) (hn : n ≤ 300) :
    place ((pcs n 0 gs).map (·.r)) n = (grp 0 gs, [], (gs.length : Int)) := by
  have ht : 0 ≤ tot gs := by have := tot_len gs (fun g hg => (h8 g hg).1); omega
  obtain ⟨t, h1, h2, h3⟩ := placeGo_groups n gs 0 0 [] h8 (by omega) (by omega)
  unfold place
  rw [if_neg (by omega)]
  unfold new
  rw [h1]
  simp [h2, h3]

/-- is interval i alone in its group? -/
def Al (o : List Int) (i : Nat) : Prop := (i = 0 ∨ o[i - 1]? ≠ o[i]?) ∧ (i + 1 = o.length ∨ o[i + 1]? ≠ o[i]?)
instance (o : List Int) (i : Nat) : Decidable (Al o i) := by unfold Al; infer_instance
theorem ofs_ge (j : Int) (gs : List Int) (i : Nat) (x : Int) (h : (ofs j gs)[i]? = some x) : j ≤ x := by
  induction gs generalizing j i with
  | nil => simp [ofs] at h
  | cons g gs ih =>
    simp only [ofs, List.getElem?_append] at h
    split at h
    · rename_i hi
      simp at hi
      simp [hi] at h
      omega
    · have := ih _ _ h; omega
theorem grp_at (gs : List Int) (h8 : ∀ g ∈ gs, 1 ≤ g) (j : Int) (i : Nat) (x : Int) (h : (ofs j gs)[i]? = some x) :
    (grp j gs)[i]? = some (x, if Al (ofs j gs) i then 0 else 5) := by
  induction gs generalizing j i with
  | nil => simp [ofs] at h
  | cons g gs ih =>
    have hg := h8 g (by simp)
    have hlen : (if g = 1 then [((j, 0) : Slot)] else List.replicate g.toNat (j, 5)).length = g.toNat := by
      split
      · rename_i h1; rw [h1]; rfl
      · simp
    have hge := ofs_ge (j + 1) gs
    have e1 : ∀ k, k < g.toNat → (ofs j (g :: gs))[k]? = some j := fun k hk => by
      simp only [ofs]
      rw [List.getElem?_append_left (by simpa using hk)]
      simp [hk]
    have e2 : ∀ k, (ofs j (g :: gs))[g.toNat + k]? = (ofs (j + 1) gs)[k]? := fun k => by
      simp only [ofs]
      rw [List.getElem?_append_right (by simp)]
      simp
    have e3 : (ofs j (g :: gs)).length = g.toNat + (ofs (j + 1) gs).length := by simp [ofs]
    have e4 : ∀ k, (ofs (j + 1) gs)[k]? ≠ some j := fun k hk => by have := hge k j hk; omega
    by_cases hi : i < g.toNat
    · have hx : x = j := by rw [e1 i hi] at h; injection h with h; exact h.symm
      subst hx
      simp only [grp]
      rw [List.getElem?_append_left (by rw [hlen]; exact hi)]
      by_cases h1 : g = 1
      · have hi0 : i = 0 := by omega
        subst hi0
        have hA : Al (ofs x (g :: gs)) 0 := by
          refine ⟨.inl rfl, ?_⟩
          by_cases hl : (ofs (x + 1) gs).length = 0
          · left; omega
          · right
            rw [e1 0 hi, show 0 + 1 = g.toNat + 0 by omega, e2 0]
            exact e4 0
        rw [if_pos h1, if_pos hA]
        rfl
      · have hA : ¬ Al (ofs x (g :: gs)) i := by
          rintro ⟨a1, a2⟩
          by_cases hi0 : i = 0
          · subst hi0
            rcases a2 with a2 | a2
            · omega
            · rw [e1 0 hi, e1 (0 + 1) (by omega)] at a2; exact a2 rfl
          · rcases a1 with a1 | a1
            · exact hi0 a1
            · rw [e1 i hi, e1 (i - 1) (by omega)] at a1; exact a1 rfl
        rw [if_neg h1, if_neg hA]
        simp [hi]
    · obtain ⟨k, rfl⟩ : ∃ k, i = g.toNat + k := ⟨i - g.toNat, by omega⟩
      rw [e2] at h
      have := ih (fun g hg => h8 g (by simp [hg])) (j + 1) k h
      simp only [grp]
      rw [List.getElem?_append_right (by rw [hlen]; omega), hlen, Nat.add_sub_cancel_left, this]
      have hAA : Al (ofs (j + 1) gs) k ↔ Al (ofs j (g :: gs)) (g.toNat + k) := by
        unfold Al
        rw [e2 k, Nat.add_assoc, e2 (k + 1), e3]
        refine and_congr ?_ (or_congr (by omega) Iff.rfl)
        by_cases hk : k = 0
        · subst hk
          refine ⟨fun _ => .inr ?_, fun _ => .inl rfl⟩
          rw [e1 (g.toNat + 0 - 1) (by omega)]
          exact fun hh => e4 0 hh.symm
        · rw [show g.toNat + k - 1 = g.toNat + (k - 1) by omega, e2]
          refine or_congr (by omega) Iff.rfl
      simp only [hAA]
end Go.Proofs.Ytdbidojncboalaa.Ct
