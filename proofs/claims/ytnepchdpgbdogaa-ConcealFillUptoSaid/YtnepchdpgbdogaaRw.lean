/- A row of blocks in a block of memory of its own: one block written over. -/
import Derived.Test.YtnepchdpgbdogaaFl
import Derived.Test.YtnepchdpgbdogaaTw
namespace Go.Proofs.Ytnepchdpgbdogaa.Ct
open Go.ChangeShapes Go.WideShapes Go.RowKit Mm
def Row (w : World) (g : Nat) (L : List (List Int)) : Prop :=
  ∃ es : Array Value, Blk w g 48 es ∧ L.length * 64 ≤ es.size ∧ ∀ j, j < L.length → ∀ r, r < 64 → es[j * 64 + r]? = some (.int .i16 ((L.getD j []).getD r 0))
theorem Row.only {S : Nat → Prop} {w w' : World} {g : Nat} {L : List (List Int)} (h : Row w g L) (ho : Only S w w') (hg : ¬ S g) : Row w' g L := by
  obtain ⟨es, a, b, c⟩ := h
  exact ⟨es, a.only ho hg, b, c⟩
theorem Row.lt {w : World} {g : Nat} {L : List (List Int)} (h : Row w g L) : g < w.heap.size := by
  obtain ⟨es, a, _⟩ := h
  exact a.lt
theorem Row.of_own {w : World} {base g n c : Nat} {L : List (List Int)} (hL : Bls L) (h : w.ownsRow base 48 64 (.slice (some ⟨g, 0, none⟩) n c) n (bsC L)) : Row w g L := by
  obtain ⟨h1, h2⟩ := h
  rcases h2 with ⟨h0, _⟩ | ⟨g', cap, cur, hv, hb, hg, hnc, hcm, hsz, htk⟩
  · cases h0
  · injection hv with hA _ hc
    injection hA with hA
    injection hA with hA
    subst hA
    have hlen : (bsC L).length = L.length * 64 := bsC_length hL
    have hn : L.length = n := by omega
    refine ⟨cur, hg, by rw [hsz, hn]; exact Nat.mul_le_mul_right _ hnc, fun j hj r hr => ?_⟩
    have h3 := bsC_get hL j r hj hr
    rw [← htk, List.getElem?_take, if_pos (by omega)] at h3
    simpa using h3
theorem Row.there {w : World} {g i : Nat} {L : List (List Int)} (h : Row w g L) (hi : i < L.length) : w.there g (i * 64) 64 := by
  obtain ⟨es, a, b, c⟩ := h
  intro j hj
  refine ⟨?_, a.frozen _⟩
  rw [a.cell, Array.getElem?_eq_getElem (by omega)]
  rfl
theorem Row.set {w : World} {g i : Nat} {L : List (List Int)} {b : List Int} (h : Row w g L) (hi : i < L.length) (hf : b.length = 64) : Row (w.setCells g (i * 64) (blC b)) g (L.set i b) := by
  obtain ⟨es, a, h2, c⟩ := h
  have hb : (blC b).length = 64 := by rw [blC_length, hf]
  obtain ⟨fs, f1, f2, f3, f4⟩ := setCells_blk g 48 (blC b) (i * 64) w es a (by omega)
  refine ⟨fs, f1, by rw [List.length_set]; omega, fun j hj r hr => ?_⟩
  rw [List.length_set] at hj
  by_cases hji : j = i
  · subst hji
    rw [f3 r (by omega)]
    have hrl : r < b.length := by omega
    simp [blC, hrl, hj]
  · rw [f4 _ (by omega)]
    have e : (L.set i b).getD j [] = L.getD j [] := by
      have : i ≠ j := fun h => hji h.symm
      simp [List.getD, this]
    rw [e]
    exact c j hj r hr
/-- the row's front part is read -/
theorem Row.rds {w : World} {g n : Nat} {L : List (List Int)} (hL : Bls L) (h : Row w g L) (hn : n ≤ L.length) : Rds w 64 (some ⟨g, 0, none⟩) n (bsC (L.take n)) := by
  have hT : Bls (L.take n) := fun b hb => hL b (List.mem_of_mem_take hb)
  have hl : (L.take n).length = n := by rw [List.length_take]; omega
  obtain ⟨es, a, h2, c⟩ := h
  refine ⟨by rw [bsC_length hT, hl], fun _ => ⟨_, rfl, a.lt, fun j u hu => ?_⟩⟩
  have hj := (List.getElem?_eq_some_iff.1 hu).1
  rw [bsC_length hT, hl] at hj
  rw [Mm.add_plain, a.cell]
  have h3 := bsC_get hT (j / 64) (j % 64) (by omega) (by omega)
  rw [show j / 64 * 64 + j % 64 = j by omega, hu] at h3
  have h4 := c (j / 64) (by omega) (j % 64) (by omega)
  rw [show j / 64 * 64 + j % 64 = j by omega] at h4
  have e : (L.take n).getD (j / 64) [] = L.getD (j / 64) [] := by
    have : j / 64 < n := by omega
    simp [List.getD, this]
  rw [h4, h3, e]
theorem bls_set {L : List (List Int)} (hL : Bls L) (i : Nat) {b : List Int} (hb : b.length = 64 ∧ ∀ v ∈ b, -32768 ≤ v ∧ v ≤ 32767) : Bls (L.set i b) := by
  intro x hx
  rcases List.mem_or_eq_of_mem_set hx with h | h
  · exact hL x h
  · rw [h]; exact hb
theorem bls_append {L M : List (List Int)} (hL : Bls L) (hM : Bls M) : Bls (L ++ M) := by
  intro x hx
  rcases List.mem_append.1 hx with h | h
  · exact hL x h
  · exact hM x h
theorem bls_marks (n : Nat) : Bls (marks n) := by
  intro x hx
  obtain ⟨_, rfl⟩ := List.mem_replicate.1 hx
  refine ⟨rfl, fun v hv => ?_⟩
  rcases List.mem_cons.1 hv with h | h
  · omega
  · have := (List.mem_replicate.1 h).2; omega
section
variable {ops : Array Oper} {rest : List Oper} {a : Act} {w : World} {Q : Exit → Act → World → Prop} {d : Option Tmp} {x y : Operand} {ty : TypeId} {p : String} {af : Array Edge}
theorem wl_storeRow (g i : Nat) (L : List (List Int)) (b : List Int) (ad : Addr) (hx : a.eval x = .pointer (some ad)) (had : ad = ⟨g, i * 64, none⟩) (hy : a.eval y = .agg (blC b).toArray) (hp : Row w g L) (hi : i < L.length) (hf : b.length = 64)
    (h : ∀ w', Row w' g (L.set i b) → Only (One g) w w' → wpList Try.prog ops Q rest (a.put d undef) w') : wpList Try.prog ops Q (⟨d, .store 48 x y, ty, p, af, none⟩ :: rest) a w := by
  subst had
  have hb : (blC b).length = 64 := by rw [blC_length, hf]
  refine wpList_store_mid rfl 48 x y rfl g (i * 64) (blC b).toArray hx hy (by rw [List.size_toArray, hb]; exact hp.there hi) (by rw [info48, List.size_toArray, hb]) (all_oneCell_toArray (blC_one _)) ?_
  rw [List.toList_toArray]
  exact h _ (hp.set hi hf) (setCells_only (S := One g) g (.inl rfl) _ _ w (Only.refl _ _))
end
end Go.Proofs.Ytnepchdpgbdogaa.Ct
