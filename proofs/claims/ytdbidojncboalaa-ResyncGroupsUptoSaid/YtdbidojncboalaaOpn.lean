/- Slices that are arguments, opened. -/
import Derived.Test.YtdbidojncboalaaPlace
import Derived.ChangeSlices
import Derived.WideShapes
import Derived.Deep.Slices
namespace Go.Proofs.Ytdbidojncboalaa.Ct
open Go.ChangeShapes Go.WideShapes Go.RowKit Mm Rs
theorem cell_lt {w : World} {a : Addr} {v : Value} (h : w.cell? a = some v) : a.block < w.heap.size := by
  unfold World.cell? at h
  rcases Nat.lt_or_ge a.block w.heap.size with h1 | h1
  · exact h1
  · rw [Array.getElem?_eq_none h1] at h; simp at h
theorem open_ints_rds {H : Type} {enc : TypeId × Value → H} {W : World} {base b0 : Nat} {spare : Nat → Bool} {held : Bool} {r : Reach} {v : Value} {d : DataW H} {ps : List MemPlace} (hv : Value.okWide Try.prog W r b0 39 v)
    (h : DataW.Trod enc Try.prog W base spare held 39 v d ps) : ∃ A m c ss, v = .slice A m c ∧ Rds W 1 A m (inC ss) ∧ ss.length = m := by
  obtain ⟨A, m, c, rfl⟩ := okWide_slice Try.underlying39 hv
  obtain ⟨fuel, hf⟩ := h
  rcases open_ints Try.underlying39 Try.underlying3 (by kernel_rfl) hf with ⟨hcs, _⟩ | ⟨x, l, cc, zs, hcs, _, hl, hm, hz, _, hcell, hwz⟩
  · simp [Value.cells] at hcs
    obtain ⟨rfl, rfl, rfl⟩ := hcs
    exact ⟨none, 0, 0, [], rfl, Rds.nil, rfl⟩
  · simp [Value.cells] at hcs
    obtain ⟨rfl, rfl, rfl⟩ := hcs
    have hmz : m ≤ zs.length := by rw [hz]; split <;> omega
    have ht : (zs.take m).length = m := by rw [List.length_take]; omega
    refine ⟨some x, m, c, zs.take m, rfl, ⟨by simp only [inC, List.length_map, ht]; omega, fun h0 => ⟨x, rfl, ?_, ?_⟩⟩, ht⟩
    · have := cell_lt (hcell 0 (by omega))
      rwa [Mm.block_add] at this
    · intro j u hu
      unfold inC at hu
      rw [List.getElem?_map, List.getElem?_take] at hu
      split at hu
      · rename_i hj
        rw [List.getElem?_eq_getElem (by omega)] at hu
        simp at hu
        rw [hcell j (by omega), ← hu]
        simp [List.getD, List.getElem?_eq_getElem (show j < zs.length by omega)]
      · cases hu
end Go.Proofs.Ytdbidojncboalaa.Ct
