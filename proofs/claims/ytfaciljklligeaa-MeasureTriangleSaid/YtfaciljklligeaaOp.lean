/- Arguments opened: bytes, floats, images. -/
import Derived.Test.YtfaciljklligeaaAp
import Derived.ChangeSlices
import Derived.WideShapes
import Derived.OpenShut
import Derived.Deep.Slices
import Derived.SizedLaws
namespace Go.Proofs.Ytfaciljklligeaa.Ct
open Go.ChangeShapes Go.WideShapes Go.RowKit Mm
theorem cell_lt {w : World} {a : Addr} {v : Value} (h : w.cell? a = some v) : a.block < w.heap.size := by
  unfold World.cell? at h
  rcases Nat.lt_or_ge a.block w.heap.size with h1 | h1
  · exact h1
  · rw [Array.getElem?_eq_none h1] at h; simp at h
section
variable {H : Type} {enc : TypeId × Value → H} {W : World} {base n : Nat} {spare : Nat → Bool} {held : Bool} {cs : List Value} {x : DataW H × List MemPlace}
theorem open_bytes (h : DataW.trod enc Try.prog W base spare held n 30 cs = some x) : ∃ A m c l, cs = [.slice A m c] ∧ Rds W 1 A m (byC l) ∧ l.length = m ∧ Byts l ∧ ((∀ k ∈ x.1.weights Try.prog 30, k ≤ reachBytes) → m ≤ 140737488351232) := by
  rcases Go.Deep.open_slice1 Try.underlying30 (by kernel_rfl) h with ⟨rfl, rfl⟩ | ⟨a, m, c, mm, k, V, D, Pl, rfl, _, hl, hm, hmm, rfl, hx⟩
  · exact ⟨none, 0, 0, [], rfl, Rds.nil, rfl, fun b hb => by simp at hb, fun _ => by omega⟩
  · have hmle : m ≤ mm := by rw [hmm]; split <;> omega
    have each : ∀ i, i < m → ∃ b : Nat, W.cell? (a.add i) = some (.int .u8 (b : Int)) ∧ b ≤ 255 := fun i hi => by
      obtain ⟨h1, h2⟩ := hx i (by omega)
      obtain ⟨v, e, _, hw⟩ := DataW.trod_int Try.underlying5 h2
      simp only [List.cons.injEq, and_true] at e
      have hb := bounds_u8 hw
      exact ⟨v.toNat, by rw [h1, e]; simp; omega, by omega⟩
    obtain ⟨f, hf⟩ := Go.Deep.choose_lt each
    refine ⟨some a, m, c, (List.range m).map f, rfl, ⟨by simp [byC], fun h0 => ⟨a, rfl, ?_, fun j u hu => ?_⟩⟩, by simp, fun b hb => ?_, fun hw => ?_⟩
    · have := cell_lt (hf 0 h0).1
      rwa [Mm.block_add] at this
    · have hj : j < m := by have := (List.getElem?_eq_some_iff.1 hu).1; simpa [byC] using this
      rw [(hf j hj).1]
      simpa [byC, hj] using hu
    · obtain ⟨i, hi, rfl⟩ := List.mem_map.1 hb
      exact (hf i (List.mem_range.1 hi)).2
    · have := hw _ (by simp only [DataW.weights, Try.underlying30]; exact List.mem_cons_self)
      have hb : Try.prog.bytesOf 5 = 1 := by kernel_rfl
      rw [hb] at this
      simp [reachBytes] at this
      omega
theorem open_floats (h : DataW.trod enc Try.prog W base spare held n 22 cs = some x) : ∃ A m c l, cs = [.slice A m c] ∧ Rds W 1 A m (flC l) ∧ l.length = m ∧ (∀ b ∈ l, b < 2 ^ 64) ∧ ((∀ k ∈ x.1.weights Try.prog 22, k ≤ reachBytes) → m ≤ 17592186043904) := by
  rcases Go.Deep.open_slice1 Try.underlying22 (by kernel_rfl) h with ⟨rfl, rfl⟩ | ⟨a, m, c, mm, k, V, D, Pl, rfl, _, hl, hm, hmm, rfl, hx⟩
  · exact ⟨none, 0, 0, [], rfl, Rds.nil, rfl, fun b hb => by simp at hb, fun _ => by omega⟩
  · have hmle : m ≤ mm := by rw [hmm]; split <;> omega
    have each : ∀ i, i < m → ∃ b : Nat, W.cell? (a.add i) = some (.float .f64 b) ∧ b < 2 ^ 64 := fun i hi => by
      obtain ⟨h1, h2⟩ := hx i (by omega)
      have h3 : ∃ b, V i = .float .f64 b ∧ (Lit.float .f64 b).wf = true := by
        cases hk : k with
        | zero => rw [hk] at h2; simp [DataW.trod] at h2
        | succ m =>
          rw [hk] at h2
          simp only [DataW.trod, Try.underlying25] at h2
          cases hv : V i <;> rw [hv] at h2 <;> simp at h2
          rename_i k' b
          obtain ⟨⟨rfl, hw⟩, _⟩ := h2
          exact ⟨b, rfl, hw⟩
      obtain ⟨b, e, hw⟩ := h3
      simp only [Lit.wf, decide_eq_true_eq] at hw
      exact ⟨b, by rw [h1, e], hw⟩
    obtain ⟨f, hf⟩ := Go.Deep.choose_lt each
    refine ⟨some a, m, c, (List.range m).map f, rfl, ⟨by simp [flC], fun h0 => ⟨a, rfl, ?_, fun j u hu => ?_⟩⟩, by simp, fun b hb => ?_, fun hw => ?_⟩
    · have := cell_lt (hf 0 h0).1
      rwa [Mm.block_add] at this
    · have hj : j < m := by have := (List.getElem?_eq_some_iff.1 hu).1; simpa [flC] using this
      rw [(hf j hj).1]
      simpa [flC, hj] using hu
    · obtain ⟨i, hi, rfl⟩ := List.mem_map.1 hb
      exact (hf i (List.mem_range.1 hi)).2
    · have := hw _ (by simp only [DataW.weights, Try.underlying22]; exact List.mem_cons_self)
      have hb : Try.prog.bytesOf 25 = 8 := by kernel_rfl
      rw [hb] at this
      simp [reachBytes] at this
      omega
/-- an image that is an argument -/
theorem open_image {r : Reach} {b0 : Nat} {v : Value} {d : DataW H} {ps : List MemPlace} (hv : Value.okWide Try.prog W r b0 32 v) (h : DataW.Trod enc Try.prog W base spare held 32 v d ps) :
    ∃ iw ih ic A c l, v = imgV iw ih ic A l.length c ∧ Rds W 1 A l.length (byC l) ∧ Byts l ∧ ((∀ k ∈ d.weights Try.prog 32, k ≤ reachBytes) → l.length ≤ 140737488351232) := by
  obtain ⟨cs, rfl, hcs⟩ := okWide_struct Try.underlying32 hv
  obtain ⟨fuel, hf0⟩ := h
  have c3 : Try.prog.cellsOf 3 = 1 := by kernel_rfl
  have c30 : Try.prog.cellsOf 30 = 1 := by kernel_rfl
  have c32 : Try.prog.cellsOf 32 = 4 := by kernel_rfl
  obtain ⟨xs, k, hk, hxy, hlen, hxl, hf⟩ := DataW.trod_struct Try.underlying32 hf0
  rw [c32] at hlen
  obtain ⟨cl, rfl⟩ : ∃ cl : List Value, cs = cl.toArray := ⟨cs.toList, by simp⟩
  have hc0 : (Value.agg cl.toArray).cells.toList = cl := by simp [Value.cells]
  rw [hc0] at hf hlen
  match xs, hxl, cl, hlen with
  | [y0, y1, y2, y3], _, [v0, v1, v2, v3], _ =>
    have g0 : DataW.trod enc Try.prog W base spare held k 3 [v0] = some y0 := by have := hf 0 _ rfl; simpa [c3] using this
    have g1 : DataW.trod enc Try.prog W base spare held k 3 [v1] = some y1 := by have := hf 1 _ rfl; simpa [c3] using this
    have g2 : DataW.trod enc Try.prog W base spare held k 3 [v2] = some y2 := by have := hf 2 _ rfl; simpa [c3] using this
    have g3 : DataW.trod enc Try.prog W base spare held k 30 [v3] = some y3 := by have := hf 3 _ rfl; simpa [c30] using this
    obtain ⟨m0, e0, _, w0⟩ := DataW.trod_int Try.underlying3 g0
    obtain ⟨m1, e1, _, w1⟩ := DataW.trod_int Try.underlying3 g1
    obtain ⟨m2, e2, _, w2⟩ := DataW.trod_int Try.underlying3 g2
    obtain ⟨A, m, c, l, e3, hr3, hl3, hb3, hu3⟩ := open_bytes g3
    simp only [List.cons.injEq, and_true] at e0 e1 e2 e3
    subst e0 e1 e2 e3 hl3
    refine ⟨m0, m1, m2, A, c, l, rfl, hr3, hb3, fun hw => hu3 fun k hk => hw k ?_⟩
    have hd := (Prod.mk.inj hxy).1
    rw [hd]
    simp only [List.map_cons, List.map_nil, DataW.weights, Try.underlying32, DataW.weightsEach, List.mem_append]
    first | exact Or.inr (Or.inr (Or.inr (Or.inl hk))) | simp [hk]
end
end Go.Proofs.Ytfaciljklligeaa.Ct
