/- Slices of segments that are arguments, opened. -/
import Derived.Test.YtehnahikfemodaaCm
import Derived.ChangeSlices
import Derived.WideShapes
import Derived.Deep.Slices
import Derived.SizedLaws
namespace Go.Proofs.Ytehnahikfemodaa.Ct
open Go.ChangeShapes Go.WideShapes Go.RowKit Mm
theorem cell_lt {w : World} {a : Addr} {v : Value} (h : w.cell? a = some v) : a.block < w.heap.size := by
  unfold World.cell? at h
  rcases Nat.lt_or_ge a.block w.heap.size with h1 | h1
  · exact h1
  · rw [Array.getElem?_eq_none h1] at h; simp at h
theorem ex_one {H : Type} {enc : TypeId × Value → H} {W : World} {base n : Nat} {spare : Nat → Bool} {held : Bool} {a : Addr} {cs : List Value} {x : DataW H × List MemPlace}
    (hc : W.cells? base a 2 = some cs) (h : DataW.trod enc Try.prog W base spare held n 36 cs = some x) :
    ∃ p : Ex, W.cell? a = some (.int .u8 p.1) ∧ W.cell? (a.add 1) = some (.string p.2) ∧ 0 ≤ p.1 ∧ p.1 ≤ 255 := by
  obtain ⟨_, hlen, hcell⟩ := World.cells?_some hc
  obtain ⟨xs, k, hk, hxy, _, hxl, hf⟩ := DataW.trod_struct Try.underlying36 h
  have c5 : Try.prog.cellsOf 5 = 1 := by kernel_rfl
  have c9 : Try.prog.cellsOf 9 = 1 := by kernel_rfl
  match xs, hxl, cs, hlen with
  | [y0, y1], _, [v0, v1], _ =>
    have g0 : DataW.trod enc Try.prog W base spare held k 5 [v0] = some y0 := by have := hf 0 _ rfl; simpa [c5] using this
    have g1 : DataW.trod enc Try.prog W base spare held k 9 [v1] = some y1 := by have := hf 1 _ rfl; simpa [c5, c9] using this
    obtain ⟨m0, e0, _, w0⟩ := DataW.trod_int Try.underlying5 g0
    obtain ⟨m1, e1, _⟩ := DataW.trod_string Try.underlying9 g1
    simp only [List.cons.injEq, and_true] at e0 e1
    subst e0 e1
    have hr : 0 ≤ m0 ∧ m0 ≤ 255 := by simpa [Lit.wf, IntKind.min, IntKind.max, IntKind.signed, IntKind.bits] using w0
    refine ⟨⟨m0, m1⟩, ?_, by simpa using hcell 1 (by omega), hr.1, hr.2⟩
    have := hcell 0 (by omega)
    simpa [Addr.add] using this
theorem exC_at (ps : List Ex) (j : Nat) (u : Value) (h : (exC ps)[j]? = some u) : ∃ i : Nat, ∃ hi : i < ps.length, (j = i * 2 ∧ u = .int .u8 ps[i].1) ∨ (j = i * 2 + 1 ∧ u = .string ps[i].2) := by
  induction ps generalizing j with
  | nil => simp [exC] at h
  | cons p ps ih =>
    match j, h with
    | 0, h => exact ⟨0, by simp, .inl ⟨rfl, by simpa [exC] using h.symm⟩⟩
    | 1, h => exact ⟨0, by simp, .inr ⟨rfl, by simpa [exC] using h.symm⟩⟩
    | j + 2, h =>
      obtain ⟨i, hi, hh⟩ := ih j (by simpa [exC] using h)
      refine ⟨i + 1, by simpa using hi, ?_⟩
      simp only [List.getElem_cons_succ]
      rcases hh with ⟨e, u⟩ | ⟨e, u⟩
      · exact .inl ⟨by omega, u⟩
      · exact .inr ⟨by omega, u⟩
theorem open_ex_rds {H : Type} {enc : TypeId × Value → H} {W : World} {base b0 : Nat} {spare : Nat → Bool} {held : Bool} {r : Reach} {v : Value} {d : DataW H} {ps : List MemPlace} {ts : List TypeId} {ds : List (DataW H)} {j : Nat}
    (hsz : (DataW.weightsEach Try.prog ts ds).all (· ≤ reachBytes) = true) (ht : ts[j]? = some 22) (hd : ds[j]? = some d) (hv : Value.okWide Try.prog W r b0 22 v)
    (h : DataW.Trod enc Try.prog W base spare held 22 v d ps) : ∃ A m c ss, v = .slice A m c ∧ Rds W 2 A m (exC ss) ∧ ss.length = m ∧ m * 24 ≤ 140737488351232 := by
  obtain ⟨A, m, c, rfl⟩ := okWide_slice Try.underlying22 hv
  obtain ⟨fuel, hf⟩ := h
  have c36 : Try.prog.cellsOf 36 = 2 := by kernel_rfl
  have b36 : Try.prog.bytesOf 36 = 24 := by kernel_rfl
  rcases Go.Deep.open_slice Try.underlying22 hf with ⟨hcs, _⟩ | ⟨x, l, cc, mm, n, D, Pl, hcs, _, hl, hm, hmm, hx, hcell⟩
  · simp [Value.cells] at hcs
    obtain ⟨rfl, rfl, rfl⟩ := hcs
    exact ⟨none, 0, 0, [], rfl, Rds.nil, rfl, by omega⟩
  · simp [Value.cells] at hcs
    obtain ⟨rfl, rfl, rfl⟩ := hcs
    obtain ⟨rfl, _⟩ := Prod.mk.inj hx
    have z := sized_slice hsz ht hd Try.underlying22
    rw [b36] at z
    have hmle : m ≤ mm := by rw [hmm]; split <;> omega
    simp only [List.length_map, List.length_range] at z
    have each : ∀ i, i < m → ∃ p : Ex, W.cell? (x.add (i * 2)) = some (.int .u8 p.1) ∧ W.cell? ((x.add (i * 2)).add 1) = some (.string p.2) ∧ 0 ≤ p.1 ∧ p.1 ≤ 255 := fun i hi => by
      obtain ⟨cs', g1, g2⟩ := hcell i (by omega)
      rw [c36] at g1
      exact ex_one g1 g2
    obtain ⟨f, hfp⟩ : ∃ f : Nat → Ex, ∀ i, i < m → W.cell? (x.add (i * 2)) = some (.int .u8 (f i).1) ∧ W.cell? ((x.add (i * 2)).add 1) = some (.string (f i).2) ∧ 0 ≤ (f i).1 ∧ (f i).1 ≤ 255 :=
      ⟨fun i => if h : i < m then (each i h).choose else ⟨0, ByteArray.empty⟩, fun i hi => by simp only [dif_pos hi]; exact (each i hi).choose_spec⟩
    refine ⟨some x, m, c, (List.range m).map f, rfl, ⟨?_, fun h0 => ⟨x, rfl, ?_, ?_⟩⟩, by simp, by have : reachBytes = 140737488351232 := rfl; omega⟩
    · rw [exC_len]; simp
    · have := cell_lt (hfp 0 h0).1
      rwa [Mm.block_add] at this
    · intro j u hu
      obtain ⟨i, hi, hh⟩ := exC_at _ _ _ hu
      have him : i < m := by simpa using hi
      obtain ⟨q0, q1, _, _⟩ := hfp i him
      rw [Mm.add_add] at q1
      simp only [List.getElem_map, List.getElem_range] at hh
      rcases hh with ⟨rfl, rfl⟩ | ⟨rfl, rfl⟩
      · exact q0
      · exact q1
end Go.Proofs.Ytehnahikfemodaa.Ct
