/- Slices that are arguments, opened. -/
import Derived.Test.YtdbidojncboalaaPlace
import Derived.ChangeSlices
import Derived.WideShapes
import Derived.Deep.Slices
import Derived.SizedLaws
namespace Go.Proofs.Ytdbidojncboalaa.Ct
open Go.ChangeShapes Go.WideShapes Go.RowKit Mm Rs
theorem cell_lt {w : World} {a : Addr} {v : Value} (h : w.cell? a = some v) : a.block < w.heap.size := by
  unfold World.cell? at h
  rcases Nat.lt_or_ge a.block w.heap.size with h1 | h1
  · exact h1
  · rw [Array.getElem?_eq_none h1] at h; simp at h
theorem open_ints_rds {H : Type} {enc : TypeId × Value → H} {W : World} {base b0 : Nat} {spare : Nat → Bool} {held : Bool} {r : Reach} {v : Value} {d : DataW H} {ps : List MemPlace} (hv : Value.okWide Try.prog W r b0 39 v)
    (h : DataW.Trod enc Try.prog W base spare held 39 v d ps) : ∃ A m c ss, v = .slice A m c ∧ Rds W 1 A m (inC ss) ∧ ss.length = m := by
  obtain ⟨A, m, c, rfl⟩ := okWide_slice Try.underlying39 hv
  obtain ⟨fuel, hf⟩ := h
  rcases open_ints Try.underlying39 Try.underlying3 (by kernel_rfl) hf with ⟨hcs, _⟩ | ⟨x, l, cc, zs, hcs, _, hl, hm, hz, _, hcell, hwz⟩
  · simp [Value.cells] at hcs
    obtain ⟨rfl, rfl, rfl⟩ := hcs
    exact ⟨none, 0, 0, [], rfl, Rds.nil, rfl⟩
  · simp [Value.cells] at hcs
    obtain ⟨rfl, rfl, rfl⟩ := hcs
    have hmz : m ≤ zs.length := by rw [hz]; split <;> omega
    have ht : (zs.take m).length = m := by rw [List.length_take]; omega
    refine ⟨some x, m, c, zs.take m, rfl, ⟨by simp only [inC, List.length_map, ht]; omega, fun h0 => ⟨x, rfl, ?_, ?_⟩⟩, ht⟩
    · have := cell_lt (hcell 0 (by omega))
      rwa [Mm.block_add] at this
    · intro j u hu
      unfold inC at hu
      rw [List.getElem?_map, List.getElem?_take] at hu
      split at hu
      · rename_i hj
        rw [List.getElem?_eq_getElem (by omega)] at hu
        simp at hu
        rw [hcell j (by omega), ← hu]
        simp [List.getD, List.getElem?_eq_getElem (show j < zs.length by omega)]
      · cases hu
theorem pieces_one {H : Type} {enc : TypeId × Value → H} {W : World} {base n : Nat} {spare : Nat → Bool} {held : Bool} {a : Addr} {cs : List Value} {x : DataW H × List MemPlace}
    (hc : W.cells? base a 4 = some cs) (h : DataW.trod enc Try.prog W base spare held n 32 cs = some x) :
    ∃ p : Piece, W.cell? a = some (.int .i64 p.a) ∧ W.cell? (a.add 1) = some (.int .i64 p.b) ∧ W.cell? (a.add 2) = some (.int .i8 p.r) ∧ W.cell? (a.add 3) = some (.int .i64 p.d) ∧ -128 ≤ p.r ∧ p.r ≤ 127 := by
  obtain ⟨_, hlen, hcell⟩ := World.cells?_some hc
  obtain ⟨xs, k, hk, hxy, _, hxl, hf⟩ := DataW.trod_struct Try.underlying32 h
  have c3 : Try.prog.cellsOf 3 = 1 := by kernel_rfl
  have c30 : Try.prog.cellsOf 30 = 1 := by kernel_rfl
  match xs, hxl, cs, hlen with
  | [y0, y1, y2, y3], _, [v0, v1, v2, v3], _ =>
    have g0 : DataW.trod enc Try.prog W base spare held k 3 [v0] = some y0 := by have := hf 0 _ rfl; simpa [c3] using this
    have g1 : DataW.trod enc Try.prog W base spare held k 3 [v1] = some y1 := by have := hf 1 _ rfl; simpa [c3] using this
    have g2 : DataW.trod enc Try.prog W base spare held k 30 [v2] = some y2 := by have := hf 2 _ rfl; simpa [c30] using this
    have g3 : DataW.trod enc Try.prog W base spare held k 3 [v3] = some y3 := by have := hf 3 _ rfl; simpa [c3] using this
    obtain ⟨m0, e0, _, w0⟩ := DataW.trod_int Try.underlying3 g0
    obtain ⟨m1, e1, _, w1⟩ := DataW.trod_int Try.underlying3 g1
    obtain ⟨m2, e2, _, w2⟩ := DataW.trod_int Try.underlying30 g2
    obtain ⟨m3, e3, _, w3⟩ := DataW.trod_int Try.underlying3 g3
    simp only [List.cons.injEq, and_true] at e0 e1 e2 e3
    subst e0 e1 e2 e3
    have hr : -128 ≤ m2 ∧ m2 ≤ 127 := by simpa [Lit.wf, IntKind.min, IntKind.max, IntKind.signed, IntKind.bits] using w2
    refine ⟨⟨m0, m1, m2, m3⟩, ?_, by simpa using hcell 1 (by omega), by simpa using hcell 2 (by omega), by simpa using hcell 3 (by omega), hr.1, hr.2⟩
    have := hcell 0 (by omega)
    simpa [Addr.add] using this
theorem pcC_at (ps : List Piece) (j : Nat) (u : Value) (h : (pcC ps)[j]? = some u) : ∃ i : Nat, ∃ hi : i < ps.length, (j = i * 4 ∧ u = .int .i64 ps[i].a) ∨ (j = i * 4 + 1 ∧ u = .int .i64 ps[i].b) ∨ (j = i * 4 + 2 ∧ u = .int .i8 ps[i].r) ∨ (j = i * 4 + 3 ∧ u = .int .i64 ps[i].d) := by
  induction ps generalizing j with
  | nil => simp [pcC] at h
  | cons p ps ih =>
    match j, h with
    | 0, h => exact ⟨0, by simp, .inl ⟨rfl, by simpa [pcC] using h.symm⟩⟩
    | 1, h => exact ⟨0, by simp, .inr (.inl ⟨rfl, by simpa [pcC] using h.symm⟩)⟩
    | 2, h => exact ⟨0, by simp, .inr (.inr (.inl ⟨rfl, by simpa [pcC] using h.symm⟩))⟩
    | 3, h => exact ⟨0, by simp, .inr (.inr (.inr ⟨rfl, by simpa [pcC] using h.symm⟩))⟩
    | j + 4, h =>
      obtain ⟨i, hi, hh⟩ := ih j (by simpa [pcC] using h)
      refine ⟨i + 1, by simpa using hi, ?_⟩
      simp only [List.getElem_cons_succ]
      rcases hh with ⟨e, u⟩ | ⟨e, u⟩ | ⟨e, u⟩ | ⟨e, u⟩
      · exact .inl ⟨by omega, u⟩
      · exact .inr (.inl ⟨by omega, u⟩)
      · exact .inr (.inr (.inl ⟨by omega, u⟩))
      · exact .inr (.inr (.inr ⟨by omega, u⟩))
theorem open_pieces_rds {H : Type} {enc : TypeId × Value → H} {W : World} {base b0 : Nat} {spare : Nat → Bool} {held : Bool} {r : Reach} {v : Value} {d : DataW H} {ps : List MemPlace} {ts : List TypeId} {ds : List (DataW H)} {j : Nat}
    (hsz : (DataW.weightsEach Try.prog ts ds).all (· ≤ reachBytes) = true) (ht : ts[j]? = some 22) (hd : ds[j]? = some d) (hv : Value.okWide Try.prog W r b0 22 v)
    (h : DataW.Trod enc Try.prog W base spare held 22 v d ps) : ∃ A m c ss, v = .slice A m c ∧ Rds W 4 A m (pcC ss) ∧ ss.length = m ∧ (∀ p ∈ ss, -128 ≤ p.r ∧ p.r ≤ 127) ∧ m * 32 ≤ 140737488351232 := by
  obtain ⟨A, m, c, rfl⟩ := okWide_slice Try.underlying22 hv
  obtain ⟨fuel, hf⟩ := h
  have c32 : Try.prog.cellsOf 32 = 4 := by kernel_rfl
  have b32 : Try.prog.bytesOf 32 = 32 := by kernel_rfl
  rcases Go.Deep.open_slice Try.underlying22 hf with ⟨hcs, _⟩ | ⟨x, l, cc, mm, n, D, Pl, hcs, _, hl, hm, hmm, hx, hcell⟩
  · simp [Value.cells] at hcs
    obtain ⟨rfl, rfl, rfl⟩ := hcs
    exact ⟨none, 0, 0, [], rfl, Rds.nil, rfl, by simp, by omega⟩
  · simp [Value.cells] at hcs
    obtain ⟨rfl, rfl, rfl⟩ := hcs
    obtain ⟨rfl, _⟩ := Prod.mk.inj hx
    have z := sized_slice hsz ht hd Try.underlying22
    rw [b32] at z
    have hmle : m ≤ mm := by rw [hmm]; split <;> omega
    simp only [List.length_map, List.length_range] at z
    have each : ∀ i, i < m → ∃ p : Piece, W.cell? (x.add (i * 4)) = some (.int .i64 p.a) ∧ W.cell? ((x.add (i * 4)).add 1) = some (.int .i64 p.b) ∧ W.cell? ((x.add (i * 4)).add 2) = some (.int .i8 p.r) ∧ W.cell? ((x.add (i * 4)).add 3) = some (.int .i64 p.d) ∧ -128 ≤ p.r ∧ p.r ≤ 127 := fun i hi => by
      obtain ⟨cs', g1, g2⟩ := hcell i (by omega)
      rw [c32] at g1
      exact pieces_one g1 g2
    obtain ⟨f, hfp⟩ : ∃ f : Nat → Piece, ∀ i, i < m → W.cell? (x.add (i * 4)) = some (.int .i64 (f i).a) ∧ W.cell? ((x.add (i * 4)).add 1) = some (.int .i64 (f i).b) ∧ W.cell? ((x.add (i * 4)).add 2) = some (.int .i8 (f i).r) ∧ W.cell? ((x.add (i * 4)).add 3) = some (.int .i64 (f i).d) ∧ -128 ≤ (f i).r ∧ (f i).r ≤ 127 :=
      ⟨fun i => if h : i < m then (each i h).choose else ⟨0, 0, 0, 0⟩, fun i hi => by simp only [dif_pos hi]; exact (each i hi).choose_spec⟩
    refine ⟨some x, m, c, (List.range m).map f, rfl, ⟨?_, fun h0 => ⟨x, rfl, ?_, ?_⟩⟩, by simp, ?_, by have : reachBytes = 140737488351232 := rfl; omega⟩
    · have : ∀ l : List Piece, (pcC l).length = l.length * 4 := fun l => by
        induction l with
        | nil => rfl
        | cons a l ih => simp only [pcC, List.flatMap_cons, List.length_append, List.length_cons, List.length_nil] at ih ⊢; omega
      rw [this]; simp
    · have := cell_lt (hfp 0 h0).1
      rwa [Mm.block_add] at this
    · intro j u hu
      obtain ⟨i, hi, hh⟩ := pcC_at _ _ _ hu
      have him : i < m := by simpa using hi
      obtain ⟨q0, q1, q2, q3, _, _⟩ := hfp i him
      rw [Mm.add_add] at q1 q2 q3
      simp only [List.getElem_map, List.getElem_range] at hh
      rcases hh with ⟨rfl, rfl⟩ | ⟨rfl, rfl⟩ | ⟨rfl, rfl⟩ | ⟨rfl, rfl⟩
      · exact q0
      · exact q1
      · exact q2
      · exact q3
    · intro p hp
      obtain ⟨i, hi, rfl⟩ := List.mem_map.1 hp
      exact (hfp i (by simpa using hi)).2.2.2.2
end Go.Proofs.Ytdbidojncboalaa.Ct
