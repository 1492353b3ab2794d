/- Slices of segments that are arguments, opened, with their texts' bytes. -/
import Derived.Test.YtehnahikfemodaaOpn
import Derived.Test.YtehnahikfemodaaPr
namespace Go.Proofs.Ytehnahikfemodaa.Ct
open Go.ChangeShapes Go.WideShapes Go.RowKit Mm
theorem ex_onez {H : Type} {enc : TypeId × Value → H} {W : World} {base n : Nat} {spare : Nat → Bool} {held : Bool} {a : Addr} {cs : List Value} {x : DataW H × List MemPlace}
    (hc : W.cells? base a 2 = some cs) (h : DataW.trod enc Try.prog W base spare held n 36 cs = some x) :
    ∃ p : Ex, W.cell? a = some (.int .u8 p.1) ∧ W.cell? (a.add 1) = some (.string p.2) ∧ 0 ≤ p.1 ∧ p.1 ≤ 255 ∧ p.2.size ≤ maxLen ∧ p.2.size ≤ Rows.uptoBulk x.1 := by
  obtain ⟨_, hlen, hcell⟩ := World.cells?_some hc
  obtain ⟨xs, k, hk, hxy, _, hxl, hf⟩ := DataW.trod_struct Try.underlying36 h
  have c5 : Try.prog.cellsOf 5 = 1 := by kernel_rfl
  have c9 : Try.prog.cellsOf 9 = 1 := by kernel_rfl
  match xs, hxl, cs, hlen with
  | [y0, y1], _, [v0, v1], _ =>
    have g0 : DataW.trod enc Try.prog W base spare held k 5 [v0] = some y0 := by have := hf 0 _ rfl; simpa [c5] using this
    have g1 : DataW.trod enc Try.prog W base spare held k 9 [v1] = some y1 := by have := hf 1 _ rfl; simpa [c5, c9] using this
    obtain ⟨m0, e0, _, w0⟩ := DataW.trod_int Try.underlying5 g0
    obtain ⟨m1, e1, e1', w1⟩ := DataW.trod_string Try.underlying9 g1
    simp only [List.cons.injEq, and_true] at e0 e1
    subst e0 e1
    have hr : 0 ≤ m0 ∧ m0 ≤ 255 := by simpa [Lit.wf, IntKind.min, IntKind.max, IntKind.signed, IntKind.bits] using w0
    refine ⟨⟨m0, m1⟩, ?_, by simpa using hcell 1 (by omega), hr.1, hr.2, w1, ?_⟩
    · have := hcell 0 (by omega)
      simpa [Addr.add] using this
    · rw [hxy, e1']
      simp only [List.map_cons, List.map_nil, Rows.uptoBulk, Rows.uptoBulkAll]
      have : m1.data.toList.length = m1.size := by rw [Array.length_toList]; rfl
      omega
theorem bulk_sum {H : Type} (D : Nat → DataW H) (f : Nat → Ex) (m : Nat) (h : ∀ i, i < m → (f i).2.size ≤ Rows.uptoBulk (D i)) : szl ((List.range m).map f) ≤ Rows.uptoBulkAll ((List.range m).map D) := by
  have key : ∀ l : List Nat, (∀ i ∈ l, i < m) → szl (l.map f) ≤ Rows.uptoBulkAll (l.map D) := by
    intro l
    induction l with
    | nil => intro _; simp [szl]
    | cons a l ih =>
      intro hl
      have h1 := h a (hl a (by simp))
      have h2 := ih (fun i hi => hl i (by simp [hi]))
      unfold szl at h2 ⊢
      simp only [List.map_cons, List.sum_cons, Rows.uptoBulkAll]
      omega
  exact key _ (fun i hi => List.mem_range.1 hi)
theorem bulk_pos {H : Type} (d : DataW H) : 1 ≤ Rows.uptoBulk d := by
  cases d with
  | lit v => cases v <;> simp [Rows.uptoBulk]
  | _ => simp [Rows.uptoBulk]
theorem bulk_len {H : Type} (l : List (DataW H)) : l.length ≤ Rows.uptoBulkAll l := by
  induction l with
  | nil => simp
  | cons a l ih =>
    have := bulk_pos a
    simp only [List.length_cons, Rows.uptoBulkAll]
    omega
theorem open_ex_z {H : Type} {enc : TypeId × Value → H} {W : World} {base b0 : Nat} {spare : Nat → Bool} {held : Bool} {r : Reach} {v : Value} {d : DataW H} {ps : List MemPlace} {ts : List TypeId} {ds : List (DataW H)} {j : Nat}
    (hsz : (DataW.weightsEach Try.prog ts ds).all (· ≤ reachBytes) = true) (ht : ts[j]? = some 22) (hd : ds[j]? = some d) (hv : Value.okWide Try.prog W r b0 22 v)
    (h : DataW.Trod enc Try.prog W base spare held 22 v d ps) : ∃ A m c ss, v = .slice A m c ∧ Rds W 2 A m (exC ss) ∧ ss.length = m ∧ m * 24 ≤ 140737488351232 ∧ (∀ x ∈ ss, x.2.size ≤ maxLen) ∧ szl ss ≤ Rows.uptoBulk d ∧ (∀ x ∈ ss, 0 ≤ x.1 ∧ x.1 ≤ 255) ∧ m ≤ Rows.uptoBulk d := by
  obtain ⟨A, m, c, rfl⟩ := okWide_slice Try.underlying22 hv
  obtain ⟨fuel, hf⟩ := h
  have c36 : Try.prog.cellsOf 36 = 2 := by kernel_rfl
  have b36 : Try.prog.bytesOf 36 = 24 := by kernel_rfl
  rcases Go.Deep.open_slice Try.underlying22 hf with ⟨hcs, _⟩ | ⟨x, l, cc, mm, n, D, Pl, hcs, _, hl, hm, hmm, hx, hcell⟩
  · simp [Value.cells] at hcs
    obtain ⟨rfl, rfl, rfl⟩ := hcs
    refine ⟨none, 0, 0, [], rfl, Rds.nil, rfl, by omega, ?_, ?_, ?_, ?_⟩ <;> simp [szl]
  · simp [Value.cells] at hcs
    obtain ⟨rfl, rfl, rfl⟩ := hcs
    obtain ⟨rfl, _⟩ := Prod.mk.inj hx
    have z := sized_slice hsz ht hd Try.underlying22
    rw [b36] at z
    have hmle : m ≤ mm := by rw [hmm]; split <;> omega
    simp only [List.length_map, List.length_range] at z
    have each : ∀ i, i < m → ∃ p : Ex, W.cell? (x.add (i * 2)) = some (.int .u8 p.1) ∧ W.cell? ((x.add (i * 2)).add 1) = some (.string p.2) ∧ 0 ≤ p.1 ∧ p.1 ≤ 255 ∧ p.2.size ≤ maxLen ∧ p.2.size ≤ Rows.uptoBulk (D i) := fun i hi => by
      obtain ⟨cs', g1, g2⟩ := hcell i (by omega)
      rw [c36] at g1
      exact ex_onez g1 g2
    obtain ⟨f, hfp⟩ : ∃ f : Nat → Ex, ∀ i, i < m → W.cell? (x.add (i * 2)) = some (.int .u8 (f i).1) ∧ W.cell? ((x.add (i * 2)).add 1) = some (.string (f i).2) ∧ 0 ≤ (f i).1 ∧ (f i).1 ≤ 255 ∧ (f i).2.size ≤ maxLen ∧ (f i).2.size ≤ Rows.uptoBulk (D i) :=
      ⟨fun i => if h : i < m then (each i h).choose else ⟨0, ByteArray.empty⟩, fun i hi => by simp only [dif_pos hi]; exact (each i hi).choose_spec⟩
    refine ⟨some x, m, c, (List.range m).map f, rfl, ⟨?_, fun h0 => ⟨x, rfl, ?_, ?_⟩⟩, by simp, by have : reachBytes = 140737488351232 := rfl; omega, ?_, ?_, ?_, ?_⟩
    · rw [exC_len]; simp
    · have := cell_lt (hfp 0 h0).1
      rwa [Mm.block_add] at this
    · intro j u hu
      obtain ⟨i, hi, hh⟩ := exC_at _ _ _ hu
      have him : i < m := by simpa using hi
      obtain ⟨q0, q1, _, _⟩ := hfp i him
      rw [Mm.add_add] at q1
      simp only [List.getElem_map, List.getElem_range] at hh
      rcases hh with ⟨rfl, rfl⟩ | ⟨rfl, rfl⟩
      · exact q0
      · exact q1
    · intro y hy
      obtain ⟨i, hi, rfl⟩ := List.mem_map.1 hy
      exact (hfp i (List.mem_range.1 hi)).2.2.2.2.1
    · have := bulk_sum D f m (fun i hi => (hfp i hi).2.2.2.2.2)
      simp only [Rows.uptoBulk]
      omega
    · intro y hy
      obtain ⟨i, hi, rfl⟩ := List.mem_map.1 hy
      exact ⟨(hfp i (List.mem_range.1 hi)).2.2.1, (hfp i (List.mem_range.1 hi)).2.2.2.1⟩
    · have := bulk_len ((List.range m).map D)
      simp only [List.length_map, List.length_range] at this
      simp only [Rows.uptoBulk]
      omega
theorem open_ints_z {H : Type} {enc : TypeId × Value → H} {W : World} {base b0 : Nat} {spare : Nat → Bool} {held : Bool} {r : Reach} {v : Value} {d : DataW H} {ps : List MemPlace} (hv : Value.okWide Try.prog W r b0 40 v)
    (h : DataW.Trod enc Try.prog W base spare held 40 v d ps) : ∃ (A : Option Addr) (m c : Nat) (ss : List Int), v = .slice A m c ∧ Rds W 1 A m (ss.map (Value.int .i64)) ∧ ss.length = m ∧ m ≤ Rows.uptoBulk d ∧ m ≤ maxLen := by
  obtain ⟨A, m, c, rfl⟩ := okWide_slice Try.underlying40 hv
  obtain ⟨fuel, hf⟩ := h
  rcases open_ints Try.underlying40 Try.underlying3 (by kernel_rfl) hf with ⟨hcs, _⟩ | ⟨x, l, cc, zs, hcs, _, hl, hm, hz, hx, hcell, hwz⟩
  · simp [Value.cells] at hcs
    obtain ⟨rfl, rfl, rfl⟩ := hcs
    exact ⟨none, 0, 0, [], rfl, Rds.nil, rfl, by omega, by omega⟩
  · simp [Value.cells] at hcs
    obtain ⟨rfl, rfl, rfl⟩ := hcs
    have hmz : m ≤ zs.length := by rw [hz]; split <;> omega
    have ht : (zs.take m).length = m := by rw [List.length_take]; omega
    obtain ⟨rfl, _⟩ := Prod.mk.inj hx
    refine ⟨some x, m, c, zs.take m, rfl, ⟨by simp only [List.length_map, ht]; omega, fun h0 => ⟨x, rfl, ?_, ?_⟩⟩, ht, ?_, by omega⟩
    · have := cell_lt (hcell 0 (by omega))
      rwa [Mm.block_add] at this
    · intro j u hu
      rw [List.getElem?_map, List.getElem?_take] at hu
      split at hu
      · rename_i hj
        rw [List.getElem?_eq_getElem (by omega)] at hu
        simp at hu
        rw [hcell j (by omega), ← hu]
        simp [List.getD, List.getElem?_eq_getElem (show j < zs.length by omega)]
      · cases hu
    · have := bulk_len (lits (H := H) .i64 (zs.take m))
      have e : (lits (H := H) .i64 (zs.take m)).length = m := by unfold lits; rw [List.length_map, ht]
      simp only [Rows.uptoBulk]
      omega
end Go.Proofs.Ytehnahikfemodaa.Ct
