/- Scenes, blocks and flags that are arguments, opened. -/
import Derived.Test.YtnepchdpgbdogaaFg
import Derived.Test.YtnepchdpgbdogaaDc
import Derived.ChangeSlices
import Derived.WideShapes
import Derived.OpenShut
import Derived.Deep.Slices
import Derived.SizedLaws
namespace Go.Proofs.Ytnepchdpgbdogaa.Ct
open Go.ChangeShapes Go.WideShapes Go.RowKit Mm
theorem cell_lt {w : World} {a : Addr} {v : Value} (h : w.cell? a = some v) : a.block < w.heap.size := by
  unfold World.cell? at h
  rcases Nat.lt_or_ge a.block w.heap.size with h1 | h1
  · exact h1
  · rw [Array.getElem?_eq_none h1] at h; simp at h
theorem bulk_pos {H : Type} (d : DataW H) : 1 ≤ Rows.uptoBulk d := by
  cases d with
  | lit v => cases v <;> simp [Rows.uptoBulk]
  | _ => simp [Rows.uptoBulk]
theorem bulk_len {H : Type} (l : List (DataW H)) : l.length ≤ Rows.uptoBulkAll l := by
  induction l with
  | nil => simp
  | cons a l ih =>
    have := bulk_pos a
    simp only [List.length_cons, Rows.uptoBulkAll]
    omega
section
variable {H : Type} {enc : TypeId × Value → H} {W : World} {base n : Nat} {spare : Nat → Bool} {held : Bool} {cs : List Value} {x : DataW H × List MemPlace}
theorem open_bools (h : DataW.trod enc Try.prog W base spare held n 25 cs = some x) : ∃ A m c fl, cs = [.slice A m c] ∧ Rds W 1 A m (boC fl) ∧ fl.length = m ∧ m ≤ Rows.uptoBulk x.1 := by
  rcases Go.Deep.open_slice1 Try.underlying25 (by kernel_rfl) h with ⟨rfl, rfl⟩ | ⟨a, m, c, mm, k, V, D, Pl, rfl, _, hl, hm, hmm, rfl, hx⟩
  · exact ⟨none, 0, 0, [], rfl, Rds.nil, rfl, by omega⟩
  · have hmle : m ≤ mm := by rw [hmm]; split <;> omega
    have each : ∀ i, i < m → ∃ b : Bool, W.cell? (a.add i) = some (.bool b) := fun i hi => by
      obtain ⟨h1, h2⟩ := hx i (by omega)
      obtain ⟨b, e, _⟩ := DataW.trod_bool Try.underlying4 h2
      simp only [List.cons.injEq, and_true] at e
      exact ⟨b, by rw [h1, e]⟩
    obtain ⟨f, hf⟩ := Go.Deep.choose_lt each
    refine ⟨some a, m, c, (List.range m).map f, rfl, ⟨by simp [boC], fun h0 => ⟨a, rfl, ?_, fun j u hu => ?_⟩⟩, by simp, ?_⟩
    · have := cell_lt (hf 0 h0)
      rwa [Mm.block_add] at this
    · have hj : j < m := by have := (List.getElem?_eq_some_iff.1 hu).1; simpa [boC] using this
      rw [hf j hj]
      simpa [boC, hj] using hu
    · have := bulk_len ((List.range m).map D)
      simp only [List.length_map, List.length_range] at this
      simp only [Rows.uptoBulk]
      omega
theorem open_block (h : DataW.trod enc Try.prog W base spare held n 48 cs = some x) : ∃ b : List Int, cs = blC b ∧ b.length = 64 ∧ ∀ v ∈ b, -32768 ≤ v ∧ v ≤ 32767 := by
  obtain ⟨xs, m, rfl, rfl, hl, hxl, hf⟩ := DataW.trod_array Try.underlying48 h
  have c35 : Try.prog.cellsOf 35 = 1 := by kernel_rfl
  have c48 : Try.prog.cellsOf 48 = 64 := by kernel_rfl
  rw [c48] at hl
  have each : ∀ i, i < 64 → ∃ v : Int, cs[i]? = some (.int .i16 v) ∧ -32768 ≤ v ∧ v ≤ 32767 := fun i hi => by
    have h1 := hf i hi
    rw [List.getElem?_eq_getElem (by omega), c35, Nat.mul_one] at h1
    obtain ⟨v, e, _, hw⟩ := DataW.trod_int Try.underlying35 h1
    refine ⟨v, ?_, bounds_i16 hw⟩
    have := congrArg (fun l => l[0]?) e
    simpa [List.getElem?_take] using this
  obtain ⟨f, hf⟩ := Go.Deep.choose_lt each
  refine ⟨(List.range 64).map f, ?_, by simp, fun v hv => ?_⟩
  · refine List.ext_getElem? fun i => ?_
    by_cases hi : i < 64
    · rw [(hf i hi).1]
      simp [blC, hi]
    · rw [List.getElem?_eq_none (by omega), List.getElem?_eq_none (by simp [blC]; omega)]
  · obtain ⟨i, hi, rfl⟩ := List.mem_map.1 hv
    exact (hf i (List.mem_range.1 hi)).2
theorem open_blocks (h : DataW.trod enc Try.prog W base spare held n 22 cs = some x) : ∃ A m c bs, cs = [.slice A m c] ∧ Rds W 64 A m (bsC bs) ∧ bs.length = m ∧ Bls bs ∧ m ≤ Rows.uptoBulk x.1 := by
  have c48 : Try.prog.cellsOf 48 = 64 := by kernel_rfl
  rcases Go.Deep.open_slice Try.underlying22 h with ⟨rfl, rfl⟩ | ⟨a, m, c, mm, k, D, Pl, rfl, _, hl, hm, hmm, rfl, hx⟩
  · exact ⟨none, 0, 0, [], rfl, Rds.nil, rfl, fun b hb => by simp at hb, by omega⟩
  · have hmle : m ≤ mm := by rw [hmm]; split <;> omega
    have each : ∀ i, i < m → ∃ b : List Int, b.length = 64 ∧ (∀ v ∈ b, -32768 ≤ v ∧ v ≤ 32767) ∧ ∀ j, j < 64 → W.cell? ((a.add (i * 64)).add j) = (blC b)[j]? := fun i hi => by
      obtain ⟨cs', h1, h2⟩ := hx i (by omega)
      rw [c48] at h1
      obtain ⟨b, rfl, hb1, hb2⟩ := open_block h2
      obtain ⟨_, _, h3⟩ := World.cells?_some h1
      exact ⟨b, hb1, hb2, h3⟩
    obtain ⟨f, hf⟩ := Go.Deep.choose_lt each
    have hB : Bls ((List.range m).map f) := fun b hb => by
      obtain ⟨i, hi, rfl⟩ := List.mem_map.1 hb
      have := hf i (List.mem_range.1 hi)
      exact ⟨this.1, this.2.1⟩
    refine ⟨some a, m, c, (List.range m).map f, rfl, ⟨by rw [bsC_length hB]; simp, fun h0 => ⟨a, rfl, ?_, fun j u hu => ?_⟩⟩, by simp, hB, ?_⟩
    · have h3 := (hf 0 h0).2.2 0 (by omega)
      have h4 : (blC (f 0))[0]? = some (.int .i16 ((f 0).getD 0 0)) := by have := (hf 0 h0).1; simp [blC, this]
      rw [h4] at h3
      have := cell_lt h3
      rwa [Mm.block_add, Mm.block_add] at this
    · have hj : j < m * 64 := by have := (List.getElem?_eq_some_iff.1 hu).1; rw [bsC_length hB] at this; simpa using this
      have h3 := bsC_get hB (j / 64) (j % 64) (by simp; omega) (by omega)
      rw [show j / 64 * 64 + j % 64 = j by omega, hu] at h3
      have h5 := hf (j / 64) (by omega)
      have h4 := h5.2.2 (j % 64) (by omega)
      rw [Mm.add_add, show j / 64 * 64 + j % 64 = j by omega] at h4
      rw [h4, h3]
      have hk : j / 64 < m := by omega
      have hr : j % 64 < (f (j / 64)).length := by rw [h5.1]; omega
      simp [blC, hk, hr]
    · have := bulk_len ((List.range m).map D)
      simp only [List.length_map, List.length_range] at this
      simp only [Rows.uptoBulk]
      omega
theorem open_grid (h : DataW.trod enc Try.prog W base spare held n 24 cs = some x) : ∃ gw gh A m c bs, cs = [.int .i64 gw, .int .i64 gh, .slice A m c] ∧ (-9223372036854775808 ≤ gw ∧ gw ≤ 9223372036854775807) ∧ (-9223372036854775808 ≤ gh ∧ gh ≤ 9223372036854775807) ∧
    Rds W 64 A m (bsC bs) ∧ bs.length = m ∧ Bls bs ∧ m ≤ Rows.uptoBulk x.1 := by
  obtain ⟨xs, k, hk, hxy, hlen, hxl, hf⟩ := DataW.trod_struct Try.underlying24 h
  have c3 : Try.prog.cellsOf 3 = 1 := by kernel_rfl
  have c22 : Try.prog.cellsOf 22 = 1 := by kernel_rfl
  have c24 : Try.prog.cellsOf 24 = 3 := by kernel_rfl
  rw [c24] at hlen
  match xs, hxl, cs, hlen with
  | [y0, y1, y2], _, [v0, v1, v2], _ =>
    have g0 : DataW.trod enc Try.prog W base spare held k 3 [v0] = some y0 := by have := hf 0 _ rfl; simpa [c3] using this
    have g1 : DataW.trod enc Try.prog W base spare held k 3 [v1] = some y1 := by have := hf 1 _ rfl; simpa [c3] using this
    have g2 : DataW.trod enc Try.prog W base spare held k 22 [v2] = some y2 := by have := hf 2 _ rfl; simpa [c22] using this
    obtain ⟨m0, e0, _, w0⟩ := DataW.trod_int Try.underlying3 g0
    obtain ⟨m1, e1, _, w1⟩ := DataW.trod_int Try.underlying3 g1
    obtain ⟨A, m, c, bs, e2, hr, hl, hb, hu⟩ := open_blocks g2
    simp only [List.cons.injEq, and_true] at e0 e1 e2
    subst e0 e1 e2
    refine ⟨m0, m1, A, m, c, bs, rfl, bounds_i64 w0, bounds_i64 w1, hr, hl, hb, ?_⟩
    rw [hxy]
    simp only [List.map_cons, List.map_nil, Rows.uptoBulk, Rows.uptoBulkAll]
    omega
/-- a scene that is an argument -/
theorem open_scene {r : Reach} {b0 : Nat} {v : Value} {d : DataW H} {ps : List MemPlace} (hv : Value.okWide Try.prog W r b0 27 v) (h : DataW.Trod enc Try.prog W base spare held 27 v d ps) :
    ∃ gw gh A c sw sh F fc fl bs, v = sceneV gw gh A bs.length c sw sh F fl.length fc ∧ Rds W 1 F fl.length (boC fl) ∧ Rds W 64 A bs.length (bsC bs) ∧ Bls bs ∧ (-9223372036854775808 ≤ gw ∧ gw ≤ 9223372036854775807) ∧ (-9223372036854775808 ≤ gh ∧ gh ≤ 9223372036854775807) ∧
      (-9223372036854775808 ≤ sw ∧ sw ≤ 9223372036854775807) ∧ (-9223372036854775808 ≤ sh ∧ sh ≤ 9223372036854775807) ∧ bs.length ≤ Rows.uptoBulk d ∧ fl.length ≤ Rows.uptoBulk d := by
  obtain ⟨cs, rfl, hcs⟩ := okWide_struct Try.underlying27 hv
  obtain ⟨fuel, hf0⟩ := h
  have c3 : Try.prog.cellsOf 3 = 1 := by kernel_rfl
  have c24 : Try.prog.cellsOf 24 = 3 := by kernel_rfl
  have c25 : Try.prog.cellsOf 25 = 1 := by kernel_rfl
  have c27 : Try.prog.cellsOf 27 = 6 := by kernel_rfl
  obtain ⟨xs, k, hk, hxy, hlen, hxl, hf⟩ := DataW.trod_struct Try.underlying27 hf0
  rw [c27] at hlen
  obtain ⟨cl, rfl⟩ : ∃ cl : List Value, cs = cl.toArray := ⟨cs.toList, by simp⟩
  have hc0 : (Value.agg cl.toArray).cells.toList = cl := by simp [Value.cells]
  rw [hc0] at hf hlen
  match xs, hxl, cl, hlen with
  | [y0, y1, y2, y3], _, [v0, v1, v2, v3, v4, v5], _ =>
    have g0 : DataW.trod enc Try.prog W base spare held k 24 [v0, v1, v2] = some y0 := by have := hf 0 _ rfl; simpa [c24] using this
    have g1 : DataW.trod enc Try.prog W base spare held k 3 [v3] = some y1 := by have := hf 1 _ rfl; simpa [c3] using this
    have g2 : DataW.trod enc Try.prog W base spare held k 3 [v4] = some y2 := by have := hf 2 _ rfl; simpa [c3] using this
    have g3 : DataW.trod enc Try.prog W base spare held k 25 [v5] = some y3 := by have := hf 3 _ rfl; simpa [c25] using this
    obtain ⟨m1, e1, _, w1⟩ := DataW.trod_int Try.underlying3 g1
    obtain ⟨m2, e2, _, w2⟩ := DataW.trod_int Try.underlying3 g2
    obtain ⟨gw, gh, A, m, c, bs, e0, hgw, hgh, hr, hl, hb, hu⟩ := open_grid g0
    obtain ⟨F, fm, fc, fl, e3, hr3, hl3, hu3⟩ := open_bools g3
    simp only [List.cons.injEq, and_true] at e0 e1 e2 e3
    obtain ⟨rfl, rfl, rfl⟩ := e0
    subst e1 e2 e3 hl hl3
    refine ⟨gw, gh, A, c, m1, m2, F, fc, fl, bs, rfl, hr3, hr, hb, hgw, hgh, bounds_i64 w1, bounds_i64 w2, ?_, ?_⟩
    · have hd := (Prod.mk.inj hxy).1
      rw [hd]
      simp only [List.map_cons, List.map_nil, Rows.uptoBulk, Rows.uptoBulkAll]
      omega
    · have hd := (Prod.mk.inj hxy).1
      rw [hd]
      simp only [List.map_cons, List.map_nil, Rows.uptoBulk, Rows.uptoBulkAll]
      omega
end
end Go.Proofs.Ytnepchdpgbdogaa.Ct
