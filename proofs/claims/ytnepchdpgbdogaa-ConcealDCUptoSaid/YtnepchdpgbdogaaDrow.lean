/- ConcealDC, for arguments as they come. -/
import Derived.Test.YtnepchdpgbdogaaDr
import Derived.Test.YtnepchdpgbdogaaSn
namespace Go.Proofs.Ytnepchdpgbdogaa.Ct
open Go.ChangeShapes Go.WideShapes Go.RowKit Mm
theorem plC_get (ps : List (Int × Int)) (j : Nat) (u : Value) (h : (plC ps)[j]? = some u) : ∃ i, i < ps.length ∧ ((j = i * 2 ∧ u = .int .i64 (ps.getD i (0, 0)).1) ∨ (j = i * 2 + 1 ∧ u = .int .i64 (ps.getD i (0, 0)).2)) := by
  have hj := (List.getElem?_eq_some_iff.1 h).1
  rw [plC_len] at hj
  have hi : j / 2 < ps.length := by omega
  obtain ⟨h0, h1⟩ := plC_at ps (j / 2) hi
  refine ⟨j / 2, hi, ?_⟩
  rcases Nat.mod_two_eq_zero_or_one j with hm | hm
  · left
    have e : j = j / 2 * 2 := by omega
    rw [← e, h] at h0
    exact ⟨e, by injection h0⟩
  · right
    have e : j = j / 2 * 2 + 1 := by omega
    rw [← e, h] at h1
    exact ⟨e, by injection h1⟩
theorem open_places {H : Type} {enc : TypeId × Value → H} {W : World} {base b0 : Nat} {spare : Nat → Bool} {held : Bool} {r : Reach} {v : Value} {d : DataW H} {ps : List MemPlace}
    (hv : Value.okWide Try.prog W r b0 28 v) (h : DataW.Trod enc Try.prog W base spare held 28 v d ps) : ∃ A m c qs, v = .slice A m c ∧ qs.length = m ∧ Rds W 2 A m (plC qs) ∧ PlOk qs ∧ m ≤ Rows.uptoBulk d := by
  obtain ⟨A, m, c, rfl⟩ := okWide_slice Try.underlying28 hv
  obtain ⟨fuel, hf⟩ := h
  have c34 : Try.prog.cellsOf 34 = 2 := by kernel_rfl
  have c3 : Try.prog.cellsOf 3 = 1 := by kernel_rfl
  rcases Go.Deep.open_slice Try.underlying28 hf with ⟨hcs, _⟩ | ⟨a, l, cc, mm, k, D, Pl, hcs, _, hl, hm, hmm, hx, hcell⟩
  · simp [Value.cells] at hcs
    obtain ⟨rfl, rfl, rfl⟩ := hcs
    exact ⟨none, 0, 0, [], rfl, rfl, Rds.nil, fun i => by simp, by omega⟩
  · simp [Value.cells] at hcs
    obtain ⟨rfl, rfl, rfl⟩ := hcs
    obtain ⟨rfl, _⟩ := Prod.mk.inj hx
    have hmle : m ≤ mm := by rw [hmm]; split <;> omega
    have each : ∀ i, i < m → ∃ p : Int × Int, W.cell? (a.add (i * 2)) = some (.int .i64 p.1) ∧ W.cell? (a.add (i * 2 + 1)) = some (.int .i64 p.2) ∧ (-9223372036854775808 ≤ p.1 ∧ p.1 ≤ 9223372036854775807) ∧ (-9223372036854775808 ≤ p.2 ∧ p.2 ≤ 9223372036854775807) := fun i hi => by
      obtain ⟨cs', h1, h2⟩ := hcell i (by omega)
      rw [c34] at h1
      obtain ⟨_, hlen, h3⟩ := World.cells?_some h1
      obtain ⟨xs, k', _, _, _, hxl, hf'⟩ := DataW.trod_array Try.underlying34 h2
      match cs', hlen, xs, hxl with
      | [v0, v1], _, [y0, y1], _ =>
        have g0 : DataW.trod enc Try.prog W base spare held k' 3 [v0] = some y0 := by have := hf' 0 (by omega); simpa [c3] using this
        have g1 : DataW.trod enc Try.prog W base spare held k' 3 [v1] = some y1 := by have := hf' 1 (by omega); simpa [c3] using this
        obtain ⟨m0, e0, _, w0⟩ := DataW.trod_int Try.underlying3 g0
        obtain ⟨m1, e1, _, w1⟩ := DataW.trod_int Try.underlying3 g1
        simp only [List.cons.injEq, and_true] at e0 e1
        subst e0 e1
        have k0 := h3 0 (by omega)
        have k1 := h3 1 (by omega)
        rw [Mm.add_add, Nat.add_zero] at k0
        rw [Mm.add_add] at k1
        exact ⟨(m0, m1), k0, k1, bounds_i64 w0, bounds_i64 w1⟩
    obtain ⟨f, hfp⟩ := Go.Deep.choose_lt each
    refine ⟨some a, m, c, (List.range m).map f, rfl, by simp, ⟨by rw [plC_len]; simp, fun h0 => ⟨a, rfl, ?_, fun j u hu => ?_⟩⟩, fun i => ?_, ?_⟩
    · have := cell_lt (hfp 0 h0).1
      rwa [Mm.block_add] at this
    · obtain ⟨i, hi, hh⟩ := plC_get _ j u hu
      have hi' : i < m := by simpa using hi
      have e : ((List.range m).map f).getD i (0, 0) = f i := by simp [hi']
      rw [e] at hh
      rcases hh with ⟨rfl, rfl⟩ | ⟨rfl, rfl⟩
      · exact (hfp i hi').1
      · exact (hfp i hi').2.1
    · by_cases hi : i < m
      · have e : ((List.range m).map f).getD i (0, 0) = f i := by simp [hi]
        rw [e]
        exact (hfp i hi).2.2
      · have e : ((List.range m).map f).getD i (0, 0) = (0, 0) := by simp [List.getD, List.getElem?_eq_none (show ((List.range m).map f).length ≤ i by simp; omega)]
        rw [e]
        exact ⟨by simp, by simp⟩
    · have := bulk_len ((List.range m).map D)
      simp only [List.length_map, List.length_range] at this
      simp only [Rows.uptoBulk]
      omega
theorem dc_row {H : Type} {enc : TypeId × Value → H} {d d2 : DataW H} (W : World) (hk : Rows.uptoSmall H ([d, d2] ++ []) = true) {base b0 : Nat} {spare : Nat → Bool} {held : Bool} {r : Reach} (v : Value) (_ : DataW H) (ps : List MemPlace)
    (hv : Value.okWide Try.prog W r b0 27 v) (h : DataW.Trod enc Try.prog W base spare held 27 v d ps)
    {base2 b2 : Nat} {spare2 : Nat → Bool} {held2 : Bool} {r2 : Reach} (v2 : Value) (_ : DataW H) (ps2 : List MemPlace)
    (hv2 : Value.okWide Try.prog W r2 b2 28 v2) (h2 : DataW.Trod enc Try.prog W base2 spare2 held2 28 v2 d2 ps2) : Calls Try.prog 3 #[v, v2] W (fun e w' => e = .returned (.bool true) ∧ Below W.heap.size W w') := by
  simp only [Rows.uptoSmall, decide_eq_true_eq, List.append_nil, Rows.uptoBulkAll] at hk
  obtain ⟨gw, gh, A, c, sw, sh, F, fc, fl, bs, rfl, hF, hA, hb, _, _, hsw, hsh, hu, _⟩ := open_scene hv h
  obtain ⟨Z, m, zc, qs, rfl, hq, hZ, hp, hm⟩ := open_places hv2 h2
  exact (conceal3 W gw gh A c bs.length sw sh F fc fl bs rfl hF hA hb hsw hsh (by omega) Z zc m qs hq hZ hp (by omega)).mono fun e w' ⟨he, ho⟩ => ⟨he, ho.below_no⟩
end Go.Proofs.Ytnepchdpgbdogaa.Ct
