/- Whole blocks of 64 cells: loaded and stored. -/
import Derived.Test.YtnepchdpgbdogaaNb
import Derived.Deep.MidRow
namespace Go.Proofs.Ytnepchdpgbdogaa.Ct
open Go.ChangeShapes Go.WideShapes Go.RowKit Mm
theorem info48 : (Try.prog.info? 48).map (·.size) = some 64 := by kernel_rfl
theorem setCells_blk (g : Nat) (t : TypeId) : ∀ (cs : List Value) (o : Nat) (w : World) (ds : Array Value), Blk w g t ds → o + cs.length ≤ ds.size →
    ∃ es, Blk (w.setCells g o cs) g t es ∧ es.size = ds.size ∧ (∀ j, j < cs.length → es[o + j]? = cs[j]?) ∧ (∀ j, j < o ∨ o + cs.length ≤ j → es[j]? = ds[j]?)
  | [], o, w, ds, h, _ => ⟨ds, h, rfl, fun j hj => by simp at hj, fun _ _ => rfl⟩
  | v :: r, o, w, ds, h, hs => by
    have hs' : o + (r.length + 1) ≤ ds.size := by rw [List.length_cons] at hs; exact hs
    clear hs
    obtain ⟨es, h1, h2, h3, h4⟩ := setCells_blk g t r (o + 1) (w.setCell ⟨g, o, none⟩ v) _ (h.set o v) (by rw [Array.size_setIfInBounds]; omega)
    refine ⟨es, h1, by simpa using h2, fun j hj => ?_, fun j hj => ?_⟩
    · rcases j with _ | j
      · rw [Nat.add_zero, h4 o (.inl (by omega))]
        have ho : o < ds.size := by omega
        simp [ho]
      · have := h3 j (by simpa using hj)
        rw [show o + 1 + j = o + (j + 1) by omega] at this
        simpa using this
    · have hj2 : j < o ∨ o + (r.length + 1) ≤ j := by rw [List.length_cons] at hj; exact hj
      clear hj
      have hj' : j < o + 1 ∨ o + 1 + r.length ≤ j := by omega
      rw [h4 j hj']
      have hne : o ≠ j := by omega
      simp [hne]
theorem setCells_only {S : Nat → Prop} {w0 : World} (g : Nat) (hg : S g ∨ w0.heap.size ≤ g) : ∀ (cs : List Value) (o : Nat) (w : World), Only S w0 w → Only S w0 (w.setCells g o cs)
  | [], _, _, h => h
  | v :: r, o, _, h => setCells_only g hg r (o + 1) _ (h.setCell (p := ⟨g, o, none⟩) hg v)
section
variable {ops : Array Oper} {rest : List Oper} {a : Act} {w : World} {Q : Exit → Act → World → Prop} {d : Option Tmp} {x y : Operand} {ty : TypeId} {p : String} {af : Array Edge}
theorem run_load48 (w : World) (ad : Addr) (cs : List Value) (hl : cs.length = 64) (hc : ∀ j v, cs[j]? = some v → w.cell? (ad.add j) = some v) :
    (loadVar 48 ad).run Try.prog w = .ok (.agg cs.toArray) w := by
  have hl2 : (loadCells ad cs.length).run Try.prog w = .ok cs.toArray w := run_loadCells_list (P := Try.prog) w ad cs hc
  have hi := info48
  cases hq : Try.prog.info? 48 with
  | none => simp [hq] at hi
  | some i =>
    have hs : i.size = cs.length := by simp [hq] at hi; omega
    have hagg : (isAgg 48).run Try.prog w = .ok true w := by
      unfold isAgg
      rw [Sem.run_bind, run_underlying Try.underlying48 w]
      rfl
    simp [loadVar, Sem.run_bind, hagg, sizeOf, typeInfo, hq, hs, hl2]
theorem wl_load48 (ad : Addr) (cs : List Value) (hx : a.eval x = .pointer (some ad)) (hl : cs.length = 64) (hc : ∀ j v, cs[j]? = some v → w.cell? (ad.add j) = some v)
    (h : wpList Try.prog ops Q rest (a.put d (.agg cs.toArray)) w) : wpList Try.prog ops Q (⟨d, .load 48 x, ty, p, af, none⟩ :: rest) a w :=
  wpList_plain rfl fun K hK => by
    unfold Oper.wp execOp
    simp only [hx, Instr.loadAt, Instr.sureAddr, Sem.run_bind, Sem.run_pure, Result.andThen_ok, run_load48 w ad cs hl hc]
    exact hK _ _ h
/-- a whole block goes into a block of its own -/
theorem wl_store48 (g : Nat) (ds : Array Value) (cs : List Value) (hx : a.eval x = .pointer (some ⟨g, 0, none⟩)) (hy : a.eval y = .agg cs.toArray) (hb : Blk w g 48 ds) (hd : ds.size = 64) (hl : cs.length = 64) (h1 : ∀ v ∈ cs, v.oneCell' = true)
    (h : ∀ w', Blk w' g 48 cs.toArray → Only (One g) w w' → wpList Try.prog ops Q rest (a.put d undef) w') : wpList Try.prog ops Q (⟨d, .store 48 x y, ty, p, af, none⟩ :: rest) a w := by
  refine wpList_store_mid rfl 48 x y rfl g 0 cs.toArray hx hy (fun j hj => ?_) (by rw [info48]; simp [hl]) (all_oneCell_toArray h1) (h _ ?_ ?_)
  · have hj' : j < cs.length := by simpa using hj
    rw [Nat.zero_add]
    refine ⟨?_, hb.frozen j⟩
    rw [hb.cell j, Array.getElem?_eq_getElem (by omega)]
    rfl
  · obtain ⟨es, e1, e2, e3, e4⟩ := setCells_blk g 48 cs 0 w ds hb (by omega)
    have : es = cs.toArray := by
      apply Array.ext_getElem?
      intro i
      by_cases hi : i < cs.length
      · have := e3 i hi
        rw [Nat.zero_add] at this
        rw [this]
        simp
      · rw [Array.getElem?_eq_none (by omega), Array.getElem?_eq_none (by simp; omega)]
    rw [List.toList_toArray]
    rw [← this]
    exact e1
  · rw [List.toList_toArray]
    exact setCells_only (S := One g) g (.inl rfl) cs 0 w (Only.refl _ _)
end
/-- one of the blocks, as a load reads it -/
theorem bl_cells {w : World} {A : Option Addr} {bs : List (List Int)} (hb : Bls bs) (h : Rds w 64 A bs.length (bsC bs)) (i : Nat) (hi : i < bs.length) : ∃ ad, A = some ad ∧ ∀ j v, (blC (bs.getD i []))[j]? = some v → w.cell? ((ad.add (i * 64)).add j) = some v := by
  obtain ⟨ad, e, _, hc⟩ := h.2 (by omega)
  refine ⟨ad, e, fun j v hv => ?_⟩
  rw [add_add]
  have h64 := (hb (bs[i]) (List.getElem_mem hi)).1
  have hgd : bs.getD i [] = bs[i] := by simp [hi]
  have hj : j < 64 := by
    have := (List.getElem?_eq_some_iff.1 hv).1
    rw [blC_length, hgd] at this
    omega
  refine hc _ _ ?_
  rw [bsC_get hb i j hi hj, hgd, ← hv, hgd]
  simp [blC, h64, hj]
theorem bl_len {bs : List (List Int)} (hb : Bls bs) (i : Nat) (hi : i < bs.length) : (blC (bs.getD i [])).length = 64 := by
  rw [blC_length, show bs.getD i [] = bs[i] by simp [hi]]
  exact (hb (bs[i]) (List.getElem_mem hi)).1
theorem blC_one (b : List Int) : ∀ v ∈ blC b, v.oneCell' = true := by
  intro v hv
  obtain ⟨a, _, rfl⟩ := List.mem_map.1 hv
  rfl
end Go.Proofs.Ytnepchdpgbdogaa.Ct
