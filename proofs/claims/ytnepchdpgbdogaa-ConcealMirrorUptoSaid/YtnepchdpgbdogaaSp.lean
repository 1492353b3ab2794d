/- Whole blocks in a region that draws its order: one step each. -/
import Derived.Test.YtnepchdpgbdogaaFt
import Derived.Great.BuildSlice
namespace Go.Proofs.Ytnepchdpgbdogaa.Ct
open Go.ChangeShapes Go.WideShapes Go.RowKit Mm
section
variable {a : Act} {w : World} {K : Act → World → Prop} {ops : Array Oper} {Q : Exit → Act → World → Prop} {E : Prop} {d : Option Tmp} {x : Operand} {ty : TypeId} {p : String} {af : Array Edge}
theorem step_load48 (ad : Addr) (cs : List Value) (hx : a.eval x = .pointer (some ad)) (hl : cs.length = 64) (hc : ∀ j v, cs[j]? = some v → w.cell? (ad.add j) = some v)
    (h : K (a.put d (.agg cs.toArray)) w) : if Region.wanted ⟨d, .load 48 x, ty, p, af, none⟩ (yielded ops a.tmps) = true then Oper.wp Try.prog ⟨d, .load 48 x, ty, p, af, none⟩ a w K Q else E := by
  rw [if_pos (by simp [Region.wanted])]
  unfold Oper.wp execOp
  simp only [hx, Instr.loadAt, Instr.sureAddr, Sem.run_bind, Sem.run_pure, Result.andThen_ok, run_load48 w ad cs hl hc]
  exact h
theorem step_build1 (cs : List Value) (hx : a.eval x = .agg cs.toArray) (hl : cs.length = 64) (h : K (a.put d (.slice (some ⟨w.heap.size, 0, none⟩) 1 1)) (w.alloc (.cells cs.toArray 48))) :
    if Region.wanted ⟨d, .buildSlice 22 1 #[(0, x)], ty, p, af, none⟩ (yielded ops a.tmps) = true then Oper.wp Try.prog ⟨d, .buildSlice 22 1 #[(0, x)], ty, p, af, none⟩ a w K Q else E := by
  rw [if_pos (by simp [Region.wanted])]
  obtain ⟨i0, hi0, ⟨z0, hz0⟩, hz1, hz2⟩ := info48z
  refine wp_buildSlice 22 48 1 #[(0, x)] rfl cs.toArray i0 z0 Try.underlying22 hi0 hz0 (by rw [hz1]; decide) (by rw [hz1]; decide) ?_ h
  have := Great.fill_whole (s := 64) (by decide) [Value.agg cs.toArray] ((Array.range (1 * 64)).map (z0.cells[· % z0.cells.size]!)) (by simp [Value.cells, hl]) (by simp)
  rw [hz1]
  simp only [List.map_toArray, List.map_cons, List.map_nil, hx]
  simpa [Value.cells] using this
end
end Go.Proofs.Ytnepchdpgbdogaa.Ct
