/- MetaMade, for arguments as they come. -/
import Derived.Test.YtehnahikfemodaaMade
import Derived.Test.YtehnahikfemodaaOpn
namespace Go.Proofs.Ytehnahikfemodaa.Ct
open Go.ChangeShapes Go.WideShapes Go.RowKit Mm
theorem open_density {H : Type} {enc : TypeId × Value → H} {W : World} {base b0 : Nat} {spare : Nat → Bool} {held : Bool} {r : Reach} {v : Value} {d : DataW H} {ps : List MemPlace}
    (hv : Value.okWide Try.prog W r b0 30 v) (h : DataW.Trod enc Try.prog W base spare held 30 v d ps) : ∃ M m U X Y, v = .agg (dnC M m U X Y) := by
  obtain ⟨cs, rfl, hcs⟩ := okWide_struct Try.underlying30 hv
  obtain ⟨fuel, hf⟩ := h
  obtain ⟨xs, k, hk, hxy, hlen, hxl, hf⟩ := DataW.trod_struct Try.underlying30 hf
  have c5 : Try.prog.cellsOf 5 = 1 := by kernel_rfl
  have c3 : Try.prog.cellsOf 3 = 1 := by kernel_rfl
  have c30 : Try.prog.cellsOf 30 = 5 := by kernel_rfl
  rw [c30] at hcs
  obtain ⟨l⟩ := cs
  have hl : l.length = 5 := hcs
  match xs, hxl, l, hl with
  | [y0, y1, y2, y3, y4], _, [v0, v1, v2, v3, v4], _ =>
    have g0 : DataW.trod enc Try.prog W base spare held k 5 [v0] = some y0 := by have := hf 0 _ rfl; simpa [c5, Value.cells] using this
    have g1 : DataW.trod enc Try.prog W base spare held k 5 [v1] = some y1 := by have := hf 1 _ rfl; simpa [c5, Value.cells] using this
    have g2 : DataW.trod enc Try.prog W base spare held k 5 [v2] = some y2 := by have := hf 2 _ rfl; simpa [c5, Value.cells] using this
    have g3 : DataW.trod enc Try.prog W base spare held k 3 [v3] = some y3 := by have := hf 3 _ rfl; simpa [c3, c5, Value.cells] using this
    have g4 : DataW.trod enc Try.prog W base spare held k 3 [v4] = some y4 := by have := hf 4 _ rfl; simpa [c3, c5, Value.cells] using this
    obtain ⟨m0, e0, _⟩ := DataW.trod_int Try.underlying5 g0
    obtain ⟨m1, e1, _⟩ := DataW.trod_int Try.underlying5 g1
    obtain ⟨m2, e2, _⟩ := DataW.trod_int Try.underlying5 g2
    obtain ⟨m3, e3, _⟩ := DataW.trod_int Try.underlying3 g3
    obtain ⟨m4, e4, _⟩ := DataW.trod_int Try.underlying3 g4
    simp only [List.cons.injEq, and_true] at e0 e1 e2 e3 e4
    subst e0 e1 e2 e3 e4
    exact ⟨m0, m1, m2, m3, m4, rfl⟩
theorem made_row {H : Type} {enc : TypeId × Value → H} (W : World) {base b0 : Nat} {spare : Nat → Bool} {held : Bool} {r : Reach} {v : Value} {d : DataW H} {ps : List MemPlace}
    (hv : Value.okWide Try.prog W r b0 30 v) (h : DataW.Trod enc Try.prog W base spare held 30 v d ps) (part : ByteArray) (hp : part.size ≤ maxLen) (times : Int) (ht : (Lit.int .i64 times).wf = true) :
    Calls Try.prog 4 #[v, .string part, .int .i64 times] W (fun e w' => e = .returned (.bool true) ∧ Below W.heap.size W w') := by
  obtain ⟨M, m, U, X, Y, rfl⟩ := open_density hv h
  exact made_law M m U X Y part times W hp (by simpa [Lit.wf, IntKind.min, IntKind.max, IntKind.signed, IntKind.bits] using ht)
end Go.Proofs.Ytehnahikfemodaa.Ct
