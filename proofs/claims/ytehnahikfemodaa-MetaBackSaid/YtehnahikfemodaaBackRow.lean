/- MetaBack, for arguments as they come. -/
import Derived.Test.YtehnahikfemodaaBw
import Derived.Test.YtehnahikfemodaaOpz
namespace Go.Proofs.Ytehnahikfemodaa.Ct
open Go.ChangeShapes Go.WideShapes Go.RowKit Mm
theorem open_density_b {H : Type} {enc : TypeId × Value → H} {W : World} {base b0 : Nat} {spare : Nat → Bool} {held : Bool} {r : Reach} {v : Value} {d : DataW H} {ps : List MemPlace}
    (hv : Value.okWide Try.prog W r b0 30 v) (h : DataW.Trod enc Try.prog W base spare held 30 v d ps) : ∃ M m U X Y, v = .agg (dnC M m U X Y) ∧ (0 ≤ M ∧ M ≤ 255) ∧ (0 ≤ m ∧ m ≤ 255) ∧ (0 ≤ U ∧ U ≤ 255) := by
  obtain ⟨cs, rfl, hcs⟩ := okWide_struct Try.underlying30 hv
  obtain ⟨fuel, hf⟩ := h
  obtain ⟨xs, k, hk, hxy, hlen, hxl, hf⟩ := DataW.trod_struct Try.underlying30 hf
  have c5 : Try.prog.cellsOf 5 = 1 := by kernel_rfl
  have c3 : Try.prog.cellsOf 3 = 1 := by kernel_rfl
  have c30 : Try.prog.cellsOf 30 = 5 := by kernel_rfl
  rw [c30] at hcs
  obtain ⟨l⟩ := cs
  have hl : l.length = 5 := hcs
  match xs, hxl, l, hl with
  | [y0, y1, y2, y3, y4], _, [v0, v1, v2, v3, v4], _ =>
    have g0 : DataW.trod enc Try.prog W base spare held k 5 [v0] = some y0 := by have := hf 0 _ rfl; simpa [c5, Value.cells] using this
    have g1 : DataW.trod enc Try.prog W base spare held k 5 [v1] = some y1 := by have := hf 1 _ rfl; simpa [c5, Value.cells] using this
    have g2 : DataW.trod enc Try.prog W base spare held k 5 [v2] = some y2 := by have := hf 2 _ rfl; simpa [c5, Value.cells] using this
    have g3 : DataW.trod enc Try.prog W base spare held k 3 [v3] = some y3 := by have := hf 3 _ rfl; simpa [c3, c5, Value.cells] using this
    have g4 : DataW.trod enc Try.prog W base spare held k 3 [v4] = some y4 := by have := hf 4 _ rfl; simpa [c3, c5, Value.cells] using this
    obtain ⟨m0, e0, _, b0⟩ := DataW.trod_int Try.underlying5 g0
    obtain ⟨m1, e1, _, b1⟩ := DataW.trod_int Try.underlying5 g1
    obtain ⟨m2, e2, _, b2⟩ := DataW.trod_int Try.underlying5 g2
    obtain ⟨m3, e3, _⟩ := DataW.trod_int Try.underlying3 g3
    obtain ⟨m4, e4, _⟩ := DataW.trod_int Try.underlying3 g4
    simp only [List.cons.injEq, and_true] at e0 e1 e2 e3 e4
    subst e0 e1 e2 e3 e4
    exact ⟨m0, m1, m2, m3, m4, rfl, by simpa [Lit.wf, IntKind.min, IntKind.max, IntKind.signed, IntKind.bits] using b0, by simpa [Lit.wf, IntKind.min, IntKind.max, IntKind.signed, IntKind.bits] using b1, by simpa [Lit.wf, IntKind.min, IntKind.max, IntKind.signed, IntKind.bits] using b2⟩
theorem back_row {H : Type} {enc : TypeId × Value → H} (W : World) {base b0 b3 b4 : Nat} {spare spare3 spare4 : Nat → Bool} {held held3 held4 : Bool} {r r3 r4 : Reach} {v v3 v4 : Value} {d d3 d4 : DataW H} {p p3 p4 : List MemPlace} {ts : List TypeId} {ds : List (DataW H)}
    (hsz : (DataW.weightsEach Try.prog ts ds).all (· ≤ reachBytes) = true) (ht4 : ts[4]? = some 22) (hd4 : ds[4]? = some d4)
    (hv : Value.okWide Try.prog W r b0 30 v) (h : DataW.Trod enc Try.prog W base spare held 30 v d p) (part : ByteArray) (hp : part.size ≤ maxLen) (times : Int)
    (hv3 : Value.okWide Try.prog W r3 b3 40 v3) (h3 : DataW.Trod enc Try.prog W base spare3 held3 40 v3 d3 p3)
    (hv4 : Value.okWide Try.prog W r4 b4 22 v4) (h4 : DataW.Trod enc Try.prog W base spare4 held4 22 v4 d4 p4) :
    Calls Try.prog 8 #[v, .string part, .int .i64 times, v3, v4] W (fun e w' => e = .returned (.bool true) ∧ Below W.heap.size W w') := by
  obtain ⟨M, m, U, X, Y, rfl, hM, hm, hU⟩ := open_density_b hv h
  obtain ⟨A3, m3, c3, s3, rfl, hr3, hl3, _, hb3⟩ := open_ints_z hv3 h3
  obtain ⟨A4, m4, c4, s4, rfl, hr4, hl4, hb4, _, _, _, _⟩ := open_ex_z hsz ht4 hd4 hv4 h4
  exact back_law A3 A4 m3 m4 c3 c4 M m U X Y part times s3 s4 W hp hr3 hl3 hb3 hr4 hl4 hb4 hM hm hU
end Go.Proofs.Ytehnahikfemodaa.Ct
