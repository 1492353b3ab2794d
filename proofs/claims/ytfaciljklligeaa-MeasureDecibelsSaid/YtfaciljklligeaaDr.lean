/- MeasureDecibels, for an argument as it comes. -/
import Derived.Test.YtfaciljklligeaaDw
import Derived.Laws.Cover2
namespace Go.Proofs.Ytfaciljklligeaa.Ct
open Go.ChangeShapes Go.WideShapes Go.RowKit Mm
theorem wf_lt {a : Nat} (h : (Lit.float .f64 a).wf = true) : a < 2 ^ 64 := by
  simp only [Lit.wf, decide_eq_true_eq] at h
  exact h
theorem dec_row (W : World) (a : Nat) (h : (Lit.float .f64 a).wf = true) : Calls Try.prog 5 #[.float .f64 a] W fun e w' => e = .returned (.bool true) ∧ Below W.heap.size W w' :=
  (dec5 W (wf_lt h)).mono fun _ _ ⟨he, ho⟩ => ⟨he, ho.below_no⟩
end Go.Proofs.Ytfaciljklligeaa.Ct
