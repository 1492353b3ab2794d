/- MeasureTen, for arguments as they come. -/
import Derived.Test.YtfaciljklligeaaTn
import Derived.Laws.Cover2
namespace Go.Proofs.Ytfaciljklligeaa.Ct
open Go.ChangeShapes Go.WideShapes Go.RowKit Mm
theorem wf_lt2 {a : Nat} (h : (Lit.float .f64 a).wf = true) : a < 2 ^ 64 := by
  simp only [Lit.wf, decide_eq_true_eq] at h
  exact h
theorem ten_row (W : World) (a : Nat) (h : (Lit.float .f64 a).wf = true) (b : Nat) (h2 : (Lit.float .f64 b).wf = true) : Calls Try.prog 8 #[.float .f64 a, .float .f64 b] W fun e w' => e = .returned (.bool true) ∧ Below W.heap.size W w' :=
  (ten8 W (wf_lt2 h) (wf_lt2 h2)).mono fun _ _ ⟨he, ho⟩ => ⟨he, ho.below_no⟩
end Go.Proofs.Ytfaciljklligeaa.Ct
