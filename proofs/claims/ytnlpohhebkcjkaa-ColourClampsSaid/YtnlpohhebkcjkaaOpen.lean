/- Arguments opened: arrays of one-cell elements; floats. -/
import Derived.WalkKit
import Derived.ProofKit
import Derived.OpenShut
import Derived.WalkLawsBesides
import Derived.Deep.Draws
import Derived.Below
namespace Go.Proofs.Ytnlpohhebkcjkaa.Fp
open Go Go.ChangeShapes Go.WideShapes Go.RowKit

theorem below_drewN {B : Nat} {w W : World} (h : Below B w W) (n : Nat) : Below B w (W.drewN n) := ⟨h.os, h.tape, h.output, h.size, h.block⟩

section
variable {H : Type} {enc : TypeId × Value → H} {P : Program} {w : World} {base : Nat} {spare : Nat → Bool} {held : Bool}
theorem okWide_array {r : Reach} {b0 : Nat} {t e : TypeId} {n : Nat} {v : Value} (ht : P.underlying t = some (.array n e)) (h : Value.okWide P w r b0 t v) : ∃ cs, v = .agg cs ∧ cs.size = P.cellsOf t := by
  simp only [Value.okWide, ht] at h
  cases v <;> simp_all

/-- an array of one-cell elements, opened: each cell with its own reading -/
theorem open_array {r : Reach} {b0 : Nat} {t e : TypeId} {n : Nat} {v : Value} {d : DataW H} {ps : List MemPlace} (ht : P.underlying t = some (.array n e)) (hE : P.cellsOf e = 1) (hT : P.cellsOf t = n)
    (hv : Value.okWide P w r b0 t v) (h : DataW.Trod enc P w base spare held t v d ps) :
    ∃ cs : Array Value, v = .agg cs ∧ cs.size = n ∧ ∃ m, ∀ (i : Nat) (u : Value), cs[i]? = some u → ∃ y, DataW.trod enc P w base spare held m e [u] = some y := by
  obtain ⟨cs, rfl, hs⟩ := okWide_array ht hv
  obtain ⟨fuel, hf⟩ := h
  simp only [Value.cells] at hf
  obtain ⟨xs, m, _, _, _, hl, hi⟩ := DataW.trod_array ht hf
  refine ⟨cs, rfl, hs.trans hT, m, fun i u hu => ?_⟩
  have hin : i < n := by
    have := (Array.getElem?_eq_some_iff.1 hu).1
    omega
  have h1 := hi i hin
  rw [hE, Nat.mul_one, List.getElem?_eq_getElem (by omega : i < xs.length)] at h1
  have hone : (cs.toList.drop i).take 1 = [u] := by
    have hu' : cs.toList[i]? = some u := by simpa using hu
    obtain ⟨hlt, he⟩ := List.getElem?_eq_some_iff.1 hu'
    rw [List.drop_eq_getElem_cons hlt, he]; rfl
  rw [hone] at h1
  exact ⟨_, h1⟩

theorem trod_float {k : FloatKind} {t : TypeId} {m : Nat} {u : Value} {y : DataW H × List MemPlace} (ht : P.underlying t = some (.float k)) (h : DataW.trod enc P w base spare held m t [u] = some y) :
    ∃ b, u = .float k b ∧ (Lit.float k b).wf = true := by
  cases m with
  | zero => simp [DataW.trod] at h
  | succ m =>
    simp only [DataW.trod, ht] at h
    cases u <;> simp at h
    rename_i k' b
    obtain ⟨⟨rfl, hw⟩, _⟩ := h
    exact ⟨b, rfl, hw⟩
theorem trod_int' {k : IntKind} {t : TypeId} {m : Nat} {u : Value} {y : DataW H × List MemPlace} (ht : P.underlying t = some (.int k)) (h : DataW.trod enc P w base spare held m t [u] = some y) :
    ∃ n, u = .int k n ∧ (Lit.int k n).wf = true := by
  obtain ⟨n, h1, _, h3⟩ := DataW.trod_int ht h
  simp at h1
  exact ⟨n, h1, h3⟩
end
end Go.Proofs.Ytnlpohhebkcjkaa.Fp
