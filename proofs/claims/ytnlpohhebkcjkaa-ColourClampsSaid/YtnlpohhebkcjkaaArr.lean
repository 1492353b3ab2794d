/- Arguments opened; arrays of whole numbers held against each other. -/
import Derived.WalkKit
import Derived.ProofKit
import Derived.OpenShut
import Derived.WalkLawsBesides
import Derived.Deep.Draws
import Derived.Below
import Derived.ChangeKeysEq
namespace Go.Proofs.Ytnlpohhebkcjkaa.Ar
open Go Go.ChangeShapes Go.WideShapes Go.RowKit

theorem below_drewN {B : Nat} {w W : World} (h : Below B w W) (n : Nat) : Below B w (W.drewN n) := ⟨h.os, h.tape, h.output, h.size, h.block⟩

section
variable {H : Type} {enc : TypeId × Value → H} {P : Program} {w : World} {base : Nat} {spare : Nat → Bool} {held : Bool}
theorem okWide_array {r : Reach} {b0 : Nat} {t e : TypeId} {n : Nat} {v : Value} (ht : P.underlying t = some (.array n e)) (h : Value.okWide P w r b0 t v) : ∃ cs, v = .agg cs ∧ cs.size = P.cellsOf t := by
  simp only [Value.okWide, ht] at h
  cases v <;> simp_all

/-- an array of one-cell elements, opened: each cell with its own reading -/
theorem open_array {r : Reach} {b0 : Nat} {t e : TypeId} {n : Nat} {v : Value} {d : DataW H} {ps : List MemPlace} (ht : P.underlying t = some (.array n e)) (hE : P.cellsOf e = 1) (hT : P.cellsOf t = n)
    (hv : Value.okWide P w r b0 t v) (h : DataW.Trod enc P w base spare held t v d ps) :
    ∃ cs : Array Value, v = .agg cs ∧ cs.size = n ∧ ∃ m, ∀ (i : Nat) (u : Value), cs[i]? = some u → ∃ y, DataW.trod enc P w base spare held m e [u] = some y := by
  obtain ⟨cs, rfl, hs⟩ := okWide_array ht hv
  obtain ⟨fuel, hf⟩ := h
  simp only [Value.cells] at hf
  obtain ⟨xs, m, _, _, _, hl, hi⟩ := DataW.trod_array ht hf
  refine ⟨cs, rfl, hs.trans hT, m, fun i u hu => ?_⟩
  have hin : i < n := by
    have := (Array.getElem?_eq_some_iff.1 hu).1
    omega
  have h1 := hi i hin
  rw [hE, Nat.mul_one, List.getElem?_eq_getElem (by omega : i < xs.length)] at h1
  have hone : (cs.toList.drop i).take 1 = [u] := by
    have hu' : cs.toList[i]? = some u := by simpa using hu
    obtain ⟨hlt, he⟩ := List.getElem?_eq_some_iff.1 hu'
    rw [List.drop_eq_getElem_cons hlt, he]; rfl
  rw [hone] at h1
  exact ⟨_, h1⟩

theorem trod_float {k : FloatKind} {t : TypeId} {m : Nat} {u : Value} {y : DataW H × List MemPlace} (ht : P.underlying t = some (.float k)) (h : DataW.trod enc P w base spare held m t [u] = some y) :
    ∃ b, u = .float k b ∧ (Lit.float k b).wf = true := by
  cases m with
  | zero => simp [DataW.trod] at h
  | succ m =>
    simp only [DataW.trod, ht] at h
    cases u <;> simp at h
    rename_i k' b
    obtain ⟨⟨rfl, hw⟩, _⟩ := h
    exact ⟨b, rfl, hw⟩
theorem trod_int' {k : IntKind} {t : TypeId} {m : Nat} {u : Value} {y : DataW H × List MemPlace} (ht : P.underlying t = some (.int k)) (h : DataW.trod enc P w base spare held m t [u] = some y) :
    ∃ n, u = .int k n ∧ (Lit.int k n).wf = true := by
  obtain ⟨n, h1, _, h3⟩ := DataW.trod_int ht h
  simp at h1
  exact ⟨n, h1, h3⟩
end

def ints (k : IntKind) (xs : List Int) : Array Value := (xs.map (Value.int k)).toArray
section
variable {P : Program} {w : World}
theorem ints_get (k : IntKind) (xs : List Int) (i : Nat) (h : i < xs.length) : (ints k xs)[i]? = some (.int k xs[i]) := by
  simp [ints, h]
theorem eqItems_ints (d : Nat) {e : TypeId} {k : IntKind} (he : P.plainKey e = true) (hu : P.underlying e = some (.int k)) (as bs : List Int) (hl : as.length = bs.length) : ∀ (m j : Nat), j + m = as.length →
    (Op.eqItems (d + 1) e 1 (ints k as) (ints k bs) (List.range' j m)).run P w = .ok (as.drop j == bs.drop j) w
  | 0, j, h => by
    have h1 : as.drop j = [] := List.drop_of_length_le (by omega)
    have h2 : bs.drop j = [] := List.drop_of_length_le (by omega)
    simp [List.range', Op.eqItems, h1, h2]
  | m + 1, j, h => by
    have ih := eqItems_ints d he hu as bs hl m (j + 1) (by omega)
    have ha : j < as.length := by omega
    have hb : j < bs.length := by omega
    have pa := run_part_plain w he (ints_get k as j ha)
    have pb := run_part_plain w he (ints_get k bs j hb)
    have pe : (Op.equalIn (d + 1) e (.int k as[j]) (.int k bs[j])).run P w = .ok (as[j] == bs[j]) w := by
      rw [run_equalIn_int w d e k k as[j] bs[j] hu]
    rw [List.range'_succ, List.drop_eq_getElem_cons ha, List.drop_eq_getElem_cons hb, List.cons_beq_cons]
    simp only [Op.eqItems, Nat.mul_one, Sem.run_bind, pa, pb, pe, Result.andThen_ok]
    cases hq : (as[j] == bs[j])
    · simp
    · simp [ih]
theorem run_eql_ints {t e : TypeId} {n : Nat} {k : IntKind} {i : TypeInfo} (ht : P.underlying t = some (.array n e)) (hu : P.underlying e = some (.int k)) (he : P.plainKey e = true) (hi : P.info? e = some i) (hc : P.cellsOf e = 1)
    (as bs : List Int) (ha : as.length = n) (hb : bs.length = n) (w : World) : (binOp .eql t (.agg (ints k as)) (.agg (ints k bs))).run P w = .ok (.bool (as == bs)) w := by
  have h := eqItems_ints (P := P) (w := w) 9998 he hu as bs (by omega) n 0 (by omega)
  have h2 := run_equalIn_array (P := P) w 9999 (ints k as) (ints k bs) ht hi
  rw [hc, List.range_eq_range', h] at h2
  simp only [binOp]
  simp [Op.equal, Op.maxDepth, h2]
theorem run_neq_ints {t e : TypeId} {n : Nat} {k : IntKind} {i : TypeInfo} (ht : P.underlying t = some (.array n e)) (hu : P.underlying e = some (.int k)) (he : P.plainKey e = true) (hi : P.info? e = some i) (hc : P.cellsOf e = 1)
    (as bs : List Int) (ha : as.length = n) (hb : bs.length = n) (w : World) : (binOp .neq t (.agg (ints k as)) (.agg (ints k bs))).run P w = .ok (.bool (!(as == bs))) w := by
  have h := eqItems_ints (P := P) (w := w) 9998 he hu as bs (by omega) n 0 (by omega)
  have h2 := run_equalIn_array (P := P) w 9999 (ints k as) (ints k bs) ht hi
  rw [hc, List.range_eq_range', h] at h2
  simp only [binOp]
  simp [Op.equal, Op.maxDepth, h2]
end
end Go.Proofs.Ytnlpohhebkcjkaa.Ar
