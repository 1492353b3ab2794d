/- A map of pieces that the call makes. -/
import Derived.Test.YtehnahikfemodaaCm
import Derived.Maps.OwnSet
namespace Go.Proofs.Ytehnahikfemodaa.Ct
open Go.ChangeShapes Go.WideShapes Go.RowKit Go.Maps Mm
/-- how a piece reads -/
def pR : Value → Option (DataW Unit × List MemPlace)
  | .agg cs => match cs.toList with
    | [.string s] => some (.lit (.string s.data.toList), [])
    | _ => none
  | _ => none
theorem pR_mk (s : ByteArray) : pR (.agg #[.string s]) = some (.lit (.string s.data.toList), []) := by simp [pR]
theorem pR_inv {v : Value} {z : DataW Unit × List MemPlace} (h : pR v = some z) : ∃ s : ByteArray, v = .agg #[.string s] ∧ z = (.lit (.string s.data.toList), []) := by
  unfold pR at h
  split at h
  · rename_i cs
    split at h
    · rename_i s hs
      have : cs = #[.string s] := by
        apply Array.ext'
        simpa using hs
      subst this
      exact ⟨s, rfl, (Option.some.inj h).symm⟩
    · cases h
  · cases h
theorem keyLaw : Keyed Try.prog 3 := int_keyed Try.underlying3
theorem zero66 (w : World) : (zeroValue 66).run Try.prog w = .ok (.agg #[.string ByteArray.empty]) w := by kernel_rfl
/-- block b is a map of at most n pieces that holds at k what f says -/
def PM (w : World) (b n : Nat) (f : Int → Option ByteArray) : Prop :=
  ∃ D : DataW Unit, w.ownsMap Try.prog 3 pR b n D ∧ ∀ k : Int, Maps.has D (.int .i64 k) = (f k).isSome ∧ ∀ s, f k = some s → ∀ zd, D.atKey (.int .i64 k) zd = .lit (.string s.data.toList)
theorem PM.kept {w w' : World} {b n : Nat} {f : Int → Option ByteArray} (h : PM w b n f) (hg : w'.heap[b]? = w.heap[b]?) : PM w' b n f := by
  obtain ⟨D, ⟨es, clock, hb, r⟩, hk⟩ := h
  exact ⟨D, ⟨es, clock, hg.trans hb, r⟩, hk⟩
theorem PM.lt {w : World} {b n : Nat} {f : Int → Option ByteArray} (h : PM w b n f) : b < w.heap.size := by
  obtain ⟨D, h, _⟩ := h
  exact h.lt
theorem PM.only {S : Nat → Prop} {w w' : World} {b n : Nat} {f : Int → Option ByteArray} (h : PM w b n f) (ho : Only S w w') (hn : ¬ S b) : PM w' b n f := h.kept (ho.block b h.lt hn)
theorem PM.made (w : World) : PM (w.alloc (.map #[] 0)) w.heap.size 0 (fun _ => none) := by
  refine ⟨.map [], World.ownsMap_made _ _ _ _, fun k => ⟨rfl, fun s hs => by cases hs⟩⟩
section
variable (w : World) {ops : Array Oper} {rest : List Oper} {o : Oper} {a : Act} {Q : Exit → Act → World → Prop}
theorem wpList_pm_look (hg : o.guard = none) (m x : Operand) (hop : o.op = Op.lookup 64 m x true) (b n : Nat) (f : Int → Option ByteArray) (hm : a.eval m = .map (some b)) (hown : PM w b n f) (k : Int) (hx : a.eval x = .int .i64 k) (hwf : (Lit.int .i64 k).wf = true)
    (hK : wpList Try.prog ops Q rest (a.put o.dst (.tuple #[.agg #[.string ((f k).getD ByteArray.empty)], .bool (f k).isSome])) w) : wpList Try.prog ops Q (o :: rest) a w := by
  obtain ⟨D, hD, hk⟩ := hown
  have hkey : keyOf Try.prog 3 (.int .i64 k) = some (.int .i64 k) := keyOf_int_mk Try.underlying3 hwf
  refine wpList_lookup_own_ok w hg m x 64 hop 3 66 keyLaw Try.underlying64 pR (zero66 w) (.lit (.string [])) [] (pR_mk _) b n D hm hD _ _ hx hkey fun v ps hv => ?_
  obtain ⟨s, rfl, hz⟩ := pR_inv hv
  rw [(hk k).1]
  have e : s = (f k).getD ByteArray.empty := by
    have h1 := congrArg Prod.fst hz
    simp only at h1
    cases hf : f k with
    | none =>
      have hh := (hk k).1
      rw [hf] at hh
      have h2 : D.atKey (.int .i64 k) (.lit (.string [])) = .lit (.string []) := by
        cases D <;> try rfl
        rename_i es
        simp only [Maps.has, Option.isSome_none] at hh
        have h3 : es.find? (fun p => p.1.sameKey (.int .i64 k)) = none := by
          rw [List.find?_eq_none]
          intro p hp hc
          rw [List.any_eq_false] at hh
          exact hh p hp hc
        simp only [DataW.atKey, h3]
      rw [h2] at h1
      simp only [DataW.lit.injEq, Lit.string.injEq] at h1
      apply ByteArray.ext
      apply Array.ext'
      simpa using h1.symm
    | some t =>
      rw [(hk k).2 t hf] at h1
      simp only [DataW.lit.injEq, Lit.string.injEq] at h1
      apply ByteArray.ext
      apply Array.ext'
      simpa using h1.symm
  rw [e]
  exact hK
theorem wpList_pm_put (hg : o.guard = none) (m x v : Operand) (hop : o.op = Op.mapUpdate 64 m x v) (b n : Nat) (f : Int → Option ByteArray) (hm : a.eval m = .map (some b)) (hown : PM w b n f) (hn : n < maxLen) (k : Int) (s : ByteArray) (hx : a.eval x = .int .i64 k) (hv : a.eval v = .agg #[.string s]) (hwf : (Lit.int .i64 k).wf = true)
    (hK : ∀ w', PM w' b (n + 1) (fun j => if j = k then some s else f j) → Only (One b) w w' → wpList Try.prog ops Q rest (a.put o.dst undef) w') : wpList Try.prog ops Q (o :: rest) a w := by
  obtain ⟨D, hD, hk⟩ := hown
  have hkey : keyOf Try.prog 3 (.int .i64 k) = some (.int .i64 k) := keyOf_int_mk Try.underlying3 hwf
  refine wpList_mapUpdate_own w hg m x v 64 hop 3 66 keyLaw Try.underlying64 pR b n D hm hD hn _ _ _ hx hv hkey _ _ (pR_mk s) fun w' h1 h2 => hK w' ⟨_, h1, fun j => ?_⟩ ((Only.of_grown h2).mono fun i hi => by injection hi with hi; exact hi.symm)
  have hm := hD.isMap
  dsimp only
  by_cases hj : j = k
  · subst hj
    simp only [if_true]
    refine ⟨by rw [has_put_same hm (keyLaw.key hkey)]; rfl, fun t ht zd => ?_⟩
    injection ht with ht
    subst ht
    exact atKey_put_same hm (keyLaw.key hkey) _ _
  · simp only [if_neg hj]
    have hne : (Lit.int .i64 j) ≠ Lit.int .i64 k := by intro e; injection e with _ e; exact hj e
    exact ⟨by rw [has_put_other hne]; exact (hk j).1, fun t ht zd => by rw [atKey_put_other hne]; exact (hk j).2 t ht zd⟩
end
end Go.Proofs.Ytehnahikfemodaa.Ct
