/- A drawn region inside a round, as one outside. -/
import Derived.Test.YtclidonogebgkaaRd
namespace Go.Proofs.Ytclidonogebgkaa.Ct
open Go.ChangeShapes Go.WideShapes Go.RowKit Go.Shelf Mm
variable {F : Fence} {n : Nat} {P : Program} {md : Region.Mode} {ops : Array Oper} {Q : Exit → Act → World → Prop}
theorem wpOpIn_round (hd : ∀ (i : Nat) (o : Oper), ops[i]? = some o → ∀ c, o.op ≠ .defer c) (l i : Nat) {K : Act → World → Prop} {a : Act} {w : World} (h : wpOpIn F n P ops Q i K a w) : wpOpIn (F.inRound l) n P ops Q i K a w := by
  unfold wpOpIn at *
  cases e : ops[i]? with
  | none => rw [e] at h; exact h
  | some o =>
    rw [e] at h
    dsimp only at h ⊢
    split
    · rename_i hw
      rw [if_pos hw] at h
      unfold Oper.wpIn at *
      rw [Oper.semAt_plain _ _ _ (hd i o e)] at h ⊢
      exact h
    · rename_i hw
      rw [if_neg hw] at h
      exact h
theorem wpAnyIn_round (hd : ∀ (i : Nat) (o : Oper), ops[i]? = some o → ∀ c, o.op ≠ .defer c) (l : Nat) : ∀ (fuel : Nat) (listed : Array Bool) (a : Act) (w : World), wpAnyIn F n P md ops Q fuel listed a w → wpAnyIn (F.inRound l) n P md ops Q fuel listed a w := by
  intro fuel
  induction fuel with
  | zero => exact fun _ _ _ h => h
  | succ fuel ih => exact fun listed a w h => ⟨h.1, fun i hi => wpOpIn_mono (fun a w => ih _ a w) (wpOpIn_round hd l i (h.2 i hi))⟩
def noDef (o : Oper) : Bool := match o.op with | .defer _ => false | _ => true
theorem noDef_all (h : ops.all noDef = true) (i : Nat) (o : Oper) (e : ops[i]? = some o) (c) : o.op ≠ .defer c := by
  intro k
  obtain ⟨hi, e⟩ := Array.getElem?_eq_some_iff.1 e
  have := (Array.all_eq_true.1 h) i hi
  rw [e] at this
  unfold noDef at this
  rw [k] at this
  cases this
/-- a drawn region of no 'defer', in a round: it is walked as outside -/
theorem wpIn_region_round {id l : Nat} {a : Act} {w : World} (hm : P.follows .mixedOrders = true) (hd : ops.all noDef = true)
    (h : wpAnyIn F n P .any ops Q ops.size (Array.replicate ops.size false) a w.drew) : (Code.region id ops true).wpIn (F.inRound l) n P Q a w :=
  wpIn_region_any hm (wpAnyIn_round (noDef_all hd) l _ _ _ _ h)
end Go.Proofs.Ytclidonogebgkaa.Ct
