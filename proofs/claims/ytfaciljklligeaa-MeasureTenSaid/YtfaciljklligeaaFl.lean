/- Operations on doubles: what they give, and what is alike. -/
import Derived.Test.YtfaciljklligeaaRows
import Derived.Test.YtfaciljklligeaaFp
import Derived.Test.YtfaciljklligeaaMem
import Derived.WalkKit
import Derived.WalkLawsBesides
import Derived.LoopTactic
import Derived.Lib.Hide
import Derived.Outline
import Derived.Laws.Externs
import Derived.IntWalk
import Derived.WalkSpells
import Derived.Deep.QuietTactic
import Derived.BigQuiet
namespace Go.Proofs.Ytfaciljklligeaa.Ct
open Go.ChangeShapes Go.WideShapes Go.RowKit Mm
/-- what a float operation gives; t is what the tape says, where the result is no number -/
def fv (op : BinOp) (x y t : Nat) : Nat := match floatBits op .f64 x y with | some r => r | none => (Question.nanBits .f64 x y).cut t
def fd (op : BinOp) (x y : Nat) : Nat := match floatBits op .f64 x y with | some _ => 0 | none => 1
def fop (op : BinOp) : Prop := op = .add ∨ op = .sub ∨ op = .mul ∨ op = .quo
theorem run_fop {P : Program} (w : World) (op : BinOp) (t : TypeId) (x y : Nat) (h : fop op) :
    (binOp op t (.float .f64 x) (.float .f64 y)).run P w = .ok (.float .f64 (fv op x y (w.tape w.drawn (.nanBits .f64 x y)))) (w.drewN (fd op x y)) := by
  unfold fv fd
  cases hb : floatBits op .f64 x y with
  | some r =>
    rw [run_float_arith w op t .f64 x y r hb]
    rfl
  | none =>
    unfold floatBits at hb
    rcases h with rfl | rfl | rfl | rfl <;> simp only at hb <;> simp [binOp, Op.floatArith, hb, choose, Sem.run, Question.forced] <;> rfl
/-- the same, with nothing asked of the tape -/
def fo (op : BinOp) (x y : Nat) : Nat := fv op x y 0
def NaN (a : Nat) : Prop := ∃ s f, Ieee.double.read a = .nan s f
/-- alike: the same word, or both no number -/
def FEq (a b : Nat) : Prop := a = b ∨ (NaN a ∧ NaN b)
theorem FEq.refl (a : Nat) : FEq a a := .inl rfl
theorem FEq.symm {a b : Nat} (h : FEq a b) : FEq b a := h.elim (fun h => .inl h.symm) (fun h => .inr ⟨h.2, h.1⟩)
theorem FEq.trans {a b c : Nat} (h : FEq a b) (k : FEq b c) : FEq a c := by
  rcases h with rfl | h
  · exact k
  · rcases k with rfl | k
    · exact .inr h
    · exact .inr ⟨h.1, k.2⟩
theorem nan_left {op : BinOp} (ho : fop op) {x : Nat} (h : NaN x) (y : Nat) : floatBits op .f64 x y = none := by
  obtain ⟨s, f, h⟩ := h
  rcases ho with rfl | rfl | rfl | rfl
  · show Ieee.double.add x y = none
    unfold Ieee.Format.add; rw [h]; rfl
  · show Ieee.double.sub x y = none
    unfold Ieee.Format.sub; rw [h]; rfl
  · show Ieee.double.mul x y = none
    unfold Ieee.Format.mul; rw [h]; rfl
  · show Ieee.double.div x y = none
    unfold Ieee.Format.div; rw [h]; rfl
theorem nan_right {op : BinOp} (ho : fop op) {y : Nat} (h : NaN y) (x : Nat) : floatBits op .f64 x y = none := by
  obtain ⟨s, f, h⟩ := h
  rcases ho with rfl | rfl | rfl | rfl
  · show Ieee.double.add x y = none
    unfold Ieee.Format.add; rw [h]; cases Ieee.double.read x <;> rfl
  · show Ieee.double.sub x y = none
    unfold Ieee.Format.sub; rw [h]; cases Ieee.double.read x <;> rfl
  · show Ieee.double.mul x y = none
    unfold Ieee.Format.mul; rw [h]; cases Ieee.double.read x <;> rfl
  · show Ieee.double.div x y = none
    unfold Ieee.Format.div; rw [h]; cases Ieee.double.read x <;> rfl
theorem fv_nan {op : BinOp} {x y : Nat} (h : floatBits op .f64 x y = none) (t : Nat) : NaN (fv op x y t) := by
  unfold fv; rw [h]; exact Fp.nan_cut x y t
theorem fv_alike {op : BinOp} (ho : fop op) {x x' y y' : Nat} (hx : FEq x x') (hy : FEq y y') (t t' : Nat) : FEq (fv op x y t) (fv op x' y' t') := by
  rcases hx with rfl | ⟨n1, n2⟩
  · rcases hy with rfl | ⟨n1, n2⟩
    · cases h : floatBits op .f64 x y with
      | some r => left; unfold fv; rw [h]
      | none => exact .inr ⟨fv_nan h t, fv_nan h t'⟩
    · exact .inr ⟨fv_nan (nan_right ho n1 x) t, fv_nan (nan_right ho n2 x) t'⟩
  · exact .inr ⟨fv_nan (nan_left ho n1 y) t, fv_nan (nan_left ho n2 y') t'⟩
theorem fo_alike {op : BinOp} (ho : fop op) {x x' y y' : Nat} (hx : FEq x x') (hy : FEq y y') (t : Nat) : FEq (fv op x y t) (fo op x' y') := fv_alike ho hx hy t 0
theorem fv_lt (op : BinOp) (x y t : Nat) : fv op x y t < 2 ^ 64 := by
  unfold fv
  cases h : floatBits op .f64 x y with
  | some r =>
    have := floatBits_wf h
    simp only [Lit.wf, decide_eq_true_eq] at this
    exact this
  | none =>
    show (t % 2) * 2 ^ 63 + 0x7ff0000000000000 + 1 + (t / 2) % (2 ^ 52 - 1) < 2 ^ 64
    have := Nat.mod_lt (t / 2) (show 0 < 2 ^ 52 - 1 by omega)
    omega
/-- how two doubles stand -/
abbrev ord (a b : Nat) : Option Ordering := Ieee.double.order a b
theorem order_refl {a : Nat} (h : ¬ NaN a) : ord a a = some .eq := by
  cases hr : Ieee.double.read a with
  | nan s f => exact absurd ⟨s, f, hr⟩ h
  | infinity s => unfold ord Ieee.Format.order; rw [hr]; cases s <;> rfl
  | number s m e => exact (Fp.order_val ⟨_, _, _, hr⟩ ⟨_, _, _, hr⟩).2.1.2 rfl
theorem order_nan {a : Nat} (h : NaN a) (b : Nat) : ord a b = none ∧ ord b a = none := by
  obtain ⟨s, f, h⟩ := h
  exact Fp.order_self_nan h b
theorem kinds (x : Nat) : (NaN x) ∨ (∃ s, Ieee.double.read x = .infinity s) ∨ Fp.fin x := by
  cases h : Ieee.double.read x with
  | nan s f => exact .inl ⟨s, f, h⟩
  | infinity s => exact .inr (.inl ⟨s, rfl⟩)
  | number s m e => exact .inr (.inr ⟨s, m, e, h⟩)
theorem fin_not_nan {x : Nat} (h : Fp.fin x) : ¬ NaN x := by
  rintro ⟨s, f, h2⟩
  obtain ⟨s', m, e, h1⟩ := h
  rw [h1] at h2
  cases h2
/-- a value that is written by an operation on numbers -/
theorem fo_some {op : BinOp} {x y r : Nat} (h : floatBits op .f64 x y = some r) (t : Nat) : fv op x y t = r := by unfold fv; rw [h]
theorem fd_some {op : BinOp} {x y r : Nat} (h : floatBits op .f64 x y = some r) : fd op x y = 0 := by unfold fd; rw [h]
theorem ret_float {a b : Nat} (h : a = b) : Ending.returned (.float .f64 a) = .returned (.float .f64 b) := by rw [h]
theorem conv_ff (w : World) (b : Nat) : (convert 25 25 (.float .f64 b)).run Try.prog w = .ok (.float .f64 b) w :=
  run_convert_float_float w 25 25 .f64 .f64 b b (by kernel_rfl) (by kernel_rfl) (by simp [floatToFloatBits])
/-- floats as cells -/
def flC (l : List Nat) : List Value := l.map (Value.float .f64)
theorem flC_get {l : List Nat} {k : Nat} (h : k < l.length) : (flC l)[k]? = some (.float .f64 l[k]) := by simp [flC, h]
theorem flC_getD {l : List Nat} {k : Nat} (h : k < l.length) : (flC l)[k]? = some (.float .f64 (l.getD k 0)) := by simp [flC, h]
theorem flC_length (l : List Nat) : (flC l).length = l.length := by simp [flC]
/-- a float of a whole number -/
theorem foi_val (n : Nat) (h : n ≤ 2 ^ 53) : Fp.fin (floatOfInt .f64 (n : Int)) ∧ Fp.val (floatOfInt .f64 (n : Int)) = (n : Rat) := by
  have e : floatOfInt .f64 (n : Int) = Ieee.double.write (.number (decide ((n : Int) < 0)) n 0) := rfl
  have hb : (n : Rat) * Fp.p2 0 < Fp.p2 1023 := by
    rw [Fp.p2_zero, Rat.mul_one]
    have h1 : (n : Rat) ≤ ((2 ^ 53 : Nat) : Rat) := by exact_mod_cast h
    have h2 : ((2 ^ 53 : Nat) : Rat) = Fp.p2 53 := (Fp.p2_nat 53).symm
    have h3 : Fp.p2 53 < Fp.p2 1023 := Fp.p2_lt (by omega)
    grind
  have hn : decide ((n : Int) < 0) = false := by simp
  rw [e, hn]
  obtain ⟨m', e', hr, hrd⟩ := Fp.write_rd false n 0 hb
  refine ⟨⟨_, _, _, hr⟩, ?_⟩
  unfold Fp.val
  rw [hr]
  have hd : Fp.dval (.number false n 0) = (n : Rat) := by unfold Fp.dval Fp.sg; simp [Fp.p2_zero]
  rw [hd] at hrd
  exact hrd.exact n 0 (by omega) (by omega) (by rw [Fp.p2_zero]; push_cast; grind)
end Go.Proofs.Ytfaciljklligeaa.Ct
