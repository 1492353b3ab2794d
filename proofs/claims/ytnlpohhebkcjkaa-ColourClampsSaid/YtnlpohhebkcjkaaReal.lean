/- ColourReal's walk: floats that are alike bit for bit, or both no numbers. -/
import Derived.Test.YtnlpohhebkcjkaaFm
import Derived.Test.YtnlpohhebkcjkaaOpen
namespace Go.Proofs.Ytnlpohhebkcjkaa.F
open Go.ChangeShapes Go.WideShapes Go.RowKit

def NaN (a : Nat) : Prop := ∃ s f, Ieee.double.read a = .nan s f
def FEq (a b : Nat) : Prop := a = b ∨ (NaN a ∧ NaN b)
theorem FEq.refl (a : Nat) : FEq a a := .inl rfl
def fop (op : BinOp) : Prop := op = .add ∨ op = .sub ∨ op = .mul ∨ op = .quo

theorem nan_left {op : BinOp} (ho : fop op) {x : Nat} (h : NaN x) (y : Nat) : floatBits op .f64 x y = none := by
  obtain ⟨s, f, h⟩ := h
  rcases ho with rfl | rfl | rfl | rfl
  · show Ieee.double.add x y = none
    unfold Ieee.Format.add; rw [h]; rfl
  · show Ieee.double.sub x y = none
    unfold Ieee.Format.sub; rw [h]; rfl
  · show Ieee.double.mul x y = none
    unfold Ieee.Format.mul; rw [h]; rfl
  · show Ieee.double.div x y = none
    unfold Ieee.Format.div; rw [h]; rfl
theorem nan_right {op : BinOp} (ho : fop op) {y : Nat} (h : NaN y) (x : Nat) : floatBits op .f64 x y = none := by
  obtain ⟨s, f, h⟩ := h
  rcases ho with rfl | rfl | rfl | rfl
  · show Ieee.double.add x y = none
    unfold Ieee.Format.add; rw [h]; cases Ieee.double.read x <;> rfl
  · show Ieee.double.sub x y = none
    unfold Ieee.Format.sub; rw [h]; cases Ieee.double.read x <;> rfl
  · show Ieee.double.mul x y = none
    unfold Ieee.Format.mul; rw [h]; cases Ieee.double.read x <;> rfl
  · show Ieee.double.div x y = none
    unfold Ieee.Format.div; rw [h]; cases Ieee.double.read x <;> rfl
theorem fv_nan {op : BinOp} {x y : Nat} (h : floatBits op .f64 x y = none) (t : Nat) : NaN (fv op .f64 x y t) := by
  unfold fv; rw [h]; exact Fp.nan_cut x y t
theorem fv_alike {op : BinOp} (ho : fop op) {x x' y y' : Nat} (hx : FEq x x') (hy : FEq y y') (t t' : Nat) : FEq (fv op .f64 x y t) (fv op .f64 x' y' t') := by
  rcases hx with rfl | ⟨n1, n2⟩
  · rcases hy with rfl | ⟨n1, n2⟩
    · cases h : floatBits op .f64 x y with
      | some r => left; unfold fv; rw [h]
      | none => exact .inr ⟨fv_nan h t, fv_nan h t'⟩
    · exact .inr ⟨fv_nan (nan_right ho n1 x) t, fv_nan (nan_right ho n2 x) t'⟩
  · exact .inr ⟨fv_nan (nan_left ho n1 y) t, fv_nan (nan_left ho n2 y') t'⟩
theorem fv_lt (op : BinOp) (x y t : Nat) : fv op .f64 x y t < 2 ^ 64 := by
  unfold fv
  cases h : floatBits op .f64 x y with
  | some r =>
    have := floatBits_wf h
    simp only [Lit.wf, decide_eq_true_eq] at this
    exact this
  | none =>
    show (t % 2) * 2 ^ 63 + 0x7ff0000000000000 + 1 + (t / 2) % (2 ^ 52 - 1) < 2 ^ 64
    have := Nat.mod_lt (t / 2) (show 0 < 2 ^ 52 - 1 by omega)
    omega

theorem RealR.alike {y cb cr a b c d e f : Nat} (h : RealR y cb cr a b c) (k : RealR y cb cr d e f) : FEq a d ∧ FEq b e ∧ FEq c f := by
  obtain ⟨t1, t2, t3, t4, t5, t6, t7, t8, t9, t10, rfl, rfl, rfl⟩ := h
  obtain ⟨u1, u2, u3, u4, u5, u6, u7, u8, u9, u10, rfl, rfl, rfl⟩ := k
  have A : fop .add := .inl rfl
  have S : fop .sub := .inr (.inl rfl)
  have M : fop .mul := .inr (.inr (.inl rfl))
  have r := fv_alike S (FEq.refl cr) (FEq.refl 4638707616191610880) t1 u1
  have q := fv_alike S (FEq.refl cb) (FEq.refl 4638707616191610880) t4 u4
  exact ⟨fv_alike A (.refl _) (fv_alike M (.refl _) r _ _) _ _, fv_alike S (fv_alike S (.refl _) (fv_alike M (.refl _) q _ _) _ _) (fv_alike M (.refl _) r _ _) _ _,
    fv_alike A (.refl _) (fv_alike M (.refl _) q _ _) _ _⟩
theorem RealR.lt {y cb cr a b c : Nat} (h : RealR y cb cr a b c) : a < 2 ^ 64 := by
  obtain ⟨t1, t2, t3, t4, t5, t6, t7, t8, t9, t10, rfl, rfl, rfl⟩ := h
  exact fv_lt _ _ _ _
theorem byte_alike {a d n m : Nat} (h : FEq a d) (hn : Fp.ByteR a n) (hm : Fp.ByteR d m) : n = m := by
  rcases h with rfl | ⟨⟨s, f, h1⟩, ⟨s', f', h2⟩⟩
  · exact hn.same hm
  · unfold Fp.ByteR at hn hm
    rw [h1] at hn
    rw [h2] at hm
    exact hn.trans hm.symm

theorem order_refl {a : Nat} (h : ¬ NaN a) : Ieee.double.order a a = some .eq := by
  cases hr : Ieee.double.read a with
  | nan s f => exact absurd ⟨s, f, hr⟩ h
  | infinity s => unfold Ieee.Format.order; rw [hr]; cases s <;> rfl
  | number s m e => exact (Fp.order_val ⟨_, _, _, hr⟩ ⟨_, _, _, hr⟩).2.1.2 rfl

set_option maxHeartbeats 400000 in
theorem same_any (a b : Nat) (w : World) (h : FEq a b) : Calls Try.prog 13 #[.float .f64 a, .float .f64 b] w fun e w' => e = .returned (.bool true) ∧ w = w' := by
  by_cases hn : NaN a
  · have hb : NaN b := by
      rcases h with rfl | h
      · exact hn
      · exact h.2
    obtain ⟨s, f, hn⟩ := hn
    obtain ⟨s', f', hb⟩ := hb
    have o1 : FloatKind.f64.format.order a b = none := (Fp.order_self_nan hn b).1
    have o2 : FloatKind.f64.format.order a a = none := (Fp.order_self_nan hn a).1
    have o3 : FloatKind.f64.format.order b b = none := (Fp.order_self_nan hb b).1
    clear hn hb h
    go_enter Try.func13, Try.ntmps13
    go_wp2
    go_ret
    exact ⟨rfl, rfl⟩
  · obtain rfl : a = b := by
      rcases h with rfl | h
      · rfl
      · exact absurd h.1 hn
    have o1 : FloatKind.f64.format.order a a = some .eq := order_refl hn
    clear hn h
    go_enter Try.func13, Try.ntmps13
    go_wp2
    go_ret
    exact ⟨rfl, rfl⟩

def Drawn (w : World) (e : Ending) (w' : World) : Prop := ∃ n, e = .returned (.bool true) ∧ w' = w.drewN n
set_option maxRecDepth 100000 in
set_option maxHeartbeats 800000 in
theorem law_real (y cb cr : Nat) (w : World) (h0 : y < 2 ^ 64) (h1 : cb < 2 ^ 64) :
    Calls Try.prog 7 #[.float .f64 y, .float .f64 cb, .float .f64 cr] w (Drawn w) := by
  go_enter Try.func7, Try.ntmps7
  go_wp2_with fail
  refine (real_any _ _ _ _).mono ?_
  rintro e w' ⟨a, b, c, n, hR, rfl, rfl⟩
  go_wp2_with fail
  refine (rreal_any _ _ _ _).mono ?_
  rintro e w' ⟨d, e, f, n2, hR2, rfl, rfl⟩
  obtain ⟨s1, s2, s3⟩ := hR.alike hR2
  have ha := hR.lt
  clear hR hR2
  go_wp2_with (go_at_call 13; refine (same_any _ _ _ (by assumption)).mono ?_; rintro e w' ⟨rfl, rfl⟩)
  refine (cbyte_any _ _ h0).mono ?_
  rintro e w' ⟨n1, l1, r1, rfl, rfl⟩
  go_wp2_with fail
  refine (rbyte_any _ _).mono ?_
  rintro e w' ⟨n2, d2, r2, rfl, rfl⟩
  obtain rfl := r1.same r2
  go_wp2_with fail
  refine (cbyte_any _ _ ha).mono ?_
  rintro e w' ⟨n3, l3, r3, rfl, rfl⟩
  go_wp2_with fail
  refine (rbyte_any _ _).mono ?_
  rintro e w' ⟨n4, d4, r4, rfl, rfl⟩
  obtain rfl := byte_alike s1 r3 r4
  go_wp2_with fail
  refine (cbyte_any _ _ h1).mono ?_
  rintro e w' ⟨n5, l5, r5, rfl, rfl⟩
  go_wp2_with fail
  refine (rbyte_any _ _).mono ?_
  rintro e w' ⟨n6, d6, r6, rfl, rfl⟩
  obtain rfl := r5.same r6
  go_wp2_with fail
  go_ret
  exact ⟨_, rfl, rfl⟩
theorem wf_lt {a : Nat} (h : (Lit.float .f64 a).wf = true) : a < 2 ^ 64 := by
  simp only [Lit.wf, decide_eq_true_eq] at h
  exact h
theorem Drawn.row {w : World} {e : Ending} {w' : World} (h : Drawn w e w') : e = .returned (.bool true) ∧ Below w.heap.size w w' := by
  obtain ⟨n, rfl, rfl⟩ := h
  exact ⟨rfl, Fp.below_drewN (Below.refl _ _) n⟩
theorem row_real (W : World) (a0 : Nat) (w0 : (Lit.float .f64 a0).wf = true) (a1 : Nat) (w1 : (Lit.float .f64 a1).wf = true) (a2 : Nat) (_ : (Lit.float .f64 a2).wf = true) :
    Calls Try.prog 7 #[.float .f64 a0, .float .f64 a1, .float .f64 a2] W fun e w' => e = .returned (.bool true) ∧ Below W.heap.size W w' :=
  (law_real a0 a1 a2 W (wf_lt w0) (wf_lt w1)).mono fun _ _ h => h.row
end Go.Proofs.Ytnlpohhebkcjkaa.F
