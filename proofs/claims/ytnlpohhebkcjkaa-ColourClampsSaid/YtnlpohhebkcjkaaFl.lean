/- Contracts of the float functions of chapter 11. -/
import Derived.Test.YtnlpohhebkcjkaaInt
import Derived.Test.YtnlpohhebkcjkaaFp
import Derived.Deep.Draws
import Derived.Lib.Hide
import Derived.Laws.Externs
import Derived.IntWalk
namespace Go.Proofs.Ytnlpohhebkcjkaa.F
open Go.ChangeShapes Go.WideShapes Go.RowKit

/-- what a float operation gives; t is what the tape says, where the result is no number -/
def fv (op : BinOp) (k : FloatKind) (x y t : Nat) : Nat := match floatBits op k x y with | some r => r | none => (Question.nanBits k x y).cut t
def fd (op : BinOp) (k : FloatKind) (x y : Nat) : Nat := match floatBits op k x y with | some _ => 0 | none => 1

theorem run_fop {P : Program} (w : World) (op : BinOp) (t : TypeId) (k : FloatKind) (x y : Nat) (h : op = .add ∨ op = .sub ∨ op = .mul ∨ op = .quo) :
    (binOp op t (.float k x) (.float k y)).run P w = .ok (.float k (fv op k x y (w.tape w.drawn (.nanBits k x y)))) (w.drewN (fd op k x y)) := by
  unfold fv fd
  cases hb : floatBits op k x y with
  | some r =>
    rw [run_float_arith w op t k x y r hb]
    rfl
  | none =>
    unfold floatBits at hb
    rcases h with rfl | rfl | rfl | rfl <;> simp only at hb <;> simp [binOp, Op.floatArith, hb, choose, Sem.run, Question.forced] <;> rfl

theorem conv_ff (w : World) (b : Nat) : (convert 22 22 (.float .f64 b)).run Try.prog w = .ok (.float .f64 b) w :=
  run_convert_float_float w 22 22 .f64 .f64 b b (by kernel_rfl) (by kernel_rfl) (by simp [floatToFloatBits])

def RealR (y cb cr a b c : Nat) : Prop :=
  ∃ t1 t2 t3 t4 t5 t6 t7 t8 t9 t10, a = fv .add .f64 y (fv .mul .f64 4608992865850220347 (fv .sub .f64 cr 4638707616191610880 t1) t2) t3 ∧
    b = fv .sub .f64 (fv .sub .f64 y (fv .mul .f64 4599871028115482986 (fv .sub .f64 cb 4638707616191610880 t4) t5) t6) (fv .mul .f64 4604607587368319116 (fv .sub .f64 cr 4638707616191610880 t1) t7) t8 ∧
    c = fv .add .f64 y (fv .mul .f64 4610659197712347431 (fv .sub .f64 cb 4638707616191610880 t4) t9) t10
def RealPost (y cb cr : Nat) (w : World) (e : Ending) (w' : World) : Prop :=
  ∃ a b c n, RealR y cb cr a b c ∧ e = .returned (.tuple #[.float .f64 a, .float .f64 b, .float .f64 c]) ∧ w' = w.drewN n

set_option maxHeartbeats 400000 in
theorem real_any (x y z : Nat) (w : World) :
    Calls Try.prog 28 #[.float .f64 x, .float .f64 y, .float .f64 z] w (RealPost x y z w) := by
  have ha := fun (x y : Nat) (w : World) => run_fop (P := Try.prog) w .add 22 .f64 x y (by simp)
  have hs := fun (x y : Nat) (w : World) => run_fop (P := Try.prog) w .sub 22 .f64 x y (by simp)
  have hm := fun (x y : Nat) (w : World) => run_fop (P := Try.prog) w .mul 22 .f64 x y (by simp)
  have hc := conv_ff
  go_enter Try.func28, Try.ntmps28
  go_wp2
  go_ret3
  exact ⟨_, _, _, _, ⟨_, _, _, _, _, _, _, _, _, _, rfl, rfl, rfl⟩, rfl, rfl⟩
set_option maxHeartbeats 400000 in
theorem rreal_any (x y z : Nat) (w : World) :
    Calls Try.prog 29 #[.float .f64 x, .float .f64 y, .float .f64 z] w (RealPost x y z w) := by
  have ha := fun (x y : Nat) (w : World) => run_fop (P := Try.prog) w .add 22 .f64 x y (by simp)
  have hs := fun (x y : Nat) (w : World) => run_fop (P := Try.prog) w .sub 22 .f64 x y (by simp)
  have hm := fun (x y : Nat) (w : World) => run_fop (P := Try.prog) w .mul 22 .f64 x y (by simp)
  have hc := conv_ff
  go_enter Try.func29, Try.ntmps29
  go_wp2
  go_ret3
  exact ⟨_, _, _, _, ⟨_, _, _, _, _, _, _, _, _, _, rfl, rfl, rfl⟩, rfl, rfl⟩

theorem bits_of (b : Nat) (w : World) : (callFunc 39 #[.float .f64 b]).run Try.prog w = .ok (.value (.int .u64 b)) w := by
  rw [run_callFunc_extern (e := Extern.MathFloatBits.float64bits) Try.func39 (by kernel_rfl) (by kernel_rfl) (by kernel_rfl) (by kernel_rfl)]; rfl
theorem of_bits (b : Int) (w : World) : (callFunc 40 #[.int .u64 b]).run Try.prog w = .ok (.value (.float .f64 b.toNat)) w := by
  rw [run_callFunc_extern (e := Extern.MathFloatBits.float64frombits) Try.func40 (by kernel_rfl) (by kernel_rfl) (by kernel_rfl) (by kernel_rfl)]; rfl
theorem ret_float {a b : Nat} (h : a = b) : Ending.returned (.float .f64 a) = .returned (.float .f64 b) := by rw [h]

set_option maxRecDepth 100000 in
set_option maxHeartbeats 400000 in
theorem round_any (x : Nat) (w : World) :
    Calls Try.prog 38 #[.float .f64 x] w fun e w' => e = .returned (.float .f64 (Fp.roundW x)) ∧ w = w' := by
  have h1 := bits_of
  have h2 := of_bits
  obtain ⟨r, hr⟩ : ∃ r, r = Fp.roundW x := ⟨_, rfl⟩
  have HR := Lib.hid hr
  rw [← hr]
  clear hr
  go_enter Try.func38, Try.ntmps38
  go_wp2
  · go_ret
    refine ⟨ret_float ?_, rfl⟩
    rename_i a b
    rw [HR.out]; unfold Fp.roundW Fp.eW; rw [if_pos a, if_pos (by simpa using b)]
  · go_ret
    refine ⟨ret_float ?_, rfl⟩
    rename_i a b
    rw [HR.out]; unfold Fp.roundW Fp.eW; rw [if_pos a, if_neg (by simpa using b)]
  · go_ret
    refine ⟨ret_float ?_, rfl⟩
    rename_i a b
    rw [HR.out]; unfold Fp.roundW Fp.eW; rw [if_neg (by omega), if_pos b]
  · go_ret
    refine ⟨ret_float ?_, rfl⟩
    rename_i a b
    rw [HR.out]; unfold Fp.roundW Fp.eW; rw [if_neg (by omega), if_neg (by omega)]

set_option maxHeartbeats 400000 in
theorem clamp_any (x lo hi : Nat) (w : World) :
    Calls Try.prog 14 #[.float .f64 x, .float .f64 lo, .float .f64 hi] w fun e w' => e = .returned (.float .f64 (Fp.clampF x lo hi)) ∧ w = w' := by
  obtain ⟨r, hr⟩ : ∃ r, r = Fp.clampF x lo hi := ⟨_, rfl⟩
  have HR := Lib.hid hr
  rw [← hr]
  clear hr
  go_enter Try.func14, Try.ntmps14
  go_wp2
  · go_ret
    refine ⟨ret_float ?_, rfl⟩
    rename_i a b
    have a' : Ieee.double.order x x = some .eq := a
    have b' : (Ieee.double.order x lo == some .lt) = true := b
    rw [HR.out]; unfold Fp.clampF; rw [b']; simp
  · go_ret
    refine ⟨ret_float ?_, rfl⟩
    rename_i a b c
    have a' : Ieee.double.order x x = some .eq := a
    have b' : (Ieee.double.order x lo == some .lt) = false := b
    have c' : (Ieee.double.order x hi == some .gt) = true := c
    rw [HR.out]; unfold Fp.clampF; rw [a', b', c']; simp
  · go_ret
    refine ⟨ret_float ?_, rfl⟩
    rename_i a b c
    have a' : Ieee.double.order x x = some .eq := a
    have b' : (Ieee.double.order x lo == some .lt) = false := b
    have c' : (Ieee.double.order x hi == some .gt) = false := c
    rw [HR.out]; unfold Fp.clampF; rw [a', b', c']; simp
  · go_ret
    refine ⟨ret_float ?_, rfl⟩
    rename_i a
    have a' : ¬ Ieee.double.order x x = some .eq := a
    rw [HR.out]; unfold Fp.clampF; simp [a']
set_option maxHeartbeats 400000 in
theorem byte_any (x : Nat) (w : World) (n : Nat) (h : floatToIntVal .f64 (Fp.roundW (Fp.clampF x 0 Fp.W255)) .u8 = some (n : Int)) :
    Calls Try.prog 30 #[.float .f64 x] w fun e w' => e = .returned (.int .u8 n) ∧ w = w' := by
  have hc := fun w : World => run_convert_float_int (P := Try.prog) w 22 5 .f64 .u8 _ _ (by kernel_rfl) (by kernel_rfl) h
  clear h
  unfold Fp.W255 at hc
  go_enter Try.func30, Try.ntmps30
  go_wp2_with (first | (go_at_call 14; refine (clamp_any _ _ _ _).mono ?_; rintro e w' ⟨rfl, rfl⟩) | (go_at_call 38; refine (round_any _ _).mono ?_; rintro e w' ⟨rfl, rfl⟩))
  go_ret
  exact ⟨rfl, rfl⟩
end Go.Proofs.Ytnlpohhebkcjkaa.F
