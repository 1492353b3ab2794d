/- Two images of one size: what the measures answer. -/
import Derived.Test.YtfaciljklligeaaLz
import Derived.Test.YtfaciljklligeaaAm
import Derived.Test.YtfaciljklligeaaIm2
import Derived.Test.YtfaciljklligeaaTe
import Derived.Test.YtfaciljklligeaaTl
namespace Go.Proofs.Ytfaciljklligeaa.Ct
open Go.ChangeShapes Go.WideShapes Go.RowKit Mm
/-- sides of the law's images -/
structure Side (W H C N : Nat) : Prop where
  w : 1 ≤ W ∧ W ≤ 20
  h : 1 ≤ H ∧ H ≤ 20
  c : 1 ≤ C ∧ C ≤ 4
  n : N = W * H * C
theorem Side.le {W H C N : Nat} (s : Side W H C N) : 1 ≤ N ∧ N ≤ 1600 := by
  have h1 : W * H ≤ 20 * 20 := Nat.mul_le_mul s.w.2 s.h.2
  have h2 : W * H * C ≤ 20 * 20 * 4 := Nat.mul_le_mul h1 s.c.2
  have h3 : 0 < W * H * C := Nat.mul_pos (Nat.mul_pos s.w.1 s.h.1) s.c.1
  have := s.n
  omega
theorem Side.may {W H C N : Nat} (s : Side W H C N) : mayP W H C N := by
  refine ⟨⟨?_, ?_⟩, ⟨?_, ?_⟩, ⟨?_, ?_⟩, ?_⟩
  · have := s.w; omega
  · have := s.w; omega
  · have := s.h; omega
  · have := s.h; omega
  · have := s.c; omega
  · have := s.c; omega
  · have := s.n; rw [this]; push_cast; rfl
theorem Side.pair {W H C N : Nat} (s : Side W H C N) : pairE W H C N W H C N = 0 := by
  unfold pairE
  have : mayB W H C N = true := decide_eq_true s.may
  simp [this]
section
variable {W H C N : Nat} (s : Side W H C N) {l1 l2 : List Nat} (e1 : l1.length = N) (e2 : l2.length = N) (b1 : Byts l1) (b2 : Byts l2)
include s e1 e2 b1 b2
theorem apart_img (w : World) (A1 : Option Addr) (c1 : Nat) (A2 : Option Addr) (c2 : Nat) (r1 : Rds w 1 A1 N (byC l1)) (r2 : Rds w 1 A2 N (byC l2)) :
    Calls Try.prog 19 #[imgV W H C A1 N c1, imgV W H C A2 N c2] w fun e w' => e = .returned (.tuple #[.float .f64 (apartP l1 l2), .int .i64 0]) ∧ Only No w w' := by
  have h := apart19 w W H C A1 c1 l1 W H C A2 c2 l2 (by rw [e1]; exact r1) (by rw [e2]; exact r2) b1 b2
  unfold ApartPost at h
  rw [e1, e2, s.pair, if_pos rfl] at h
  exact h
theorem peak_img (w : World) (A1 : Option Addr) (c1 : Nat) (A2 : Option Addr) (c2 : Nat) (r1 : Rds w 1 A1 N (byC l1)) (r2 : Rds w 1 A2 N (byC l2)) :
    Calls Try.prog 21 #[imgV W H C A1 N c1, imgV W H C A2 N c2] w fun e w' => e = .returned (.tuple #[.int .i64 (pkK l1 l2 N), .int .i64 0]) ∧ Only No w w' := by
  have h := peak21 w W H C A1 c1 l1 W H C A2 c2 l2 (by rw [e1]; exact r1) (by rw [e2]; exact r2) b1 b2
  unfold PeakPost at h
  rw [e1, e2, s.pair, if_pos rfl] at h
  exact h
theorem alike_img (w : World) (A1 : Option Addr) (c1 : Nat) (A2 : Option Addr) (c2 : Nat) (r1 : Rds w 1 A1 N (byC l1)) (r2 : Rds w 1 A2 N (byC l2)) :
    Calls Try.prog 23 #[imgV W H C A1 N c1, imgV W H C A2 N c2] w fun e w' => e = .returned (.tuple #[.float .f64 (alikeP l1 l2 W H C), .int .i64 0]) ∧ Only No w w' := by
  have h := alike23 w W H C A1 c1 l1 W H C A2 c2 l2 (by rw [e1]; exact r1) (by rw [e2]; exact r2) b1 b2
  unfold AlikePost at h
  rw [e1, e2, s.pair, if_pos rfl] at h
  refine h.mono ?_
  rintro e w' ⟨r, hr, he, ho⟩
  have hf := (alikeP_bounds b1 b2 s.w s.h s.c).1
  have : r = alikeP l1 l2 W H C := by
    rcases hr with h | ⟨_, h⟩
    · exact h
    · exact absurd h (fin_not_nan hf)
  subst this
  exact ⟨he, ho⟩
end
theorem twin_img {W H C N : Nat} {l : List Nat} (e1 : l.length = N) (hN : N ≤ 1600) (w : World) (A : Option Addr) (c : Nat) (r : Rds w 1 A N (byC l)) :
    Calls Try.prog 18 #[imgV W H C A N c] w fun e w' => ∃ A' c', e = .returned (imgV W H C A' N c') ∧ (∀ w3, Only No w' w3 → Rds w3 1 A' N (byC l)) ∧ Only No w w' := by
  subst e1
  refine (twin18 w W H C A c l r (by omega)).mono ?_
  rintro e w' ⟨A', c', he, ho, o⟩
  exact ⟨A', c', he, fun w3 k => (Rds.of_own ho).no k, o⟩
/-- what MeasureSelf asks of the answers -/
structure SelfFacts (Z R X Y : Nat) (K0 : Int) : Prop where
  z : FloatKind.f64.format.order Z 0 = some .eq
  r : FloatKind.f64.format.order R 4607182418800017408 = some .eq
  x : FloatKind.f64.format.order X X = some .eq
  y : FloatKind.f64.format.order Y Y = some .eq
  hi : FloatKind.f64.format.order Y 4607182418804521008 = some .lt
  lo : FloatKind.f64.format.order Y 13830554455659296816 = some .gt
  k : K0 = 0
theorem self_facts {W H C N : Nat} (s : Side W H C N) {l1 l2 : List Nat} (e1 : l1.length = N) (b1 : Byts l1) (b2 : Byts l2) :
    SelfFacts (apartP l1 l1) (alikeP l1 l1 W H C) (apartP l1 l2) (alikeP l1 l2 W H C) (pkK l1 l1 N) := by
  have hN := s.le
  obtain ⟨fr, vr⟩ := alikeP_self (W := W) (H := H) (C := C) b1 s.w s.h s.c
  obtain ⟨fy, y1, y2⟩ := alikeP_bounds (W := W) (H := H) (C := C) b1 b2 s.w s.h s.c
  have v1 := Fp.val_one
  have fhi : Fp.fin 4607182418804521008 ∧ 1 + 9 / 10000000000 ≤ Fp.val 4607182418804521008 := ⟨Fp.fin_rung (by decide +kernel), by decide +kernel⟩
  have flo : Fp.fin 13830554455659296816 ∧ Fp.val 13830554455659296816 ≤ -(1 + 9 / 10000000000) := ⟨⟨_, _, _, Fp.read_word true 4607182418804521008 (by decide +kernel)⟩, by decide +kernel⟩
  refine ⟨(apart_0 b1 b1 (by omega) (by omega)).1 (sqK_self _ _), ?_, order_refl (fin_not_nan (apart_bits b1 b2 (by omega) (by omega)).2.1), order_refl (fin_not_nan fy), ?_, ?_, pkK_self _ _⟩
  · exact ((ord_gt_iff fr v1.1).2.1).2 (by rw [vr, v1.2])
  · exact ((ord_gt_iff fy fhi.1).2.2).2 (by have := fhi.2; grind)
  · exact ((ord_gt_iff fy flo.1).1).2 (by have := flo.2; grind)
end Go.Proofs.Ytfaciljklligeaa.Ct
