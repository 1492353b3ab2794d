/- How much two images are alike: either way round the same; itself by 1; from -1 to 1. -/
import Derived.Test.YtfaciljklligeaaLy
import Derived.Test.YtfaciljklligeaaAl
namespace Go.Proofs.Ytfaciljklligeaa.Ct
open Go.ChangeShapes Go.WideShapes Go.RowKit Mm
def Acc.swap (s : Acc) : Acc := ⟨s.n, s.b, s.a, s.bb, s.aa, s.ab⟩
section
variable (l l2 : List Nat) (W C c : Nat)
theorem rowS_swap (s : Acc) (y x0 k : Nat) : rowS l2 l W C c s.swap y x0 k = (rowS l l2 W C c s y x0 k).swap := by
  induction k with
  | zero => rfl
  | succ k ih =>
    show (rowS l2 l W C c s.swap y x0 k).add _ _ = ((rowS l l2 W C c s y x0 k).add _ _).swap
    rw [ih]
    unfold Acc.add Acc.swap
    simp [Nat.mul_comm]
theorem tileS_swap (y0 x0 cols j : Nat) : tileS l2 l W C c y0 x0 cols j = (tileS l l2 W C c y0 x0 cols j).swap := by
  induction j with
  | zero => rfl
  | succ j ih =>
    show rowS l2 l W C c (tileS l2 l W C c y0 x0 cols j) _ _ _ = _
    rw [ih, rowS_swap]
    rfl
theorem rowS_self (s : Acc) (hs : s.a = s.b ∧ s.aa = s.bb ∧ s.aa = s.ab) (y x0 k : Nat) : (rowS l l W C c s y x0 k).a = (rowS l l W C c s y x0 k).b ∧ (rowS l l W C c s y x0 k).aa = (rowS l l W C c s y x0 k).bb ∧ (rowS l l W C c s y x0 k).aa = (rowS l l W C c s y x0 k).ab := by
  induction k with
  | zero => exact hs
  | succ k ih =>
    unfold rowS Acc.add
    dsimp only
    omega
theorem tileS_self (y0 x0 cols j : Nat) : (tileS l l W C c y0 x0 cols j).a = (tileS l l W C c y0 x0 cols j).b ∧ (tileS l l W C c y0 x0 cols j).aa = (tileS l l W C c y0 x0 cols j).bb ∧ (tileS l l W C c y0 x0 cols j).aa = (tileS l l W C c y0 x0 cols j).ab := by
  induction j with
  | zero => exact ⟨rfl, rfl, rfl⟩
  | succ j ih => exact rowS_self l W C c _ ih _ _ _
end
section
variable {l l2 : List Nat} {W H C : Nat} (h : Byts l) (h2 : Byts l2)
include h h2
theorem tile_sums {c j i : Nat} (hj : j < (H + 7) / 8) (hi : i < (W + 7) / 8) :
    Sums (tileS l l2 W C c (8 * j) (8 * i) (min (8 * i + 8) W - 8 * i) (min (8 * j + 8) H - 8 * j)).n (tileS l l2 W C c (8 * j) (8 * i) (min (8 * i + 8) W - 8 * i) (min (8 * j + 8) H - 8 * j)).a
      (tileS l l2 W C c (8 * j) (8 * i) (min (8 * i + 8) W - 8 * i) (min (8 * j + 8) H - 8 * j)).b (tileS l l2 W C c (8 * j) (8 * i) (min (8 * i + 8) W - 8 * i) (min (8 * j + 8) H - 8 * j)).aa
      (tileS l l2 W C c (8 * j) (8 * i) (min (8 * i + 8) W - 8 * i) (min (8 * j + 8) H - 8 * j)).bb (tileS l l2 W C c (8 * j) (8 * i) (min (8 * i + 8) W - 8 * i) (min (8 * j + 8) H - 8 * j)).ab := by
  have hx : 1 ≤ min (8 * i + 8) W - 8 * i ∧ min (8 * i + 8) W - 8 * i ≤ 8 := by omega
  have hy : 1 ≤ min (8 * j + 8) H - 8 * j ∧ min (8 * j + 8) H - 8 * j ≤ 8 := by omega
  generalize min (8 * i + 8) W - 8 * i = cols at *
  generalize min (8 * j + 8) H - 8 * j = rows at *
  obtain ⟨k1, k2⟩ := tileS_ok (W := W) (C := C) (c := c) h h2 (8 * j) (8 * i) cols rows
  have a1 : rows * cols ≤ 8 * 8 := Nat.mul_le_mul hy.2 hx.2
  have a2 : 1 * 1 ≤ rows * cols := Nat.mul_le_mul hy.1 hx.1
  exact k1.sums (by omega) (by omega)
theorem tlP_symm {c j i : Nat} (hj : j < (H + 7) / 8) (hi : i < (W + 7) / 8) : tlP l l2 W H C c j i = tlP l2 l W H C c j i := by
  unfold tlP
  rw [tileS_swap l l2]
  have hs := tile_sums (C := C) (c := c) h h2 hj hi
  generalize tileS l l2 W C c (8 * j) (8 * i) (min (8 * i + 8) W - 8 * i) (min (8 * j + 8) H - 8 * j) = s at *
  exact like_symm hs
theorem tlP_bounds {c j i : Nat} (hj : j < (H + 7) / 8) (hi : i < (W + 7) / 8) : Fp.fin (tlP l l2 W H C c j i) ∧ -(1 + 1 / 4000000000) ≤ Fp.val (tlP l l2 W H C c j i) ∧ Fp.val (tlP l l2 W H C c j i) ≤ 1 + 1 / 4000000000 := by
  have hs := tile_sums (C := C) (c := c) h h2 hj hi
  unfold tlP
  generalize tileS l l2 W C c (8 * j) (8 * i) (min (8 * i + 8) W - 8 * i) (min (8 * j + 8) H - 8 * j) = s at *
  obtain ⟨p, q, pp, qq, pq, ga, gb, gg, u, v, w, p2, both, w2, b1, c1, above, d0, d, e0, e, below, r, L, R⟩ := like_ex hs
  unfold likeA
  rw [L.eq]
  exact R
end
section
variable {l l2 : List Nat} {W H C : Nat}
theorem rowF_inv {P : Nat → Nat → Prop} {c j : Nat} (hs : ∀ k s i, i < (W + 7) / 8 → P k s → P (k + 1) (fo .add s (tlP l l2 W H C c j i))) {k s : Nat} (h0 : P k s) :
    ∀ i, i ≤ (W + 7) / 8 → P (k + i) (rowF l l2 W H C s c j i) := by
  intro i
  induction i with
  | zero => intro _; exact h0
  | succ i ih => intro hi; exact hs _ _ i (by omega) (ih (by omega))
theorem colF_inv {P : Nat → Nat → Prop} {c : Nat} (hs : ∀ k s j i, j < (H + 7) / 8 → i < (W + 7) / 8 → P k s → P (k + 1) (fo .add s (tlP l l2 W H C c j i))) {k s : Nat} (h0 : P k s) :
    ∀ j, j ≤ (H + 7) / 8 → P (k + j * ((W + 7) / 8)) (colF l l2 W H C s c j) := by
  intro j
  induction j with
  | zero => intro _; rw [Nat.zero_mul]; exact h0
  | succ j ih =>
    intro hj
    have := rowF_inv (c := c) (j := j) (fun k s i hi => hs k s j i (by omega) hi) (ih (by omega)) ((W + 7) / 8) (Nat.le_refl _)
    rw [Nat.succ_mul, ← Nat.add_assoc]
    exact this
theorem chF_inv {P : Nat → Nat → Prop} (hs : ∀ k s c j i, j < (H + 7) / 8 → i < (W + 7) / 8 → P k s → P (k + 1) (fo .add s (tlP l l2 W H C c j i))) (h0 : P 0 0) :
    ∀ c, P (c * ((H + 7) / 8 * ((W + 7) / 8))) (chF l l2 W H C c) := by
  intro c
  induction c with
  | zero => simpa [chF] using h0
  | succ c ih =>
    have := colF_inv (c := c) (fun k s j i hj hi => hs k s c j i hj hi) ih ((H + 7) / 8) (Nat.le_refl _)
    rw [Nat.succ_mul]
    exact this
theorem alikeP_symm (h : Byts l) (h2 : Byts l2) : alikeP l l2 W H C = alikeP l2 l W H C := by
  have hr : ∀ s c j, j < (H + 7) / 8 → ∀ i, i ≤ (W + 7) / 8 → rowF l l2 W H C s c j i = rowF l2 l W H C s c j i := by
    intro s c j hj i
    induction i with
    | zero => intro _; rfl
    | succ i ih => intro hi; unfold rowF; rw [ih (by omega), tlP_symm h h2 hj (by omega)]
  have hc : ∀ s c j, j ≤ (H + 7) / 8 → colF l l2 W H C s c j = colF l2 l W H C s c j := by
    intro s c j
    induction j with
    | zero => intro _; rfl
    | succ j ih => intro hj; unfold colF; rw [ih (by omega), hr _ _ _ (by omega) _ (Nat.le_refl _)]
  have hh : ∀ c, chF l l2 W H C c = chF l2 l W H C c := by
    intro c
    induction c with
    | zero => rfl
    | succ c ih => unfold chF; rw [ih, hc _ _ _ (Nat.le_refl _)]
  unfold alikeP
  rw [hh]
theorem tiles_le (hW : W ≤ 20) (hH : H ≤ 20) (hC : C ≤ 4) : C * ((H + 7) / 8 * ((W + 7) / 8)) ≤ 36 := by
  have a : (H + 7) / 8 * ((W + 7) / 8) ≤ 3 * 3 := Nat.mul_le_mul (by omega) (by omega)
  have b : C * ((H + 7) / 8 * ((W + 7) / 8)) ≤ 4 * (3 * 3) := Nat.mul_le_mul hC a
  omega
theorem alikeP_bounds (h : Byts l) (h2 : Byts l2) (hW : 1 ≤ W ∧ W ≤ 20) (hH : 1 ≤ H ∧ H ≤ 20) (hC : 1 ≤ C ∧ C ≤ 4) :
    Fp.fin (alikeP l l2 W H C) ∧ -(1 + 6 / 10000000000) ≤ Fp.val (alikeP l l2 W H C) ∧ Fp.val (alikeP l l2 W H C) ≤ 1 + 6 / 10000000000 := by
  have hn := tiles_le hW.2 hH.2 hC.2
  have hn1 : 1 ≤ C * ((H + 7) / 8 * ((W + 7) / 8)) := Nat.mul_pos hC.1 (Nat.mul_pos (by omega) (by omega))
  have hi := chF_inv (l := l) (l2 := l2) (W := W) (H := H) (C := C) (P := fun k s => k ≤ 36 → Fp.fin s ∧ -((k : Rat) * (1 + 1 / 2000000000)) ≤ Fp.val s ∧ Fp.val s ≤ (k : Rat) * (1 + 1 / 2000000000)) (by
    intro k s c j i hj hi ih hk
    obtain ⟨fs, s1, s2⟩ := ih (by omega)
    obtain ⟨ft, t1, t2⟩ := tlP_bounds (C := C) (c := c) h h2 hj hi
    have hkr : (k : Rat) ≤ 36 := by exact_mod_cast (show k ≤ 36 by omega)
    have hk0 : (0 : Rat) ≤ (k : Rat) := by exact_mod_cast Nat.zero_le k
    have e : ((k + 1 : Nat) : Rat) = (k : Rat) + 1 := by push_cast; rfl
    obtain ⟨r, hr, hf, hd⟩ := add_near fs ft 100 (by decide +kernel) (by decide +kernel) (by constructor <;> grind)
    have : fo .add s (tlP l l2 W H C c j i) = r := fo_some hr 0
    rw [this, e]
    rw [eps_val] at hd
    unfold Near at hd
    exact ⟨hf, by grind, by grind⟩) (fun _ => ⟨Fp.val_0.1, by rw [Fp.val_0.2]; decide +kernel, by rw [Fp.val_0.2]; decide +kernel⟩) C hn
  unfold alikeP
  generalize C * ((H + 7) / 8 * ((W + 7) / 8)) = N at *
  generalize chF l l2 W H C C = S at *
  obtain ⟨fs, s1, s2⟩ := hi
  obtain ⟨fn, vn⟩ := foi_val N (by omega)
  have hnr : (0 : Rat) < (N : Rat) := by exact_mod_cast hn1
  have q1 : Fp.val S / (N : Rat) ≤ 1 + 1 / 2000000000 := div_le' hnr (by grind)
  have q2 : -(1 + 1 / 2000000000) ≤ Fp.val S / (N : Rat) := le_div' hnr (by grind)
  obtain ⟨r, hr, hf, hd⟩ := div_near fs fn 2 (by decide +kernel) (by decide +kernel) (by rw [vn]; exact Rat.ne_of_gt hnr) (by rw [vn]; constructor <;> grind)
  rw [vn, eps_val] at hd
  have : fo .quo S (floatOfInt .f64 (N : Int)) = r := fo_some hr 0
  rw [this]
  unfold Near at hd
  exact ⟨hf, by grind, by grind⟩
theorem alikeP_self (h : Byts l) (hW : 1 ≤ W ∧ W ≤ 20) (hH : 1 ≤ H ∧ H ≤ 20) (hC : 1 ≤ C ∧ C ≤ 4) : Fp.fin (alikeP l l W H C) ∧ Fp.val (alikeP l l W H C) = 1 := by
  have hn := tiles_le hW.2 hH.2 hC.2
  have hn1 : 1 ≤ C * ((H + 7) / 8 * ((W + 7) / 8)) := Nat.mul_pos hC.1 (Nat.mul_pos (by omega) (by omega))
  have hi := chF_inv (l := l) (l2 := l) (W := W) (H := H) (C := C) (P := fun k s => k ≤ 36 → Fp.fin s ∧ Fp.val s = (k : Rat)) (by
    intro k s c j i hj hi ih hk
    obtain ⟨fs, s1⟩ := ih (by omega)
    have ht : Fp.fin (tlP l l W H C c j i) ∧ Fp.val (tlP l l W H C c j i) = 1 := by
      have hs := tile_sums (C := C) (c := c) h h hj hi
      obtain ⟨e1, e2, e3⟩ := tileS_self l W C c (8 * j) (8 * i) (min (8 * i + 8) W - 8 * i) (min (8 * j + 8) H - 8 * j)
      unfold tlP likeA
      rw [← e1, ← e2, ← e3] at hs ⊢
      exact like_self hs
    have hkr : (k : Rat) ≤ 36 := by exact_mod_cast (show k ≤ 36 by omega)
    have hk0 : (0 : Rat) ≤ (k : Rat) := by exact_mod_cast Nat.zero_le k
    have e : ((k + 1 : Nat) : Rat) = (k : Rat) + 1 := by push_cast; rfl
    have hb := p2_big' (M := 100) (by decide +kernel)
    obtain ⟨r, hr, hf, hd⟩ := Fp.add_rd fs ht.1 (by rw [s1, ht.2]; grind) (by rw [s1, ht.2]; grind)
    have : fo .add s (tlP l l W H C c j i) = r := fo_some (op := .add) (show floatBits .add .f64 _ _ = some r from hr) 0
    rw [this]
    refine ⟨hf, ?_⟩
    rw [s1, ht.2, ← e] at hd
    exact hd.exact (k + 1 : Nat) 0 (by omega) (by decide) (by rw [Fp.p2_zero, Rat.mul_one]; exact (Rat.intCast_natCast _).symm)) (fun _ => ⟨Fp.val_0.1, by rw [Fp.val_0.2]; rfl⟩) C hn
  unfold alikeP
  generalize C * ((H + 7) / 8 * ((W + 7) / 8)) = N at *
  generalize chF l l W H C C = S at *
  obtain ⟨fs, s1⟩ := hi
  obtain ⟨fn, vn⟩ := foi_val N (by omega)
  have hnr : (0 : Rat) < (N : Rat) := by exact_mod_cast hn1
  have e1 : Fp.val S / Fp.val (floatOfInt .f64 (N : Int)) = 1 := by rw [s1, vn]; exact div_one' (Rat.ne_of_gt hnr)
  obtain ⟨r, v, hr, hf, hq, hd⟩ := Fp.div_rd fs fn (by rw [vn]; exact Rat.ne_of_gt hnr) (by rw [e1]; decide +kernel) (by rw [e1]; decide +kernel)
  rw [e1] at hq
  have hv := hq.exact 1 (by decide) (by decide +kernel)
  subst hv
  have : fo .quo S (floatOfInt .f64 (N : Int)) = r := fo_some (op := .quo) (show floatBits .quo .f64 _ _ = some r from hr) 0
  rw [this]
  exact ⟨hf, hd.exact 1 0 (by decide) (by decide) (by decide +kernel)⟩
end
end Go.Proofs.Ytfaciljklligeaa.Ct
