/- The reference: standIn. -/
import Derived.Test.YtnepchdpgbdogaaRs
namespace Go.Proofs.Ytnepchdpgbdogaa.Ct
open Go.ChangeShapes Go.WideShapes Go.RowKit Mm
theorem rW_le {d : Nat → Nat} (h : ∀ k, d k ≤ 8192) (i k : Nat) : 1 ≤ rW d i k ∧ rW d i k ≤ 8192 ^ (if i < k then k - 1 else k) := by
  induction k with
  | zero => simp [rW]
  | succ k ih =>
    have hf := h k
    unfold rW
    by_cases hk : k = i
    · subst hk
      rw [if_neg (fun h => h.1 rfl), if_pos (Nat.lt_succ_self k)]
      simpa using ih
    · have : (if i < k + 1 then k + 1 - 1 else k + 1) = (if i < k then k - 1 else k) + 1 := by
        by_cases h1 : i < k
        · rw [if_pos h1, if_pos (by omega)]; omega
        · rw [if_neg h1, if_neg (by omega)]
      rw [this, Nat.pow_succ]
      split
      · rename_i h2
        exact ⟨Nat.le_trans ih.1 (Nat.le_mul_of_pos_right _ h2.2), Nat.mul_le_mul ih.2 hf⟩
      · exact ⟨ih.1, Nat.le_trans ih.2 (Nat.le_mul_of_pos_right _ (by omega))⟩
theorem rW_small {d : Nat → Nat} (h : ∀ k, d k ≤ 8192) {i k : Nat} (hi : i < 4) (hk : k ≤ 4) : 1 ≤ rW d i k ∧ rW d i k ≤ 549755813888 := by
  have := rW_le h i k
  refine ⟨this.1, Nat.le_trans this.2 ?_⟩
  exact Nat.le_trans (Nat.pow_le_pow_right (by omega) (show (if i < k then k - 1 else k) ≤ 3 by split <;> omega)) (by decide)
theorem rsums_small {v : Nat → Int} {d : Nat → Nat} (hv : ∀ k, -32768 ≤ v k ∧ v k ≤ 32767) (h : ∀ k, d k ≤ 8192) (i : Nat) (hi : i ≤ 4) : rS d i ≤ 549755813888 * i ∧ (-32768 : Int) * (rS d i : Nat) ≤ rA v d i ∧ rA v d i ≤ 32767 * (rS d i : Nat) := by
  induction i with
  | zero => simp [rS, rA]
  | succ i ih =>
    obtain ⟨a2, a3, a4⟩ := ih (by omega)
    have hw := rW_small h (i := i) (k := 4) (by omega) (Nat.le_refl _)
    have hd := hv i
    have m1 : -32768 * ((rW d i 4 : Nat) : Int) ≤ v i * (rW d i 4 : Nat) := Int.mul_le_mul_of_nonneg_right hd.1 (by omega)
    have m2 : v i * ((rW d i 4 : Nat) : Int) ≤ 32767 * (rW d i 4 : Nat) := Int.mul_le_mul_of_nonneg_right hd.2 (by omega)
    unfold rS rA
    split
    · push_cast
      refine ⟨by omega, by omega, by omega⟩
    · refine ⟨by omega, a3, a4⟩
theorem sd_bounds {W H : Nat} (hW : W ≤ 8192) (hH : H ≤ 8192) {l : List Bool} {D : Nat → Int} (hD : ∀ i, -32768 ≤ D i ∧ D i ≤ 32767) {x y dx dy : Int} (hd : Dir dx dy) (hx : 0 ≤ x ∧ x < W) (hy : 0 ≤ y ∧ y < H) :
    (-32768 ≤ sdI (nb W H l D x y dx dy) ∧ sdI (nb W H l D x y dx dy) ≤ 32767) ∧ sdN (nb W H l D x y dx dy) ≤ 8192 ∧ Dp (nb W H l D x y dx dy) := by
  have key := nbF_near hW hH (l := l) hD hd hx hy 16384 1 (by omega)
  cases h : nb W H l D x y dx dy with
  | none => exact ⟨by simp [sdI], by simp [sdN], fun p hp => by cases hp⟩
  | some p =>
    have := key p (by unfold nb at h; exact h)
    refine ⟨this.1, this.2.2, fun q hq => ?_⟩
    cases hq
    exact this.2.1
set_option maxRecDepth 100000 in
set_option maxHeartbeats 3200000 in
theorem standIn30 (w : World) (W H : Nat) (A F : Option Addr) (n c fc : Nat) (l : List Bool) (bs : List (List Int)) (hl : l.length = n) (hbl : bs.length = n) (hn : n = W * H) (hA : Rds w 64 A n (bsC bs)) (hb : Bls bs) (hF : Rds w 1 F n (boC l)) (hW : W ≤ 8192) (hH : H ≤ 8192) (x y : Int) (px : 0 ≤ x ∧ x < W) (py : 0 ≤ y ∧ y < H) :
    Calls Try.prog 30 #[gridI W H A n c, .slice F n fc, .int .i64 x, .int .i64 y] w fun e w' => e = .returned (.int .i64 (stP W H l (dcs bs) x y)) ∧ Only No w w' := by
  have hmul : W * H ≤ 8192 * 8192 := Nat.mul_le_mul hW hH
  have hn64 : n ≤ 67108864 := by omega
  obtain ⟨a0, ha0⟩ : ∃ a, a = sdI (nb W H l (dcs bs) x y (-1) 0) := ⟨_, rfl⟩
  obtain ⟨a1, ha1⟩ : ∃ a, a = sdI (nb W H l (dcs bs) x y 1 0) := ⟨_, rfl⟩
  obtain ⟨a2, ha2⟩ : ∃ a, a = sdI (nb W H l (dcs bs) x y 0 (-1)) := ⟨_, rfl⟩
  obtain ⟨a3, ha3⟩ : ∃ a, a = sdI (nb W H l (dcs bs) x y 0 1) := ⟨_, rfl⟩
  obtain ⟨n0, hn0⟩ : ∃ a, a = sdN (nb W H l (dcs bs) x y (-1) 0) := ⟨_, rfl⟩
  obtain ⟨n1, hn1⟩ : ∃ a, a = sdN (nb W H l (dcs bs) x y 1 0) := ⟨_, rfl⟩
  obtain ⟨n2, hn2⟩ : ∃ a, a = sdN (nb W H l (dcs bs) x y 0 (-1)) := ⟨_, rfl⟩
  obtain ⟨n3, hn3⟩ : ∃ a, a = sdN (nb W H l (dcs bs) x y 0 1) := ⟨_, rfl⟩
  obtain ⟨b0, b0', d0⟩ := sd_bounds hW hH (l := l) (dcs_bounds hb) (dx := -1) (dy := 0) (by unfold Dir; omega) px py
  obtain ⟨b1, b1', d1⟩ := sd_bounds hW hH (l := l) (dcs_bounds hb) (dx := 1) (dy := 0) (by unfold Dir; omega) px py
  obtain ⟨b2, b2', d2⟩ := sd_bounds hW hH (l := l) (dcs_bounds hb) (dx := 0) (dy := -1) (by unfold Dir; omega) px py
  obtain ⟨b3, b3', d3⟩ := sd_bounds hW hH (l := l) (dcs_bounds hb) (dx := 0) (dy := 1) (by unfold Dir; omega) px py
  obtain ⟨t1, t2⟩ := sums4 d0 d1 d2 d3
  obtain ⟨v, hv⟩ : ∃ v, v = v4 (nb W H l (dcs bs) x y (-1) 0) (nb W H l (dcs bs) x y 1 0) (nb W H l (dcs bs) x y 0 (-1)) (nb W H l (dcs bs) x y 0 1) := ⟨_, rfl⟩
  obtain ⟨d, hd⟩ : ∃ d, d = d4 (nb W H l (dcs bs) x y (-1) 0) (nb W H l (dcs bs) x y 1 0) (nb W H l (dcs bs) x y 0 (-1)) (nb W H l (dcs bs) x y 0 1) := ⟨_, rfl⟩
  have hfin : Hid (stP W H l (dcs bs) x y = if rS d 4 = 0 then mnP l (dcs bs) n else nearI (rA v d 4) (rS d 4)) := Lib.hid (by
    have hN := nbL_nbs hW hH (l := l) (dcs_bounds hb) px py
    unfold stP
    rw [hv, hd, t1, t2]
    change (if nbL W H l (dcs bs) x y = [] then _ else _) = if sumW (nbL W H l (dcs bs) x y) (nbL W H l (dcs bs) x y).length = 0 then _ else nearI (sumA (nbL W H l (dcs bs) x y) (nbL W H l (dcs bs) x y).length) (sumW (nbL W H l (dcs bs) x y) (nbL W H l (dcs bs) x y).length)
    by_cases h : nbL W H l (dcs bs) x y = []
    · rw [if_pos h, h, if_pos (by rfl), hn]
    · have h1 := (sums_small hN _ (Nat.le_refl _)).1
      have h2 : 0 < (nbL W H l (dcs bs) x y).length := List.length_pos_iff.2 h
      rw [if_neg h, if_neg (by omega)]
      rfl)
  have hvi : Hid (v 0 = a0 ∧ v 1 = a1 ∧ v 2 = a2 ∧ v 3 = a3) := Lib.hid (by rw [hv, ha0, ha1, ha2, ha3]; exact ⟨rfl, rfl, rfl, rfl⟩)
  have hdi : Hid (d 0 = n0 ∧ d 1 = n1 ∧ d 2 = n2 ∧ d 3 = n3) := Lib.hid (by rw [hd, hn0, hn1, hn2, hn3]; exact ⟨rfl, rfl, rfl, rfl⟩)
  have hvb : Hid (∀ k, -32768 ≤ v k ∧ v k ≤ 32767) := Lib.hid fun k => by
    rw [hv]
    match k with
    | 0 => exact b0
    | 1 => exact b1
    | 2 => exact b2
    | (k + 3) => exact b3
  have hdb : Hid (∀ k, d k ≤ 8192) := Lib.hid fun k => by
    rw [hd]
    match k with
    | 0 => exact b0'
    | 1 => exact b1'
    | 2 => exact b2'
    | (k + 3) => exact b3'
  replace ha0 := Lib.hid ha0
  replace ha1 := Lib.hid ha1
  replace ha2 := Lib.hid ha2
  replace ha3 := Lib.hid ha3
  replace hn0 := Lib.hid hn0
  replace hn1 := Lib.hid hn1
  replace hn2 := Lib.hid hn2
  replace hn3 := Lib.hid hn3
  replace hA := Lib.hid hA
  replace hb := Lib.hid hb
  replace hF := Lib.hid hF
  replace hn := Lib.hid hn
  clear t1 t2 hv hd b0 b1 b2 b3 b0' b1' b2' b3' d0 d1 d2 d3
  unfold gridI
  go_enter Try.func30, Try.ntmps30
  go_upto_region 3 with (fail)
  generalize hw3 : ((w.alloc (Obj.cells #[.int .i64 W, .int .i64 H, .slice A n c] 24)).alloc (Obj.cells #[.int .i64 0, .int .i64 0, .int .i64 0, .int .i64 0] 76)).alloc (Obj.cells #[.int .i64 0, .int .i64 0, .int .i64 0, .int .i64 0] 76) = w3
  have OC0 : Hid (Only No w w3) := Lib.hid (by rw [← hw3]; exact (((Only.refl No w).alloc _).alloc _).alloc _)
  have BG0 : Hid (Blk w3 w.heap.size 24 #[.int .i64 W, .int .i64 H, .slice A n c]) := Lib.hid (by rw [← hw3]; exact ((Blk.new _ _ _).alloc _).alloc _)
  have BV0 : Hid (Blk w3 (w.heap.size + 1) 76 #[.int .i64 0, .int .i64 0, .int .i64 0, .int .i64 0]) := Lib.hid (by rw [← hw3]; exact (blk_new1 _ _ _ _).alloc _)
  have BD0 : Hid (Blk w3 (w.heap.size + 1 + 1) 76 #[.int .i64 0, .int .i64 0, .int .i64 0, .int .i64 0]) := Lib.hid (by rw [← hw3]; exact blk_new2 _ _ _ _ _)
  have OS0 : Hid (Only (fun b => b = w.heap.size + 1 ∨ b = w.heap.size + 1 + 1) w3 w3) := Lib.hid (Only.refl _ _)
  have hA3 := hA
  have hF3 := hF
  obtain ⟨g0, hg0⟩ : ∃ g, g = w.heap.size := ⟨_, rfl⟩
  rw [← hg0] at BG0 BV0 BD0 OS0 ⊢
  replace hg0 := Lib.hid hg0
  clear hw3
  have q0 := side40 w3 W H A F n c fc l bs hl hbl hn.out (hA3.out.no OC0.out) hb.out (hF3.out.no OC0.out) hW hH x y px py (-1) 0 (by unfold Dir; omega)
  rw [← ha0.out, ← hn0.out] at q0
  unfold gridI at q0
  have z00 := (BG0.out).cell 0
  have z01 := (BG0.out).cell 1
  have z02 := (BG0.out).cell 2
  have y00 : ∀ w', Only No w3 w' → w'.cell? ⟨g0 + 1, 0, none⟩ = some (.int .i64 0) ∧ w'.frozen? ⟨g0 + 1, 0, none⟩ = false := fun w' ho => ⟨(BV0.out.only ho id).cell 0, (BV0.out.only ho id).frozen 0⟩
  have y01 : ∀ w', Only No w3 w' → w'.cell? ⟨g0 + 1 + 1, 0, none⟩ = some (.int .i64 0) ∧ w'.frozen? ⟨g0 + 1 + 1, 0, none⟩ = false := fun w' ho => ⟨(BD0.out.only ho id).cell 0, (BD0.out.only ho id).frozen 0⟩
  simp only [List.getElem?_toArray, List.getElem?_cons_zero, List.getElem?_cons_succ] at z00 z01 z02
  replace y00 := Lib.hid y00
  replace y01 := Lib.hid y01
  go_upto_region 4 with (go_at_call 40; refine q0.mono ?_; clear q0; rintro e wx0 ⟨rfl, ox0⟩; have OX0 := Lib.hid ox0; obtain ⟨s00, f00⟩ := y00.out _ ox0; obtain ⟨s01, f01⟩ := y01.out _ ox0; clear ox0)
  generalize hw0 : (wx0.setCell ⟨g0 + 1, 0, none⟩ (.int .i64 a0)).setCell ⟨g0 + 1 + 1, 0, none⟩ (.int .i64 (n0 : Int)) = wc1
  have BG1 : Hid (Blk wc1 g0 24 #[.int .i64 W, .int .i64 H, .slice A n c]) := Lib.hid (by rw [← hw0]; exact ((BG0.out.only OX0.out id).far (p := ⟨g0 + 1, 0, none⟩) (by show g0 ≠ g0 + 1; omega) _).far (p := ⟨g0 + 1 + 1, 0, none⟩) (by show g0 ≠ g0 + 1 + 1; omega) _)
  have BV1 : Hid (Blk wc1 (g0 + 1) 76 #[.int .i64 (a0), .int .i64 (0), .int .i64 (0), .int .i64 (0)]) := Lib.hid (by rw [← hw0]; exact ((BV0.out.only OX0.out id).set 0 _).far (p := ⟨g0 + 1 + 1, 0, none⟩) (by show g0 + 1 ≠ g0 + 1 + 1; omega) _)
  have BD1 : Hid (Blk wc1 (g0 + 1 + 1) 76 #[.int .i64 ((n0 : Int)), .int .i64 (0), .int .i64 (0), .int .i64 (0)]) := Lib.hid (by rw [← hw0]; exact ((BD0.out.only OX0.out id).far (p := ⟨g0 + 1, 0, none⟩) (by show g0 + 1 + 1 ≠ g0 + 1; omega) _).set 0 _)
  have OS1 : Hid (Only (fun b => b = g0 + 1 ∨ b = g0 + 1 + 1) w3 wc1) := Lib.hid (by rw [← hw0]; exact ((OS0.out.trans (OX0.out.mono fun _ h => h.elim)).setCell (p := ⟨g0 + 1, 0, none⟩) (.inl (.inl rfl)) _).setCell (p := ⟨g0 + 1 + 1, 0, none⟩) (.inl (.inr rfl)) _)
  have OC1 : Hid (Only No w wc1) := Lib.hid (OC0.out.then OS1.out (fun k h => .inr (by rcases h with h | h <;> (have := hg0.out; omega))))
  clear hw0 BV0 BD0 BG0 OS0 z00 z01 z02 y00 y01 s00 s01 f00 f01 OX0
  have q1 := side40 wc1 W H A F n c fc l bs hl hbl hn.out (hA3.out.no OC1.out) hb.out (hF3.out.no OC1.out) hW hH x y px py 1 0 (by unfold Dir; omega)
  rw [← ha1.out, ← hn1.out] at q1
  unfold gridI at q1
  have z10 := (BG1.out).cell 0
  have z11 := (BG1.out).cell 1
  have z12 := (BG1.out).cell 2
  have y10 : ∀ w', Only No wc1 w' → w'.cell? ⟨g0 + 1, 1, none⟩ = some (.int .i64 0) ∧ w'.frozen? ⟨g0 + 1, 1, none⟩ = false := fun w' ho => ⟨(BV1.out.only ho id).cell 1, (BV1.out.only ho id).frozen 1⟩
  have y11 : ∀ w', Only No wc1 w' → w'.cell? ⟨g0 + 1 + 1, 1, none⟩ = some (.int .i64 0) ∧ w'.frozen? ⟨g0 + 1 + 1, 1, none⟩ = false := fun w' ho => ⟨(BD1.out.only ho id).cell 1, (BD1.out.only ho id).frozen 1⟩
  simp only [List.getElem?_toArray, List.getElem?_cons_zero, List.getElem?_cons_succ] at z10 z11 z12
  replace y10 := Lib.hid y10
  replace y11 := Lib.hid y11
  go_upto_region 5 with (go_at_call 40; refine q1.mono ?_; clear q1; rintro e wx1 ⟨rfl, ox1⟩; have OX1 := Lib.hid ox1; obtain ⟨s10, f10⟩ := y10.out _ ox1; obtain ⟨s11, f11⟩ := y11.out _ ox1; clear ox1)
  generalize hw1 : (wx1.setCell ⟨g0 + 1, 1, none⟩ (.int .i64 a1)).setCell ⟨g0 + 1 + 1, 1, none⟩ (.int .i64 (n1 : Int)) = wc2
  have BG2 : Hid (Blk wc2 g0 24 #[.int .i64 W, .int .i64 H, .slice A n c]) := Lib.hid (by rw [← hw1]; exact ((BG1.out.only OX1.out id).far (p := ⟨g0 + 1, 1, none⟩) (by show g0 ≠ g0 + 1; omega) _).far (p := ⟨g0 + 1 + 1, 1, none⟩) (by show g0 ≠ g0 + 1 + 1; omega) _)
  have BV2 : Hid (Blk wc2 (g0 + 1) 76 #[.int .i64 (a0), .int .i64 (a1), .int .i64 (0), .int .i64 (0)]) := Lib.hid (by rw [← hw1]; exact ((BV1.out.only OX1.out id).set 1 _).far (p := ⟨g0 + 1 + 1, 1, none⟩) (by show g0 + 1 ≠ g0 + 1 + 1; omega) _)
  have BD2 : Hid (Blk wc2 (g0 + 1 + 1) 76 #[.int .i64 ((n0 : Int)), .int .i64 ((n1 : Int)), .int .i64 (0), .int .i64 (0)]) := Lib.hid (by rw [← hw1]; exact ((BD1.out.only OX1.out id).far (p := ⟨g0 + 1, 1, none⟩) (by show g0 + 1 + 1 ≠ g0 + 1; omega) _).set 1 _)
  have OS2 : Hid (Only (fun b => b = g0 + 1 ∨ b = g0 + 1 + 1) w3 wc2) := Lib.hid (by rw [← hw1]; exact ((OS1.out.trans (OX1.out.mono fun _ h => h.elim)).setCell (p := ⟨g0 + 1, 1, none⟩) (.inl (.inl rfl)) _).setCell (p := ⟨g0 + 1 + 1, 1, none⟩) (.inl (.inr rfl)) _)
  have OC2 : Hid (Only No w wc2) := Lib.hid (OC0.out.then OS2.out (fun k h => .inr (by rcases h with h | h <;> (have := hg0.out; omega))))
  clear hw1 BV1 BD1 BG1 OS1 z10 z11 z12 y10 y11 s10 s11 f10 f11 OX1
  have q2 := side40 wc2 W H A F n c fc l bs hl hbl hn.out (hA3.out.no OC2.out) hb.out (hF3.out.no OC2.out) hW hH x y px py 0 (-1) (by unfold Dir; omega)
  rw [← ha2.out, ← hn2.out] at q2
  unfold gridI at q2
  have z20 := (BG2.out).cell 0
  have z21 := (BG2.out).cell 1
  have z22 := (BG2.out).cell 2
  have y20 : ∀ w', Only No wc2 w' → w'.cell? ⟨g0 + 1, 2, none⟩ = some (.int .i64 0) ∧ w'.frozen? ⟨g0 + 1, 2, none⟩ = false := fun w' ho => ⟨(BV2.out.only ho id).cell 2, (BV2.out.only ho id).frozen 2⟩
  have y21 : ∀ w', Only No wc2 w' → w'.cell? ⟨g0 + 1 + 1, 2, none⟩ = some (.int .i64 0) ∧ w'.frozen? ⟨g0 + 1 + 1, 2, none⟩ = false := fun w' ho => ⟨(BD2.out.only ho id).cell 2, (BD2.out.only ho id).frozen 2⟩
  simp only [List.getElem?_toArray, List.getElem?_cons_zero, List.getElem?_cons_succ] at z20 z21 z22
  replace y20 := Lib.hid y20
  replace y21 := Lib.hid y21
  go_upto_region 6 with (go_at_call 40; refine q2.mono ?_; clear q2; rintro e wx2 ⟨rfl, ox2⟩; have OX2 := Lib.hid ox2; obtain ⟨s20, f20⟩ := y20.out _ ox2; obtain ⟨s21, f21⟩ := y21.out _ ox2; clear ox2)
  generalize hw2 : (wx2.setCell ⟨g0 + 1, 2, none⟩ (.int .i64 a2)).setCell ⟨g0 + 1 + 1, 2, none⟩ (.int .i64 (n2 : Int)) = wc3
  have BG3 : Hid (Blk wc3 g0 24 #[.int .i64 W, .int .i64 H, .slice A n c]) := Lib.hid (by rw [← hw2]; exact ((BG2.out.only OX2.out id).far (p := ⟨g0 + 1, 2, none⟩) (by show g0 ≠ g0 + 1; omega) _).far (p := ⟨g0 + 1 + 1, 2, none⟩) (by show g0 ≠ g0 + 1 + 1; omega) _)
  have BV3 : Hid (Blk wc3 (g0 + 1) 76 #[.int .i64 (a0), .int .i64 (a1), .int .i64 (a2), .int .i64 (0)]) := Lib.hid (by rw [← hw2]; exact ((BV2.out.only OX2.out id).set 2 _).far (p := ⟨g0 + 1 + 1, 2, none⟩) (by show g0 + 1 ≠ g0 + 1 + 1; omega) _)
  have BD3 : Hid (Blk wc3 (g0 + 1 + 1) 76 #[.int .i64 ((n0 : Int)), .int .i64 ((n1 : Int)), .int .i64 ((n2 : Int)), .int .i64 (0)]) := Lib.hid (by rw [← hw2]; exact ((BD2.out.only OX2.out id).far (p := ⟨g0 + 1, 2, none⟩) (by show g0 + 1 + 1 ≠ g0 + 1; omega) _).set 2 _)
  have OS3 : Hid (Only (fun b => b = g0 + 1 ∨ b = g0 + 1 + 1) w3 wc3) := Lib.hid (by rw [← hw2]; exact ((OS2.out.trans (OX2.out.mono fun _ h => h.elim)).setCell (p := ⟨g0 + 1, 2, none⟩) (.inl (.inl rfl)) _).setCell (p := ⟨g0 + 1 + 1, 2, none⟩) (.inl (.inr rfl)) _)
  have OC3 : Hid (Only No w wc3) := Lib.hid (OC0.out.then OS3.out (fun k h => .inr (by rcases h with h | h <;> (have := hg0.out; omega))))
  clear hw2 BV2 BD2 BG2 OS2 z20 z21 z22 y20 y21 s20 s21 f20 f21 OX2
  have q3 := side40 wc3 W H A F n c fc l bs hl hbl hn.out (hA3.out.no OC3.out) hb.out (hF3.out.no OC3.out) hW hH x y px py 0 1 (by unfold Dir; omega)
  rw [← ha3.out, ← hn3.out] at q3
  unfold gridI at q3
  have z30 := (BG3.out).cell 0
  have z31 := (BG3.out).cell 1
  have z32 := (BG3.out).cell 2
  have y30 : ∀ w', Only No wc3 w' → w'.cell? ⟨g0 + 1, 3, none⟩ = some (.int .i64 0) ∧ w'.frozen? ⟨g0 + 1, 3, none⟩ = false := fun w' ho => ⟨(BV3.out.only ho id).cell 3, (BV3.out.only ho id).frozen 3⟩
  have y31 : ∀ w', Only No wc3 w' → w'.cell? ⟨g0 + 1 + 1, 3, none⟩ = some (.int .i64 0) ∧ w'.frozen? ⟨g0 + 1 + 1, 3, none⟩ = false := fun w' ho => ⟨(BD3.out.only ho id).cell 3, (BD3.out.only ho id).frozen 3⟩
  simp only [List.getElem?_toArray, List.getElem?_cons_zero, List.getElem?_cons_succ] at z30 z31 z32
  replace y30 := Lib.hid y30
  replace y31 := Lib.hid y31
  go_upto_region 8 with (go_at_call 40; refine q3.mono ?_; clear q3; rintro e wx3 ⟨rfl, ox3⟩; have OX3 := Lib.hid ox3; obtain ⟨s30, f30⟩ := y30.out _ ox3; obtain ⟨s31, f31⟩ := y31.out _ ox3; clear ox3)
  generalize hw3 : (wx3.setCell ⟨g0 + 1, 3, none⟩ (.int .i64 a3)).setCell ⟨g0 + 1 + 1, 3, none⟩ (.int .i64 (n3 : Int)) = wc4
  have BG4 : Hid (Blk wc4 g0 24 #[.int .i64 W, .int .i64 H, .slice A n c]) := Lib.hid (by rw [← hw3]; exact ((BG3.out.only OX3.out id).far (p := ⟨g0 + 1, 3, none⟩) (by show g0 ≠ g0 + 1; omega) _).far (p := ⟨g0 + 1 + 1, 3, none⟩) (by show g0 ≠ g0 + 1 + 1; omega) _)
  have BV4 : Hid (Blk wc4 (g0 + 1) 76 #[.int .i64 (a0), .int .i64 (a1), .int .i64 (a2), .int .i64 (a3)]) := Lib.hid (by rw [← hw3]; exact ((BV3.out.only OX3.out id).set 3 _).far (p := ⟨g0 + 1 + 1, 3, none⟩) (by show g0 + 1 ≠ g0 + 1 + 1; omega) _)
  have BD4 : Hid (Blk wc4 (g0 + 1 + 1) 76 #[.int .i64 ((n0 : Int)), .int .i64 ((n1 : Int)), .int .i64 ((n2 : Int)), .int .i64 ((n3 : Int))]) := Lib.hid (by rw [← hw3]; exact ((BD3.out.only OX3.out id).far (p := ⟨g0 + 1, 3, none⟩) (by show g0 + 1 + 1 ≠ g0 + 1; omega) _).set 3 _)
  have OS4 : Hid (Only (fun b => b = g0 + 1 ∨ b = g0 + 1 + 1) w3 wc4) := Lib.hid (by rw [← hw3]; exact ((OS3.out.trans (OX3.out.mono fun _ h => h.elim)).setCell (p := ⟨g0 + 1, 3, none⟩) (.inl (.inl rfl)) _).setCell (p := ⟨g0 + 1 + 1, 3, none⟩) (.inl (.inr rfl)) _)
  have OC4 : Hid (Only No w wc4) := Lib.hid (OC0.out.then OS4.out (fun k h => .inr (by rcases h with h | h <;> (have := hg0.out; omega))))
  clear hw3 BV3 BD3 BG3 OS3 z30 z31 z32 y30 y31 s30 s31 f30 f31 OX3
  have hvc : Hid (∀ i, i < 4 → wc4.cell? ⟨g0 + 1, i, none⟩ = some (.int .i64 (v i))) := Lib.hid fun i hi => by
    obtain ⟨v0, v1, v2, v3⟩ := hvi.out
    rw [BV4.out.cell i]
    match i, hi with
    | 0, _ => rw [v0]; rfl
    | 1, _ => rw [v1]; rfl
    | 2, _ => rw [v2]; rfl
    | 3, _ => rw [v3]; rfl
  have hdc : Hid (∀ i, i < 4 → wc4.cell? ⟨g0 + 1 + 1, i, none⟩ = some (.int .i64 (d i))) := Lib.hid fun i hi => by
    obtain ⟨v0, v1, v2, v3⟩ := hdi.out
    rw [BD4.out.cell i]
    match i, hi with
    | 0, _ => rw [v0]; rfl
    | 1, _ => rw [v1]; rfl
    | 2, _ => rw [v2]; rfl
    | 3, _ => rw [v3]; rfl
  have z0 := BG4.out.cell 0
  have z1 := BG4.out.cell 1
  have z2 := BG4.out.cell 2
  simp only [List.getElem?_toArray, List.getElem?_cons_zero, List.getElem?_cons_succ] at z0 z1 z2
  clear BV4 BD4 OC1 OC2 OC3 hvi hdi ha0 ha1 ha2 ha3 hn0 hn1 hn2 hn3
  go_wp2_with fail
  go_loopw [11, 12, 13] (fun v11 v12 v13 wr => wr = wc4 ∧ ∃ i : Nat, v13 = .int .i64 i ∧ i ≤ 4 ∧ v11 = .int .i64 (rA v d i) ∧ v12 = .int .i64 ((rS d i : Nat) : Int)) (fun _ _ v13 _ => 4 - (intOf v13).toNat)
  case atStart => exact ⟨rfl, 0, rfl, by omega, rfl, rfl⟩
  case round =>
    obtain ⟨rfl, i, rfl, hi, rfl, rfl⟩ := hrel
    obtain ⟨q1, q2, q3⟩ := rsums_small hvb.out hdb.out i hi
    by_cases hlt : i < 4
    · have hlt' : (i : Int) < 4 := by omega
      have cv := hvc.out i hlt
      have cd := hdc.out i hlt
      have bv := hvb.out i
      have bd := hdb.out i
      obtain ⟨w1, w2⟩ := rW_small hdb.out (i := i) (k := 4) hlt (Nat.le_refl _)
      have m1 : -32768 * ((rW d i 4 : Nat) : Int) ≤ v i * (rW d i 4 : Nat) := Int.mul_le_mul_of_nonneg_right bv.1 (by omega)
      have m2 : v i * ((rW d i 4 : Nat) : Int) ≤ 32767 * (rW d i 4 : Nat) := Int.mul_le_mul_of_nonneg_right bv.2 (by omega)
      by_cases h0 : 0 < d i
      · have h0' : (0 : Int) < (d i : Nat) := by omega
        have s1 : Hid (rA v d (i + 1) = rA v d i + v i * (rW d i 4 : Nat)) := Lib.hid (by rw [rA, if_pos h0])
        have s2 : Hid (rS d (i + 1) = rS d i + rW d i 4) := Lib.hid (by rw [rS, if_pos h0])
        obtain ⟨wq, hwq⟩ : ∃ wq, wq = wr := ⟨_, rfl⟩
        subst hwq
        go_wp2_with fail
        go_loopw [14, 15] (fun v14 v15 wr => wr = wq ∧ ∃ k : Nat, v15 = .int .i64 k ∧ k ≤ 4 ∧ v14 = .int .i64 ((rW d i k : Nat) : Int)) (fun _ v15 _ => 4 - (intOf v15).toNat)
        case atStart => exact ⟨rfl, 0, rfl, by omega, rfl⟩
        case round =>
          obtain ⟨rfl, k, rfl, hk, rfl⟩ := hrel
          by_cases hkl : k < 4
          · have hkl' : (k : Int) < 4 := by omega
            have ck := hdc.out k hkl
            have bk := hdb.out k
            by_cases hki : k = i
            · subst hki
              have s3 : Hid (rW d k (k + 1) = rW d k k) := Lib.hid (by rw [rW, if_neg (fun h => h.1 rfl)])
              have hne : ((k : Int) != (k : Int)) = false := by simp
              go_wp2_with fail
              go_roundw
              case rel => exact ⟨by first | rfl | trivial, k + 1, by go_num, by omega, by rw [s3.out]⟩
              case measure => simp [intOf]; omega
            · have hne : ((k : Int) != (i : Int)) = true := by simp; omega
              by_cases hk0 : 0 < d k
              · have hk0' : (0 : Int) < (d k : Nat) := by omega
                have s3 : Hid (rW d i (k + 1) = rW d i k * d k) := Lib.hid (by rw [rW, if_pos ⟨hki, hk0⟩])
                obtain ⟨u1, u2⟩ := rW_small hdb.out (i := i) (k := k + 1) hlt (by omega)
                rw [s3.out] at u1 u2
                obtain ⟨u, hu⟩ : ∃ u, u = rW d i k * d k := ⟨_, rfl⟩
                rw [← hu] at u1 u2
                have e1 : IntKind.i64.wrap (((rW d i k : Nat) : Int) * ((d k : Nat) : Int)) = (u : Int) := by
                  rw [← Int.natCast_mul, ← hu]; exact IntWalk.i64_in _ (by omega)
                replace hu := Lib.hid hu
                go_wp2_with fail
                go_roundw
                case rel => exact ⟨by first | rfl | trivial, k + 1, by go_num, by omega, by rw [s3.out, ← hu.out]⟩
                case measure => simp [intOf]; omega
              · have hk0' : ¬ (0 : Int) < (d k : Nat) := by omega
                have s3 : Hid (rW d i (k + 1) = rW d i k) := Lib.hid (by rw [rW, if_neg (fun h => hk0 h.2)])
                go_wp2_with fail
                go_roundw
                case rel => exact ⟨by first | rfl | trivial, k + 1, by go_num, by omega, by rw [s3.out]⟩
                case measure => simp [intOf]; omega
          · have hkl' : ¬ (k : Int) < 4 := by omega
            obtain rfl : k = 4 := by omega
            obtain ⟨m, hm⟩ : ∃ m, m = v i * ((rW d i 4 : Nat) : Int) := ⟨_, rfl⟩
            rw [← hm] at m1 m2
            have e1 : IntKind.i64.wrap (v i * ((rW d i 4 : Nat) : Int)) = m := by rw [← hm]; exact IntWalk.i64_in _ (by omega)
            have e2 : IntKind.i64.wrap (rA v d i + m) = rA v d i + m := IntWalk.i64_in _ (by omega)
            have e3 : IntKind.i64.wrap (((rS d i : Nat) : Int) + ((rW d i 4 : Nat) : Int)) = ((rS d i : Nat) : Int) + ((rW d i 4 : Nat) : Int) := IntWalk.i64_in _ (by omega)
            replace hm := Lib.hid hm
            go_wp2_with fail
            go_roundw
            case rel => exact ⟨by first | rfl | trivial, i + 1, by go_num, by omega, by rw [s1.out, ← hm.out], by rw [s2.out]; push_cast; rfl⟩
            case measure => simp [intOf]; omega
      · have h0' : ¬ (0 : Int) < (d i : Nat) := by omega
        have s1 : Hid (rA v d (i + 1) = rA v d i) := Lib.hid (by rw [rA, if_neg h0])
        have s2 : Hid (rS d (i + 1) = rS d i) := Lib.hid (by rw [rS, if_neg h0])
        go_wp2_with fail
        go_roundw
        case rel => exact ⟨by first | rfl | trivial, i + 1, by go_num, by omega, by rw [s1.out], by rw [s2.out]⟩
        case measure => simp [intOf]; omega
    · have hlt' : ¬ (i : Int) < 4 := by omega
      obtain rfl : i = 4 := by omega
      by_cases h0 : rS d 4 = 0
      · have h0' : ((rS d 4 : Nat) : Int) = 0 := by omega
        have hm := mean41 wr W H A F n c fc l bs hl hbl (hA3.out.no OC4.out) hb.out (hF3.out.no OC4.out) hn64
        unfold gridI at hm
        have hr : Hid (stP W H l (dcs bs) x y = mnP l (dcs bs) n) := Lib.hid (by rw [hfin.out, if_pos h0])
        replace h0 := Lib.hid h0
        go_wp2_with (go_at_call 41; refine hm.mono ?_; clear hm; rintro e w9 ⟨rfl, o9⟩)
        go_ret
        exact ⟨by rw [hr.out]; rfl, OC4.out.trans o9⟩
      · have hm := near42 wr (rA v d 4) (rS d 4) (by omega) (by omega)
        have hr : Hid (stP W H l (dcs bs) x y = nearI (rA v d 4) (rS d 4)) := Lib.hid (by rw [hfin.out, if_neg h0])
        go_wp2_with (go_at_call 42; refine hm.mono ?_; clear hm; rintro e w9 ⟨rfl, rfl⟩)
        go_ret
        exact ⟨by rw [hr.out]; rfl, OC4.out⟩
end Go.Proofs.Ytnepchdpgbdogaa.Ct
