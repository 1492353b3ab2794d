/- A stand-in: the walk. -/
import Derived.Test.YtnepchdpgbdogaaSi
namespace Go.Proofs.Ytnepchdpgbdogaa.Ct
open Go.ChangeShapes Go.WideShapes Go.RowKit Mm
/-- list slice's cells at i -/
theorem nl_cells {w : World} {A : Option Addr} {L : List (Int × Nat)} (h : Rds w 2 A L.length (nlC L)) (i : Nat) (hi : i < L.length) : ∃ ad, A = some ad ∧ w.cell? (ad.add (i * 2)) = some (.int .i64 (dcI L i)) ∧ w.cell? ⟨(ad.add (i * 2)).block, (ad.add (i * 2)).off + 1, none⟩ = some (.int .i64 (farI L i)) := by
  obtain ⟨ad, e, _, hc⟩ := h.2 (by omega)
  exact ⟨ad, e, hc _ _ (nlC_get L i hi).1, by rw [add_field _ _ 1 (by omega)]; exact hc _ _ (nlC_get L i hi).2⟩
theorem wrap16 (a : Int) (h : -32768 ≤ a ∧ a ≤ 32767) : IntKind.i16.wrap a = a := by
  simp [IntKind.wrap, IntKind.signed, IntKind.bits]
  omega
set_option maxHeartbeats 3200000 in
theorem standIn26 (w : World) (B W H : Nat) (l : List Bool) (bs : List (List Int)) (A : Option Addr) (c g : Nat) (hg : GridAt w B W H A bs) (hm : MapAt w B g W H l) (hB : B ≤ w.heap.size) (x y : Int) (px : 0 ≤ x ∧ x < W) (py : 0 ≤ y ∧ y < H) (F : Nat) (caps : Array Value) (hne : nbL W H l (dcs bs) x y ≠ []) :
    Calls Try.prog 26 #[gridV W H A bs.length c, P g, .int .i64 x, .int .i64 y, .func (.func F) #[] caps] w fun e w' => e = .returned (.int .i16 (siP (nbL W H l (dcs bs) x y))) ∧ Only No w w' := by
  have hNbs := nbL_nbs hm.w8 hm.h8 (l := l) (dcs_bounds hg.bls) px py
  have hsb := siP_bounds hNbs hne
  have hlp : 0 < (nbL W H l (dcs bs) x y).length := List.length_pos_iff.2 hne
  have hg1 := Lib.hid (hg.mono hB)
  have hm1 := Lib.hid (hm.mono hB)
  replace hg := Lib.hid hg
  replace hm := Lib.hid hm
  unfold gridV
  go_enter Try.func26, Try.ntmps26
  go_wp2_with fail
  generalize hw1 : (w.alloc (Obj.cells #[.int .i64 W, .int .i64 H, .slice A bs.length c] 24)) = w1
  have o1 : Only No w w1 := by rw [← hw1]; exact (Only.refl No w).alloc _
  have s1 := o1.size
  refine (neighbours38 w1 w.heap.size W H l bs A c g (hg1.out.no o1) (hm1.out.no o1) s1 x y px py).mono ?_
  rintro e w2 ⟨v2, rfl, ho2, on2⟩
  have O2 := Lib.hid (o1.trans on2)
  generalize hL : nbL W H l (dcs bs) x y = L at *
  obtain ⟨A2, c2, rfl⟩ := own_slice ho2
  have R2 := Lib.hid (Rds.of_own ho2)
  have h4 := hNbs.1
  have hl0 : ((L.length : Int) == 0) = false := by simp; omega
  replace hNbs := Lib.hid hNbs
  replace hL := Lib.hid hL
  clear ho2 on2 o1 hw1 hg1 hm1 hg hm
  go_wp2_with fail
  go_loopw [12, 13, 31] (fun v12 v13 v31 wr => ∃ i : Nat, v31 = .int .i64 i ∧ i ≤ L.length ∧ v12 = .int .i64 (sumA L i) ∧ v13 = .int .i64 (sumW L i : Nat) ∧ Hid (Only No w2 wr)) (fun _ _ v31 _ => L.length - (intOf v31).toNat)
  case atStart => exact ⟨0, rfl, by omega, rfl, rfl, Lib.hid (Only.refl _ _)⟩
  case round =>
    obtain ⟨i, rfl, hi, rfl, rfl, hO⟩ := hrel
    obtain ⟨q1, q2, q3, q4⟩ := sums_small hNbs.out i hi
    by_cases hlt : i < L.length
    · have hlt' : (i : Int) < L.length := by omega
      obtain ⟨ad, rfl, x0, x1⟩ := nl_cells (R2.out.no hO.out) i hlt
      go_wp2_with fail
      generalize hw4 : (wr.alloc (Obj.cells #[.int .i64 (dcI L i), .int .i64 (farI L i)] 74)) = w4
      have b4 : Hid (Blk w4 wr.heap.size 74 #[.int .i64 (dcI L i), .int .i64 (farI L i)]) := Lib.hid (by rw [← hw4]; exact Blk.new _ _ _)
      have o4 : Hid (Only No w2 w4) := Lib.hid (by rw [← hw4]; exact hO.out.alloc _)
      obtain ⟨G, hG⟩ : ∃ G, G = wr.heap.size := ⟨_, rfl⟩
      rw [← hG] at b4 ⊢
      clear hw4 hO x0 x1 hG
      go_loopw [16, 38] (fun v16 v38 wr => ∃ k : Nat, v38 = .int .i64 k ∧ k ≤ L.length ∧ v16 = .int .i64 (wP L i k : Nat) ∧ Hid (Only No w4 wr)) (fun _ v38 _ => L.length - (intOf v38).toNat)
      case atStart => exact ⟨0, rfl, by omega, rfl, Lib.hid (Only.refl _ _)⟩
      case round =>
        obtain ⟨k, rfl, hk, rfl, hO⟩ := hrel
        by_cases hkt : k < L.length
        · have hkt' : (k : Int) < L.length := by omega
          obtain ⟨ad2, had, x0, x1⟩ := nl_cells (R2.out.no (o4.out.trans hO.out)) k hkt
          obtain rfl : ad = ad2 := by simpa using had
          obtain ⟨p1, p2⟩ := wP_small hNbs.out hlt (k := k + 1) (by omega)
          by_cases hki : k = i
          · subst hki
            have hw : wP L k (k + 1) = wP L k k := by simp [wP]
            have n1 : ((k : Int) != (k : Int)) = false := by simp
            go_wp2_with fail
            go_roundw
            case rel => exact ⟨k + 1, by go_num, by omega, by rw [hw], Lib.hid (by first | exact hO.out.alloc _ | exact (hO.out.alloc _).drewN _)⟩
            case measure => simp [intOf]; omega
          · have hw : wP L i (k + 1) = wP L i k * farI L k := by simp [wP, hki]
            have n1 : ((k : Int) != (i : Int)) = true := by simp; omega
            have n2 : ((k : Int) == (i : Int)) = false := by simp; omega
            have e1 : IntKind.i64.wrap (((wP L i k : Nat) : Int) * ((farI L k : Nat) : Int)) = ((wP L i (k + 1) : Nat) : Int) := by
              rw [hw] at p1 p2
              rw [hw, IntWalk.i64_in _ (by rw [← Int.natCast_mul]; omega), ← Int.natCast_mul]
            go_wp2_with fail
            go_roundw
            case rel => exact ⟨k + 1, by go_num, by omega, by rw [hw, Int.natCast_mul], Lib.hid (by first | exact hO.out.alloc _ | exact (hO.out.alloc _).drewN _)⟩
            case measure => simp [intOf]; omega
        · have hkt' : ¬ (k : Int) < L.length := by omega
          obtain rfl : k = L.length := by omega
          have b5 := b4.out.only hO.out id
          have y0 := b5.cell 0
          simp only [List.getElem?_toArray, List.getElem?_cons_zero] at y0
          obtain ⟨r1, r2, r3, r4⟩ := sums_small hNbs.out (i + 1) (by omega)
          have f1 := dcI_le hNbs.out i
          obtain ⟨p1, p2⟩ := wP_small hNbs.out hlt (k := L.length) (by omega)
          have m1 : -32768 * ((wP L i L.length : Nat) : Int) ≤ dcI L i * (wP L i L.length : Nat) := Int.mul_le_mul_of_nonneg_right f1.1 (by omega)
          have m2 : dcI L i * ((wP L i L.length : Nat) : Int) ≤ 32767 * (wP L i L.length : Nat) := Int.mul_le_mul_of_nonneg_right f1.2 (by omega)
          have e1 : IntKind.i64.wrap (dcI L i * ((wP L i L.length : Nat) : Int)) = dcI L i * ((wP L i L.length : Nat) : Int) := IntWalk.i64_in _ (by omega)
          have e2 : IntKind.i64.wrap (sumA L i + dcI L i * ((wP L i L.length : Nat) : Int)) = sumA L (i + 1) := by
            rw [IntWalk.i64_in _ (by omega)]; rfl
          have e3 : IntKind.i64.wrap (((sumW L i : Nat) : Int) + ((wP L i L.length : Nat) : Int)) = ((sumW L (i + 1) : Nat) : Int) := by
            rw [IntWalk.i64_in _ (by omega)]; simp [sumW]
          clear b5
          go_wp2_with fail
          go_roundw
          case rel => exact ⟨i + 1, by go_num, by omega, rfl, rfl, Lib.hid (o4.out.trans hO.out)⟩
          case measure => simp [intOf]; omega
    · have hlt' : ¬ (i : Int) < L.length := by omega
      obtain rfl : i = L.length := by omega
      go_wp2_with fail
      refine (nearest39 _ _ _ (by omega) (by omega)).mono ?_
      rintro e w3 ⟨rfl, rfl⟩
      go_wp2_with fail
      go_ret
      refine ⟨?_, O2.out.trans hO.out⟩
      have h16 := wrap16 (siP L) hsb
      unfold siP at h16
      rw [hL.out]
      simp [siP, h16]
theorem standIn26_none27 (w : World) (B W H : Nat) (l : List Bool) (bs : List (List Int)) (A : Option Addr) (c g : Nat) (hg : GridAt w B W H A bs) (hm : MapAt w B g W H l) (hB : B ≤ w.heap.size) (x y : Int) (px : 0 ≤ x ∧ x < W) (py : 0 ≤ y ∧ y < H) (caps : Array Value) (hne : nbL W H l (dcs bs) x y = []) (R : Value → World → Prop)
    (hwh : ∀ w', Only No w w' → Calls Try.prog 27 caps w' (fun e w'' => ∃ v, e = .returned v ∧ R v w'')) :
    Calls Try.prog 26 #[gridV W H A bs.length c, P g, .int .i64 x, .int .i64 y, .func (.func 27) #[] caps] w fun e w' => ∃ v, e = .returned v ∧ R v w' := by
  have hg1 := Lib.hid (hg.mono hB)
  have hm1 := Lib.hid (hm.mono hB)
  replace hg := Lib.hid hg
  replace hm := Lib.hid hm
  unfold gridV
  go_enter Try.func26, Try.ntmps26
  go_wp2_with fail
  generalize hw1 : (w.alloc (Obj.cells #[.int .i64 W, .int .i64 H, .slice A bs.length c] 24)) = w1
  have o1 : Only No w w1 := by rw [← hw1]; exact (Only.refl No w).alloc _
  have s1 := o1.size
  refine (neighbours38 w1 w.heap.size W H l bs A c g (hg1.out.no o1) (hm1.out.no o1) s1 x y px py).mono ?_
  rintro e w2 ⟨v2, rfl, ho2, on2⟩
  have O2 := Lib.hid (o1.trans on2)
  rw [hne] at ho2
  obtain ⟨A2, c2, rfl⟩ := own_slice ho2
  clear ho2 on2 o1 hw1 hg1 hm1 hg hm
  go_wp2_with fail
  refine (hwh w2 O2.out).mono ?_
  rintro e w3 ⟨v, rfl, hR⟩
  go_wp2_with fail
  go_ret
  exact ⟨v, rfl, hR⟩
theorem standIn26_none33 (w : World) (B W H : Nat) (l : List Bool) (bs : List (List Int)) (A : Option Addr) (c g : Nat) (hg : GridAt w B W H A bs) (hm : MapAt w B g W H l) (hB : B ≤ w.heap.size) (x y : Int) (px : 0 ≤ x ∧ x < W) (py : 0 ≤ y ∧ y < H) (caps : Array Value) (hne : nbL W H l (dcs bs) x y = []) (R : Value → World → Prop)
    (hwh : ∀ w', Only No w w' → Calls Try.prog 33 caps w' (fun e w'' => ∃ v, e = .returned v ∧ R v w'')) :
    Calls Try.prog 26 #[gridV W H A bs.length c, P g, .int .i64 x, .int .i64 y, .func (.func 33) #[] caps] w fun e w' => ∃ v, e = .returned v ∧ R v w' := by
  have hg1 := Lib.hid (hg.mono hB)
  have hm1 := Lib.hid (hm.mono hB)
  replace hg := Lib.hid hg
  replace hm := Lib.hid hm
  unfold gridV
  go_enter Try.func26, Try.ntmps26
  go_wp2_with fail
  generalize hw1 : (w.alloc (Obj.cells #[.int .i64 W, .int .i64 H, .slice A bs.length c] 24)) = w1
  have o1 : Only No w w1 := by rw [← hw1]; exact (Only.refl No w).alloc _
  have s1 := o1.size
  refine (neighbours38 w1 w.heap.size W H l bs A c g (hg1.out.no o1) (hm1.out.no o1) s1 x y px py).mono ?_
  rintro e w2 ⟨v2, rfl, ho2, on2⟩
  have O2 := Lib.hid (o1.trans on2)
  rw [hne] at ho2
  obtain ⟨A2, c2, rfl⟩ := own_slice ho2
  clear ho2 on2 o1 hw1 hg1 hm1 hg hm
  go_wp2_with fail
  refine (hwh w2 O2.out).mono ?_
  rintro e w3 ⟨v, rfl, hR⟩
  go_wp2_with fail
  go_ret
  exact ⟨v, rfl, hR⟩
end Go.Proofs.Ytnepchdpgbdogaa.Ct
