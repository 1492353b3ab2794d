/- ConcealFill: the walk. -/
import Derived.Test.YtnepchdpgbdogaaFp
import Derived.Test.YtnepchdpgbdogaaDw
import Derived.Test.YtnepchdpgbdogaaBd
import Derived.Deep.RegionHeld3
import Derived.Deep.CutRange
import Derived.BigRegion
namespace Go.Proofs.Ytnepchdpgbdogaa.Ct
open Go.ChangeShapes Go.WideShapes Go.RowKit Mm
set_option maxRecDepth 100000 in
set_option maxHeartbeats 6400000 in
theorem conceal4 (w : World) (gw gh : Int) (A : Option Addr) (c n : Nat) (sw sh : Int) (F : Option Addr) (fc : Nat) (fl : List Bool) (bs : List (List Int)) (hl : bs.length = n) (hF : Rds w 1 F fl.length (boC fl)) (hA : Rds w 64 A n (bsC bs)) (hb : Bls bs) (hsw : -9223372036854775808 ≤ sw ∧ sw ≤ 9223372036854775807) (hsh : -9223372036854775808 ≤ sh ∧ sh ≤ 9223372036854775807) (hn : n ≤ 1048576)
    (gw' gh' : Int) (A' : Option Addr) (c' n' : Nat) (sw' sh' : Int) (F' : Option Addr) (fc' : Nat) (fl' : List Bool) (bs' : List (List Int)) (hl' : bs'.length = n') (hF' : Rds w 1 F' fl'.length (boC fl')) (hA' : Rds w 64 A' n' (bsC bs')) (hb' : Bls bs') (hsw' : -9223372036854775808 ≤ sw' ∧ sw' ≤ 9223372036854775807) (hsh' : -9223372036854775808 ≤ sh' ∧ sh' ≤ 9223372036854775807) (hn' : n' ≤ 1048576) :
    Calls Try.prog 4 #[sceneV gw gh A n c sw sh F fl.length fc, sceneV gw' gh' A' n' c' sw' sh' F' fl'.length fc'] w fun e w' => e = .returned (.bool true) ∧ Only No w w' := by
  have hW := bnd_le sw
  have hH := bnd_le sh
  have hW' := bnd_le sw'
  have hH' := bnd_le sh'
  replace hA := Lib.hid hA
  replace hb := Lib.hid hb
  replace hsw := Lib.hid hsw
  replace hsh := Lib.hid hsh
  replace hl := Lib.hid hl
  replace hF := Lib.hid hF
  replace hA' := Lib.hid hA'
  replace hb' := Lib.hid hb'
  replace hsw' := Lib.hid hsw'
  replace hsh' := Lib.hid hsh'
  replace hl' := Lib.hid hl'
  replace hF' := Lib.hid hF'
  unfold sceneV
  go_enter Try.func4, Try.ntmps4
  go_upto_region 1 with (fail)
  generalize hw1 : ((w.alloc (Obj.cells #[.int .i64 gw, .int .i64 gh, .slice A n c, .int .i64 sw, .int .i64 sh, .slice F fl.length fc] 27)).alloc (Obj.cells #[.int .i64 gw', .int .i64 gh', .slice A' n' c', .int .i64 sw', .int .i64 sh', .slice F' fl'.length fc'] 27)) = w1
  have o1 : Hid (Only No w w1) := Lib.hid (by rw [← hw1]; exact ((Only.refl No w).alloc _).alloc _)
  have b1 : Hid (Blk w1 w.heap.size 27 #[.int .i64 gw, .int .i64 gh, .slice A n c, .int .i64 sw, .int .i64 sh, .slice F fl.length fc]) := Lib.hid (by rw [← hw1]; exact (Blk.new _ _ _).alloc _)
  have b1' : Hid (Blk w1 (w.heap.size + 1) 27 #[.int .i64 gw', .int .i64 gh', .slice A' n' c', .int .i64 sw', .int .i64 sh', .slice F' fl'.length fc']) := Lib.hid (by rw [← hw1]; exact blk_new1' _ _ _ _)
  clear hw1
  obtain ⟨gb, hgb⟩ : ∃ g, g = w.heap.size := ⟨_, rfl⟩
  rw [← hgb] at b1 b1' ⊢
  replace hgb := Lib.hid hgb
  have h9 := flags9 w1 gw gh A n c sw sh F fc fl (hF.out.no o1.out) hsw.out hsh.out
  unfold sceneV at h9
  have c0 := b1.out.cell 0
  have c1 := b1.out.cell 1
  have c2 := b1.out.cell 2
  have c3 := b1.out.cell 3
  have c4 := b1.out.cell 4
  have c5 := b1.out.cell 5
  simp only [List.getElem?_toArray, List.getElem?_cons_zero, List.getElem?_cons_succ] at c0 c1 c2 c3 c4 c5
  go_upto_region 2 with (go_at_call 9; refine h9.mono ?_; clear h9; rintro e w2 ⟨v, rfl, hv, ho⟩; obtain ⟨Af, cf, rfl⟩ := own_slice hv; have F2 := Lib.hid (Rds.of_own hv); have O2 := Lib.hid ho; clear hv ho)
  clear c0 c1 c2 c3 c4 c5
  have B2 := Lib.hid (b1.out.only O2.out id)
  have B2' := Lib.hid (b1'.out.only O2.out id)
  have OA2 := Lib.hid (o1.out.trans O2.out)
  have h9 := flags9 w2 gw' gh' A' n' c' sw' sh' F' fc' fl' (hF'.out.no OA2.out) hsw'.out hsh'.out
  unfold sceneV at h9
  have c0 := B2'.out.cell 0
  have c1 := B2'.out.cell 1
  have c2 := B2'.out.cell 2
  have c3 := B2'.out.cell 3
  have c4 := B2'.out.cell 4
  have c5 := B2'.out.cell 5
  simp only [List.getElem?_toArray, List.getElem?_cons_zero, List.getElem?_cons_succ] at c0 c1 c2 c3 c4 c5
  go_upto_region 3 with (go_at_call 9; refine h9.mono ?_; clear h9; rintro e w3 ⟨v, rfl, hv, ho⟩; obtain ⟨Af', cf', rfl⟩ := own_slice hv; have F3' := Lib.hid (Rds.of_own hv); have O3 := Lib.hid ho; clear hv ho)
  clear c0 c1 c2 c3 c4 c5
  have hfl : (flg fl (bnd sw * bnd sh)).length = bnd sw * bnd sh := flg_len _ _
  have hfl' : (flg fl' (bnd sw' * bnd sh')).length = bnd sw' * bnd sh' := flg_len _ _
  generalize hww : bnd sw = W at *
  generalize hhh : bnd sh = H at *
  generalize hww' : bnd sw' = W' at *
  generalize hhh' : bnd sh' = H' at *
  have hmul : W * H ≤ 100 * 100 := Nat.mul_le_mul hW hH
  have hmul' : W' * H' ≤ 100 * 100 := Nat.mul_le_mul hW' hH'
  generalize flg fl (W * H) = l at *
  generalize flg fl' (W' * H') = l' at *
  obtain ⟨N, hN⟩ : ∃ N, W * H = N := ⟨_, rfl⟩
  obtain ⟨N', hN'⟩ : ∃ N, W' * H' = N := ⟨_, rfl⟩
  rw [hN] at hfl F2 hmul ⊢
  rw [hN'] at hfl' F3' hmul' ⊢
  have F3 := Lib.hid (F2.out.no O3.out)
  have h10 := laid10n w3 W H Af cf N l hfl F3.out (by omega) (by omega) (by rw [hfl, hN])
  go_upto_region 4 with (go_at_call 10; refine h10.mono ?_; clear h10; rintro e w4 ⟨g, rfl, o4, hg4, hm4⟩; have O4 := Lib.hid o4; have M4 := Lib.hid hm4; clear o4 hg4 hm4)
  have h10 := laid10n w4 W' H' Af' cf' N' l' hfl' (F3'.out.no O4.out) (by omega) (by omega) (by rw [hfl', hN'])
  go_upto_region 7 with (go_at_call 10; refine h10.mono ?_; clear h10; rintro e w5 ⟨g', rfl, o5, hg5, hm5⟩; have O5 := Lib.hid o5; have M5' := Lib.hid hm5; clear o5 hg5 hm5)
  replace hN := Lib.hid hN
  replace hN' := Lib.hid hN'
  have O25 := Lib.hid ((O3.out.trans O4.out).trans O5.out)
  have OA5 := Lib.hid (OA2.out.trans O25.out)
  have B5 := Lib.hid (B2.out.only O25.out id)
  have B5' := Lib.hid (B2'.out.only O25.out id)
  have M5 := Lib.hid ((M4.out.no O5.out).mono O5.out.size)
  have FR5 := Lib.hid (F3.out.no (O4.out.trans O5.out))
  have FR5' := Lib.hid (F3'.out.no (O4.out.trans O5.out))
  clear F2 F3 F3' O2 O3 O4 O5 O25 M4 b1 b1' B2 B2' OA2 o1 hF hF' hww hhh hww' hhh'
  have h16 := fill16R w5 W H l bs gw gh A Af c n N cf hfl hl.out hN.out.symm (hA.out.no OA5.out) hb.out FR5.out (by omega) (by omega)
  have c0 := B5.out.cell 0
  have c1 := B5.out.cell 1
  have c2 := B5.out.cell 2
  simp only [List.getElem?_toArray, List.getElem?_cons_zero, List.getElem?_cons_succ] at c0 c1 c2
  go_upto_region 8 with (go_at_call 16; refine h16.mono ?_; clear h16; rintro e w6 ⟨vw, rfl, o6, hvw⟩; obtain ⟨Aw, cw, rfl⟩ := own_slice hvw; have O6 := Lib.hid o6; have V6 := Lib.hid hvw; clear o6 hvw)
  obtain ⟨fb, hfb⟩ : ∃ f, f = fitB gw gh W H bs.length := ⟨_, rfl⟩
  rw [← hfb] at V6 ⊢
  obtain ⟨R, hR⟩ : ∃ R, R = rL fb W H l bs := ⟨_, rfl⟩
  rw [← hR] at V6 ⊢
  obtain ⟨r1, hr1⟩ : ∃ r, r = rI fb W := ⟨_, rfl⟩
  obtain ⟨r2, hr2⟩ : ∃ r, r = rI fb H := ⟨_, rfl⟩
  obtain ⟨re, hre⟩ : ∃ r, r = rE fb := ⟨_, rfl⟩
  rw [← hr1, ← hr2, ← hre]
  have hRb : Hid (Bls R) := Lib.hid (by rw [hR]; exact rL_bls fb (by omega) (by omega) l hb.out (fun h => by rw [hfb] at h; exact (of_decide_eq_true h).2.2))
  replace hfb := Lib.hid hfb
  replace hR := Lib.hid hR
  replace hr1 := Lib.hid hr1
  replace hr2 := Lib.hid hr2
  replace hre := Lib.hid hre
  obtain ⟨nR, hnR⟩ : ∃ k, k = R.length := ⟨_, rfl⟩
  rw [← hnR] at V6 ⊢
  have hnRb : nR ≤ 10000 := by
    rw [hnR, hR.out]
    cases h : fb
    · exact Nat.zero_le _
    · have h2 : fitB gw gh W H bs.length = true := by rw [← hfb.out, h]
      have h3 : bs.length = W * H := (of_decide_eq_true h2).2.2
      have := hN.out
      show (flL W H l bs).length ≤ _
      rw [flL_len]
      omega
  replace hnR := Lib.hid hnR
  generalize hw7 : w6.alloc (Obj.cells #[.int .i64 r1, .int .i64 r2, .slice Aw nR cw] 24) = w7
  have b7 : Hid (Blk w7 w6.heap.size 24 #[.int .i64 r1, .int .i64 r2, .slice Aw nR cw]) := Lib.hid (by rw [← hw7]; exact Blk.new _ _ _)
  have o7 : Hid (Only No w6 w7) := Lib.hid (by rw [← hw7]; exact (Only.refl No w6).alloc _)
  have O5' := Lib.hid (O6.out.trans o7.out)
  have C7' := Lib.hid (B5'.out.only O5'.out id)
  have c0 := C7'.out.cell 0
  have c1 := C7'.out.cell 1
  have c2 := C7'.out.cell 2
  simp only [List.getElem?_toArray, List.getElem?_cons_zero, List.getElem?_cons_succ] at c0 c1 c2
  have h16 := fill16R w7 W' H' l' bs' gw' gh' A' Af' c' n' N' cf' hfl' hl'.out hN'.out.symm (hA'.out.no (OA5.out.trans O5'.out)) hb'.out (FR5'.out.no O5'.out) (by omega) (by omega)
  clear hw7
  go_upto_region 9 with (go_at_call 16; refine h16.mono ?_; clear h16; rintro e w8 ⟨vm, rfl, o8, hvm⟩; obtain ⟨Am, cm, rfl⟩ := own_slice hvm; have O8 := Lib.hid o8; have V8 := Lib.hid hvm; clear o8 hvm)
  obtain ⟨fb', hfb'⟩ : ∃ f, f = fitB gw' gh' W' H' bs'.length := ⟨_, rfl⟩
  rw [← hfb'] at V8 ⊢
  obtain ⟨R', hR'⟩ : ∃ R, R = rL fb' W' H' l' bs' := ⟨_, rfl⟩
  rw [← hR'] at V8 ⊢
  obtain ⟨r1', hr1'⟩ : ∃ r, r = rI fb' W' := ⟨_, rfl⟩
  obtain ⟨r2', hr2'⟩ : ∃ r, r = rI fb' H' := ⟨_, rfl⟩
  obtain ⟨re', hre'⟩ : ∃ r, r = rE fb' := ⟨_, rfl⟩
  rw [← hr1', ← hr2', ← hre']
  have hRb' : Hid (Bls R') := Lib.hid (by rw [hR']; exact rL_bls fb' (by omega) (by omega) l' hb'.out (fun h => by rw [hfb'] at h; exact (of_decide_eq_true h).2.2))
  replace hfb' := Lib.hid hfb'
  replace hR' := Lib.hid hR'
  replace hr1' := Lib.hid hr1'
  replace hr2' := Lib.hid hr2'
  replace hre' := Lib.hid hre'
  obtain ⟨nR', hnR'⟩ : ∃ k, k = R'.length := ⟨_, rfl⟩
  rw [← hnR'] at V8 ⊢
  have hnRb' : nR' ≤ 10000 := by
    rw [hnR', hR'.out]
    cases h : fb'
    · exact Nat.zero_le _
    · have h2 : fitB gw' gh' W' H' bs'.length = true := by rw [← hfb'.out, h]
      have h3 : bs'.length = W' * H' := (of_decide_eq_true h2).2.2
      have := hN'.out
      show (flL W' H' l' bs').length ≤ _
      rw [flL_len]
      omega
  replace hnR' := Lib.hid hnR'
  generalize hw9 : w8.alloc (Obj.cells #[.int .i64 r1', .int .i64 r2', .slice Am nR' cm] 24) = w9
  have b9 : Hid (Blk w9 w8.heap.size 24 #[.int .i64 r1', .int .i64 r2', .slice Am nR' cm]) := Lib.hid (by rw [← hw9]; exact Blk.new _ _ _)
  have o9 : Hid (Only No w8 w9) := Lib.hid (by rw [← hw9]; exact (Only.refl No w8).alloc _)
  clear hw9 c0 c1 c2
  have O59 := Lib.hid (O5'.out.trans (O8.out.trans o9.out))
  have D9 := Lib.hid (B5.out.only O59.out id)
  have c0 := D9.out.cell 0
  have c1 := D9.out.cell 1
  have c2 := D9.out.cell 2
  simp only [List.getElem?_toArray, List.getElem?_cons_zero, List.getElem?_cons_succ] at c0 c1 c2
  have h11 := twin11n w9 gw gh A c n bs hl.out (hA.out.no (OA5.out.trans O59.out)) (by rw [hl.out]; exact hn)
  unfold gridI at h11
  go_upto_region 10 with (go_at_call 11; refine h11.mono ?_; clear h11; rintro e w10 ⟨Gt, ct, rfl, o10, hct, hown10⟩; have O10 := Lib.hid o10; have T10 := Lib.hid hown10; clear o10 hown10)
  generalize hw11 : w10.alloc (Obj.cells #[.int .i64 gw, .int .i64 gh, .slice (some ⟨Gt, 0, none⟩) n ct] 24) = w11
  have b11 : Hid (Blk w11 w10.heap.size 24 #[.int .i64 gw, .int .i64 gh, .slice (some ⟨Gt, 0, none⟩) n ct]) := Lib.hid (by rw [← hw11]; exact Blk.new _ _ _)
  have o11 : Hid (Only No w10 w11) := Lib.hid (by rw [← hw11]; exact (Only.refl No w10).alloc _)
  clear hw11 c0 c1 c2
  have O511 := Lib.hid (O59.out.trans (O10.out.trans o11.out))
  have D11' := Lib.hid (B5'.out.only O511.out id)
  have c0 := D11'.out.cell 0
  have c1 := D11'.out.cell 1
  have c2 := D11'.out.cell 2
  simp only [List.getElem?_toArray, List.getElem?_cons_zero, List.getElem?_cons_succ] at c0 c1 c2
  have h11 := twin11n w11 gw' gh' A' c' n' bs' hl'.out (hA'.out.no (OA5.out.trans O511.out)) (by rw [hl'.out]; exact hn')
  unfold gridI at h11
  go_upto_region 11 with (go_at_call 11; refine h11.mono ?_; clear h11; rintro e w12 ⟨Gt', ct', rfl, o12, hct', hown12⟩; have O12 := Lib.hid o12; have T12 := Lib.hid hown12; clear o12 hown12)
  generalize hw13 : w12.alloc (Obj.cells #[.int .i64 gw', .int .i64 gh', .slice (some ⟨Gt', 0, none⟩) n' ct'] 24) = w13
  have b13 : Hid (Blk w13 w12.heap.size 24 #[.int .i64 gw', .int .i64 gh', .slice (some ⟨Gt', 0, none⟩) n' ct']) := Lib.hid (by rw [← hw13]; exact Blk.new _ _ _)
  have o13 : Hid (Only No w12 w13) := Lib.hid (by rw [← hw13]; exact (Only.refl No w12).alloc _)
  clear hw13 c0 c1 c2
  -- all that stands at w13
  have O513 := Lib.hid (O511.out.trans (O12.out.trans o13.out))
  have OA := Lib.hid (OA5.out.trans O513.out)
  have O1113 := Lib.hid (O12.out.trans o13.out)
  have O913 := Lib.hid ((O10.out.trans o11.out).trans O1113.out)
  have O713 := Lib.hid ((O8.out.trans o9.out).trans O913.out)
  have Y := Lib.hid (B5.out.only O513.out id)
  have Y' := Lib.hid (B5'.out.only O513.out id)
  have Kw := Lib.hid (b7.out.only O713.out id)
  have Km := Lib.hid (b9.out.only O913.out id)
  have Kg := Lib.hid (b11.out.only O1113.out id)
  have Kd := b13
  have Rw13 := Lib.hid (Rds.of_own (own_only (own_only V6.out o7.out (fun _ _ => id)) O713.out (fun _ _ => id)))
  have Rm13 := Lib.hid (Rds.of_own (own_only (own_only V8.out o9.out (fun _ _ => id)) O913.out (fun _ _ => id)))
  have Tg := Lib.hid ((Row.of_own (bls_append hb.out (bls_marks 8)) T10.out).only (o11.out.trans O1113.out) id)
  have Td := Lib.hid ((Row.of_own (bls_append hb'.out (bls_marks 8)) T12.out).only o13.out id)
  have DG := Lib.hid ((twin_rds hl.out hb.out T10.out).no (o11.out.trans O1113.out))
  have DD := Lib.hid ((twin_rds hl'.out hb'.out T12.out).no o13.out)
  have MG := Lib.hid ((M5.out.no O513.out).mono O513.out.size)
  have MD := Lib.hid ((M5'.out.no O513.out).mono O513.out.size)
  have FG := Lib.hid (FR5.out.no O513.out)
  have FD := Lib.hid (FR5'.out.no O513.out)
  have hGt : Gt < w13.heap.size := Tg.out.lt
  have hGt' : Gt' < w13.heap.size := Td.out.lt
  obtain ⟨kw, hkw⟩ : ∃ k, k = w6.heap.size := ⟨_, rfl⟩
  obtain ⟨km, hkm⟩ : ∃ k, k = w8.heap.size := ⟨_, rfl⟩
  obtain ⟨kg, hkg⟩ : ∃ k, k = w10.heap.size := ⟨_, rfl⟩
  obtain ⟨kd, hkd⟩ : ∃ k, k = w12.heap.size := ⟨_, rfl⟩
  rw [← hkw] at Kw
  rw [← hkm] at Km
  rw [← hkg] at Kg
  rw [← hkd] at Kd
  rw [← hkw, ← hkm, ← hkg, ← hkd]
  have hkg13 : kg < w13.heap.size := Kg.out.lt
  replace hkw := Lib.hid hkw
  replace hkm := Lib.hid hkm
  replace hkg := Lib.hid hkg
  replace hkd := Lib.hid hkd
  have hG5 : w5.heap.size ≤ Gt := Nat.le_trans O59.out.size (own_ge T10.out Gt rfl)
  have hGk : Gt < kg := by rw [hkg.out]; exact own_lt T10.out Gt rfl
  have hGb : gb < Gt := Nat.lt_of_lt_of_le B5.out.lt hG5
  have hGw : w.heap.size ≤ Gt := Nat.le_trans OA5.out.size hG5
  clear O6 V6 o7 O5' C7' O8 V8 o9 O59 D9 O10 T10 o11 O511 D11' O12 T12 o13 b7 b9 b11 b13 B5 B5' M5' FR5' O713 O913 O1113
  have hFs : Hid (∀ w', Only No w13 w' → Calls Try.prog 17 #[.agg #[.int .i64 gw, .int .i64 gh, .slice (some ⟨Gt, 0, none⟩) n ct], P g] w' fun e w'' => ∃ v, e = .returned (.tuple #[.agg #[.int .i64 r1, .int .i64 r2, v], .int .i64 re]) ∧ Only No w' w'' ∧ w''.ownsRow w'.heap.size 48 64 v nR (bsC R)) := Lib.hid fun w' ho => by
    refine (fill17R w' w13.heap.size W H l bs gw gh (some ⟨Gt, 0, none⟩) ct g n hl.out (DG.out.no ho) (fun ad e => by cases e; exact hGt) hb.out (MG.out.no ho) ho.size).mono ?_
    rintro e w'' ⟨v, rfl, h1, h2⟩
    rw [← hfb.out] at h2 ⊢
    rw [← hR.out, ← hnR.out] at h2
    rw [← hr1.out, ← hr2.out, ← hre.out]
    exact ⟨v, rfl, h1, h2⟩
  have hFd : Hid (∀ w', Only No w13 w' → Calls Try.prog 17 #[.agg #[.int .i64 gw', .int .i64 gh', .slice (some ⟨Gt', 0, none⟩) n' ct'], P g'] w' fun e w'' => ∃ v, e = .returned (.tuple #[.agg #[.int .i64 r1', .int .i64 r2', v], .int .i64 re']) ∧ Only No w' w'' ∧ w''.ownsRow w'.heap.size 48 64 v nR' (bsC R')) := Lib.hid fun w' ho => by
    refine (fill17R w' w13.heap.size W' H' l' bs' gw' gh' (some ⟨Gt', 0, none⟩) ct' g' n' hl'.out (DD.out.no ho) (fun ad e => by cases e; exact hGt') hb'.out (MD.out.no ho) ho.size).mono ?_
    rintro e w'' ⟨v, rfl, h1, h2⟩
    rw [← hfb'.out] at h2 ⊢
    rw [← hR'.out, ← hnR'.out] at h2
    rw [← hr1'.out, ← hr2'.out, ← hre'.out]
    exact ⟨v, rfl, h1, h2⟩
  obtain ⟨j0, y0, hj0, hy0, hyz, hy1, hy2⟩ := info48c
  obtain ⟨i1, hi1, hz10, hz11, hz12⟩ := info_parts info24
  go_wp2_with fail
  go_loopw [19, 20] (fun v19 v20 wx => ∃ i : Nat, v20 = .int .i64 i ∧ i ≤ 4 ∧ Hid (Gs w13 wx (k4 r1 r1') (k4 r2 r2') (k4 nR nR') (k4 R R') i v19)) (fun _ v20 _ => 4 - (intOf v20).toNat)
  case atStart => exact ⟨0, rfl, by omega, Lib.hid ⟨fun _ => undef, World.ownsRow_nil _ _ _ _, fun j hj => by omega, fun j k _ hk => by omega, Only.refl _ _⟩⟩
  case round =>
    obtain ⟨i, rfl, hi, hI⟩ := hrel
    by_cases hlt : i < 4
    · have hlt' : (i : Int) < 4 := by omega
      obtain ⟨vs, h1, h2, h3, h4⟩ := hI.out
      obtain ⟨A19, c19, rfl⟩ := own_slice h1
      have hS : ∀ w', Only No wr w' → (w'.cell? ⟨kg, 0, none⟩ = some (.int .i64 gw) ∧ w'.cell? ⟨kg, 1, none⟩ = some (.int .i64 gh) ∧ w'.cell? ⟨kg, 2, none⟩ = some (.slice (some ⟨Gt, 0, none⟩) n ct) ∧
          w'.cell? ⟨kw, 0, none⟩ = some (.int .i64 r1) ∧ w'.cell? ⟨kw, 1, none⟩ = some (.int .i64 r2) ∧ w'.cell? ⟨kw, 2, none⟩ = some (.slice Aw nR cw)) := fun w' ho => by
        have x1 := (Kg.out.only h4 id).only ho id
        have x2 := (Kw.out.only h4 id).only ho id
        exact ⟨x1.cell 0, x1.cell 1, x1.cell 2, x2.cell 0, x2.cell 1, x2.cell 2⟩
      have q0 : Only No wr wr := Only.refl _ _
      go_wp2_with fail
      go_cut [21, 22, 23, 24] from 96 to 99 (fun s21 s22 s23 s24 wx => ∃ ka kx, s21 = P ka ∧ s22 = P g ∧ s23 = P kx ∧ s24 = .int .i64 re ∧ ka ≠ kx ∧ Hid (Blk wx ka 24 #[.int .i64 gw, .int .i64 gh, .slice (some ⟨Gt, 0, none⟩) n ct] ∧ Blk wx kx 24 #[.int .i64 r1, .int .i64 r2, .slice Aw nR cw] ∧ wr.heap.size ≤ ka ∧ wr.heap.size ≤ kx ∧ Only No wr wx))
      case first =>
        go_region_held3 (fun w' => Only No wr w' ∧ w'.cell? ⟨kg, 0, none⟩ = some (.int .i64 gw) ∧ w'.cell? ⟨kg, 1, none⟩ = some (.int .i64 gh) ∧ w'.cell? ⟨kg, 2, none⟩ = some (.slice (some ⟨Gt, 0, none⟩) n ct) ∧
          w'.cell? ⟨kw, 0, none⟩ = some (.int .i64 r1) ∧ w'.cell? ⟨kw, 1, none⟩ = some (.int .i64 r2) ∧ w'.cell? ⟨kw, 2, none⟩ = some (.slice Aw nR cw))
          (first
            | (refine ⟨?_, hS _ ?_⟩ <;> (repeat (first | exact q0 | refine Only.drew ?_ | refine Only.alloc ?_ _ | refine Only.setCell ?_ (.inr ?_) _)) <;> (try simp)))
          (fail)
        all_goals go_wp2_with fail
        all_goals go_meet
        all_goals first
          | exact ⟨_, _, rfl, rfl, rfl, rfl, by simp, Lib.hid ⟨(Blk.new wr _ _).alloc _, blk_new1' _ _ _ _, by simp, by simp, (((Only.refl No wr).alloc _).alloc _).drew⟩⟩
          | exact ⟨_, _, rfl, rfl, rfl, rfl, by simp, Lib.hid ⟨blk_new1' _ _ _ _, (Blk.new wr _ _).alloc _, by simp, by simp, (((Only.refl No wr).alloc _).alloc _).drew⟩⟩
      case rest =>
        obtain ⟨ka, kx, rfl, rfl, rfl, rfl, hne, hc⟩ := hcut
        obtain ⟨bka, bkx, hka, hkx, hoc⟩ := hc.out
        have hrs := h4.size
        have OC := Lib.hid (h4.trans hoc)
        replace bka := Lib.hid bka
        replace bkx := Lib.hid bkx
        replace hoc := Lib.hid hoc
        clear hc hS q0
        replace h1 := Lib.hid h1
        replace h2 := Lib.hid h2
        replace h3 := Lib.hid h3
        replace h4 := Lib.hid h4
        by_cases hk : i = 1 ∨ i = 2
        · have hS : ∀ w', Only (fun b => b = ka ∨ b = kx) wc w' → (w'.cell? ⟨kd, 0, none⟩ = some (.int .i64 gw') ∧ w'.cell? ⟨kd, 1, none⟩ = some (.int .i64 gh') ∧ w'.cell? ⟨kd, 2, none⟩ = some (.slice (some ⟨Gt', 0, none⟩) n' ct') ∧
              w'.cell? ⟨km, 0, none⟩ = some (.int .i64 r1') ∧ w'.cell? ⟨km, 1, none⟩ = some (.int .i64 r2') ∧ w'.cell? ⟨km, 2, none⟩ = some (.slice Am nR' cm)) := fun w' ho => by
            have l1 := Kd.out.lt
            have l2 := Km.out.lt
            have x1 := (Kd.out.only OC.out id).only ho (by omega)
            have x2 := (Km.out.only OC.out id).only ho (by omega)
            exact ⟨x1.cell 0, x1.cell 1, x1.cell 2, x2.cell 0, x2.cell 1, x2.cell 2⟩
          have q0 : Only (fun b => b = ka ∨ b = kx) wc wc := Only.refl _ _
          have sa : ∀ (w' : World) (j : Nat) (u : Value), Only (fun b => b = ka ∨ b = kx) wc w' → Only (fun b => b = ka ∨ b = kx) wc (w'.setCell ⟨ka, j, none⟩ u) := fun w' j u ho => ho.setCell (p := ⟨ka, j, none⟩) (.inl (.inl rfl)) u
          have sx : ∀ (w' : World) (j : Nat) (u : Value), Only (fun b => b = ka ∨ b = kx) wc w' → Only (fun b => b = ka ∨ b = kx) wc (w'.setCell ⟨kx, j, none⟩ u) := fun w' j u ho => ho.setCell (p := ⟨kx, j, none⟩) (.inl (.inr rfl)) u
          have sd : ∀ (w' : World), Only (fun b => b = ka ∨ b = kx) wc w' → Only (fun b => b = ka ∨ b = kx) wc w'.drew := fun w' ho => ho.drew
          replace sa := Lib.hid sa
          replace sx := Lib.hid sx
          replace sd := Lib.hid sd
          have hne' : ¬ kx = ka := fun h => hne h.symm
          have hd : ((i : Int) == 1) = true ∨ ((i : Int) == 1) = false ∧ ((i : Int) == 2) = true := by
            rcases hk with rfl | rfl
            · exact .inl rfl
            · exact .inr ⟨rfl, rfl⟩
          replace hk := Lib.hid hk
          rcases hd with hd1 | ⟨hd1, hd2⟩
          · go_wp2_with fail
            go_cut [22, 24] from 106 to 109 (fun s22 s24 wx => s22 = P g' ∧ s24 = .int .i64 re' ∧ Hid (Blk wx ka 24 #[.int .i64 gw', .int .i64 gh', .slice (some ⟨Gt', 0, none⟩) n' ct'] ∧ Blk wx kx 24 #[.int .i64 r1', .int .i64 r2', .slice Am nR' cm] ∧ Only (fun b => b = ka ∨ b = kx) wc wx))
            case first =>
              have tA := Lib.hid (two_stores bka.out bkx.out hne (.int .i64 gw') (.int .i64 gh') (.slice (some ⟨Gt', 0, none⟩) n' ct') (.int .i64 r1') (.int .i64 r2') (.slice Am nR' cm))
              have tB := Lib.hid (two_stores bkx.out bka.out hne' (.int .i64 r1') (.int .i64 r2') (.slice Am nR' cm) (.int .i64 gw') (.int .i64 gh') (.slice (some ⟨Gt', 0, none⟩) n' ct'))
              have a0 := bka.out.cell 0
              have a1 := bka.out.cell 1
              have a2 := bka.out.cell 2
              have f0 := bka.out.frozen 0
              have f1 := bka.out.frozen 1
              have f2 := bka.out.frozen 2
              have x0 := bkx.out.cell 0
              have x1 := bkx.out.cell 1
              have x2 := bkx.out.cell 2
              have g0 := bkx.out.frozen 0
              have g1 := bkx.out.frozen 1
              have g2 := bkx.out.frozen 2
              simp only [List.getElem?_toArray, List.getElem?_cons_zero, List.getElem?_cons_succ] at a0 a1 a2 x0 x1 x2
              go_region_held3 (fun w' => Only (fun b => b = ka ∨ b = kx) wc w' ∧ w'.cell? ⟨kd, 0, none⟩ = some (.int .i64 gw') ∧ w'.cell? ⟨kd, 1, none⟩ = some (.int .i64 gh') ∧ w'.cell? ⟨kd, 2, none⟩ = some (.slice (some ⟨Gt', 0, none⟩) n' ct') ∧
                w'.cell? ⟨km, 0, none⟩ = some (.int .i64 r1') ∧ w'.cell? ⟨km, 1, none⟩ = some (.int .i64 r2') ∧ w'.cell? ⟨km, 2, none⟩ = some (.slice Am nR' cm))
                (first
                  | (refine ⟨?_, hS _ ?_⟩ <;> (repeat (first | (with_reducible exact q0) | (with_reducible refine sd.out _ ?_) | (with_reducible refine sa.out _ _ _ ?_) | (with_reducible refine sx.out _ _ _ ?_)))))
                (fail)
              all_goals go_wp2_with fail
              all_goals go_meet
              all_goals first
                | with_reducible exact ⟨rfl, rfl, Lib.hid ⟨tA.out.1, tA.out.2.1, tA.out.2.2⟩⟩
                | with_reducible exact ⟨rfl, rfl, Lib.hid ⟨tB.out.2.1, tB.out.1, tB.out.2.2.mono fun _ h => h.symm⟩⟩
            case rest =>
              obtain ⟨rfl, rfl, hc⟩ := hcut
              have Bka := Lib.hid hc.out.1
              have Bkx := Lib.hid hc.out.2.1
              have Orv : Hid (Only No wr wc) := Lib.hid (hoc.out.then hc.out.2.2 (fun j h => .inr (by rcases h with h | h <;> omega)))
              have OCv := Lib.hid (h4.out.trans Orv.out)
              clear hc bka bkx sa sx sd q0 hS
              have hF := hFd.out wc OCv.out
              have a0 := Bka.out.cell 0
              have a1 := Bka.out.cell 1
              have a2 := Bka.out.cell 2
              simp only [List.getElem?_toArray, List.getElem?_cons_zero, List.getElem?_cons_succ] at a0 a1 a2
              go_upto_region 19 with (go_at_call 17; refine hF.mono ?_; clear hF; rintro e w20 ⟨vr, rfl, o20, hvr⟩; obtain ⟨Ar, cr, rfl⟩ := own_slice hvr; have O20 := Lib.hid o20; have V20 := Lib.hid hvr; clear o20 hvr)
              generalize hw21 : w20.alloc (Obj.cells #[.int .i64 r1', .int .i64 r2', .slice Ar nR' cr] 24) = w21
              have b21 : Hid (Blk w21 w20.heap.size 24 #[.int .i64 r1', .int .i64 r2', .slice Ar nR' cr]) := Lib.hid (by rw [← hw21]; exact Blk.new _ _ _)
              have o21 : Hid (Only No w20 w21) := Lib.hid (by rw [← hw21]; exact (Only.refl No w20).alloc _)
              clear hw21 a0 a1 a2
              obtain ⟨kr, hkr⟩ : ∃ k, k = w20.heap.size := ⟨_, rfl⟩
              rw [← hkr] at b21 ⊢
              replace hkr := Lib.hid hkr
              have y0 := b21.out.cell 0
              have y1 := b21.out.cell 1
              have y2 := b21.out.cell 2
              have bx := (Bkx.out.only O20.out id).only o21.out id
              have x0 := bx.cell 0
              have x1 := bx.cell 1
              have x2 := bx.cell 2
              simp only [List.getElem?_toArray, List.getElem?_cons_zero, List.getElem?_cons_succ] at y0 y1 y2 x0 x1 x2
              clear bx
              have OW21 := Lib.hid ((OCv.out.trans O20.out).trans o21.out)
              have V21 := Lib.hid (own_only V20.out o21.out (fun _ _ => id))
              have h18 := same18_yes w21 r1' r2' Ar Am cr cm nR' R' (by rw [← hnR'.out]; exact Rds.of_own V21.out) (by rw [← hnR'.out]; exact Rm13.out.no OW21.out) hRb'.out hnR'.out (by omega)
              unfold gridI at h18
              have dd : (re' != re') = false := by simp
              go_upto_region 21 with (go_at_call 18; refine h18.mono ?_; clear h18; rintro e w22 ⟨rfl, o22⟩; have O22 := Lib.hid o22; clear o22)
              clear y0 y1 y2 x0 x1 x2 dd
              have y0 := (b21.out.only O22.out id).cell 0
              have y1 := (b21.out.only O22.out id).cell 1
              have y2 := (b21.out.only O22.out id).cell 2
              simp only [List.getElem?_toArray, List.getElem?_cons_zero, List.getElem?_cons_succ] at y0 y1 y2
              have OR22 := Lib.hid ((Orv.out.trans (O20.out.trans o21.out)).trans O22.out)
              have H22 := Lib.hid (own_only h1.out OR22.out (fun _ _ => id))
              have hbs22 : Hid (w13.heap.size ≤ (w22.alloc (.cells #[.int .i64 r1', .int .i64 r2', .slice Ar nR' cr] 24)).heap.size) := Lib.hid (Nat.le_trans (h4.out.trans OR22.out).size (by simp))
              go_wp2_with (first
                | (at_builtin
                   (refine Mm.wpList_append_any _ rfl (.tmp 125) (.tmp 127) _ rfl w13.heap.size 24 i1 _ 3 40 Try.underlying44 hi1 hz10 hz11 hz12 rfl (by omega) (.slice A19 i c19) i (gcC (k4 r1 r1') (k4 r2 r2') vs i) rfl (H22.out.alloc _) (some ⟨w22.heap.size, 0, none⟩) 1 1 [.int .i64 r1', .int .i64 r2', .slice Ar nR' cr] rfl (Rds.fresh (Blk.new _ _ _) rfl) (by simp [Value.oneCell']) (by simp only [maxLen]; omega) (by omega) hbs22.out ?_)
                   intro v23 w23 hown23 hon23 hat23
                   have H23 := Lib.hid hown23
                   have N23 := Lib.hid hon23
                   clear hown23 hon23 hat23))
              go_roundw
              case rel =>
                refine ⟨i + 1, by go_num, by omega, Lib.hid (gs_step (w1 := w22) (w0 := w22.alloc (.cells #[.int .i64 r1', .int .i64 r2', .slice Ar nR' cr] 24)) (u := .slice Ar nR' cr) vs h1.out h2.out h3.out h4.out OR22.out ?_ ((Only.refl No w22).alloc _) N23.out ?_)⟩
                · rw [k4_o _ _ hk.out, k4_o _ _ hk.out]
                  exact own_base (own_only V21.out O22.out (fun _ _ => id)) (fun q hq => by have := own_ge V20.out q hq; have := Orv.out.size; omega)
                · rw [k4_o _ _ hk.out, k4_o _ _ hk.out]
                  exact H23.out
              case measure => simp [intOf]; omega
          · go_wp2_with fail
            go_cut [22, 24] from 106 to 109 (fun s22 s24 wx => s22 = P g' ∧ s24 = .int .i64 re' ∧ Hid (Blk wx ka 24 #[.int .i64 gw', .int .i64 gh', .slice (some ⟨Gt', 0, none⟩) n' ct'] ∧ Blk wx kx 24 #[.int .i64 r1', .int .i64 r2', .slice Am nR' cm] ∧ Only (fun b => b = ka ∨ b = kx) wc wx))
            case first =>
              have tA := Lib.hid (two_stores bka.out bkx.out hne (.int .i64 gw') (.int .i64 gh') (.slice (some ⟨Gt', 0, none⟩) n' ct') (.int .i64 r1') (.int .i64 r2') (.slice Am nR' cm))
              have tB := Lib.hid (two_stores bkx.out bka.out hne' (.int .i64 r1') (.int .i64 r2') (.slice Am nR' cm) (.int .i64 gw') (.int .i64 gh') (.slice (some ⟨Gt', 0, none⟩) n' ct'))
              have a0 := bka.out.cell 0
              have a1 := bka.out.cell 1
              have a2 := bka.out.cell 2
              have f0 := bka.out.frozen 0
              have f1 := bka.out.frozen 1
              have f2 := bka.out.frozen 2
              have x0 := bkx.out.cell 0
              have x1 := bkx.out.cell 1
              have x2 := bkx.out.cell 2
              have g0 := bkx.out.frozen 0
              have g1 := bkx.out.frozen 1
              have g2 := bkx.out.frozen 2
              simp only [List.getElem?_toArray, List.getElem?_cons_zero, List.getElem?_cons_succ] at a0 a1 a2 x0 x1 x2
              go_region_held3 (fun w' => Only (fun b => b = ka ∨ b = kx) wc w' ∧ w'.cell? ⟨kd, 0, none⟩ = some (.int .i64 gw') ∧ w'.cell? ⟨kd, 1, none⟩ = some (.int .i64 gh') ∧ w'.cell? ⟨kd, 2, none⟩ = some (.slice (some ⟨Gt', 0, none⟩) n' ct') ∧
                w'.cell? ⟨km, 0, none⟩ = some (.int .i64 r1') ∧ w'.cell? ⟨km, 1, none⟩ = some (.int .i64 r2') ∧ w'.cell? ⟨km, 2, none⟩ = some (.slice Am nR' cm))
                (first
                  | (refine ⟨?_, hS _ ?_⟩ <;> (repeat (first | (with_reducible exact q0) | (with_reducible refine sd.out _ ?_) | (with_reducible refine sa.out _ _ _ ?_) | (with_reducible refine sx.out _ _ _ ?_)))))
                (fail)
              all_goals go_wp2_with fail
              all_goals go_meet
              all_goals first
                | with_reducible exact ⟨rfl, rfl, Lib.hid ⟨tA.out.1, tA.out.2.1, tA.out.2.2⟩⟩
                | with_reducible exact ⟨rfl, rfl, Lib.hid ⟨tB.out.2.1, tB.out.1, tB.out.2.2.mono fun _ h => h.symm⟩⟩
            case rest =>
              obtain ⟨rfl, rfl, hc⟩ := hcut
              have Bka := Lib.hid hc.out.1
              have Bkx := Lib.hid hc.out.2.1
              have Orv : Hid (Only No wr wc) := Lib.hid (hoc.out.then hc.out.2.2 (fun j h => .inr (by rcases h with h | h <;> omega)))
              have OCv := Lib.hid (h4.out.trans Orv.out)
              clear hc bka bkx sa sx sd q0 hS
              have hF := hFd.out wc OCv.out
              have a0 := Bka.out.cell 0
              have a1 := Bka.out.cell 1
              have a2 := Bka.out.cell 2
              simp only [List.getElem?_toArray, List.getElem?_cons_zero, List.getElem?_cons_succ] at a0 a1 a2
              go_upto_region 19 with (go_at_call 17; refine hF.mono ?_; clear hF; rintro e w20 ⟨vr, rfl, o20, hvr⟩; obtain ⟨Ar, cr, rfl⟩ := own_slice hvr; have O20 := Lib.hid o20; have V20 := Lib.hid hvr; clear o20 hvr)
              generalize hw21 : w20.alloc (Obj.cells #[.int .i64 r1', .int .i64 r2', .slice Ar nR' cr] 24) = w21
              have b21 : Hid (Blk w21 w20.heap.size 24 #[.int .i64 r1', .int .i64 r2', .slice Ar nR' cr]) := Lib.hid (by rw [← hw21]; exact Blk.new _ _ _)
              have o21 : Hid (Only No w20 w21) := Lib.hid (by rw [← hw21]; exact (Only.refl No w20).alloc _)
              clear hw21 a0 a1 a2
              obtain ⟨kr, hkr⟩ : ∃ k, k = w20.heap.size := ⟨_, rfl⟩
              rw [← hkr] at b21 ⊢
              replace hkr := Lib.hid hkr
              have y0 := b21.out.cell 0
              have y1 := b21.out.cell 1
              have y2 := b21.out.cell 2
              have bx := (Bkx.out.only O20.out id).only o21.out id
              have x0 := bx.cell 0
              have x1 := bx.cell 1
              have x2 := bx.cell 2
              simp only [List.getElem?_toArray, List.getElem?_cons_zero, List.getElem?_cons_succ] at y0 y1 y2 x0 x1 x2
              clear bx
              have OW21 := Lib.hid ((OCv.out.trans O20.out).trans o21.out)
              have V21 := Lib.hid (own_only V20.out o21.out (fun _ _ => id))
              have h18 := same18_yes w21 r1' r2' Ar Am cr cm nR' R' (by rw [← hnR'.out]; exact Rds.of_own V21.out) (by rw [← hnR'.out]; exact Rm13.out.no OW21.out) hRb'.out hnR'.out (by omega)
              unfold gridI at h18
              have dd : (re' != re') = false := by simp
              go_upto_region 21 with (go_at_call 18; refine h18.mono ?_; clear h18; rintro e w22 ⟨rfl, o22⟩; have O22 := Lib.hid o22; clear o22)
              clear y0 y1 y2 x0 x1 x2 dd
              have y0 := (b21.out.only O22.out id).cell 0
              have y1 := (b21.out.only O22.out id).cell 1
              have y2 := (b21.out.only O22.out id).cell 2
              simp only [List.getElem?_toArray, List.getElem?_cons_zero, List.getElem?_cons_succ] at y0 y1 y2
              have OR22 := Lib.hid ((Orv.out.trans (O20.out.trans o21.out)).trans O22.out)
              have H22 := Lib.hid (own_only h1.out OR22.out (fun _ _ => id))
              have hbs22 : Hid (w13.heap.size ≤ (w22.alloc (.cells #[.int .i64 r1', .int .i64 r2', .slice Ar nR' cr] 24)).heap.size) := Lib.hid (Nat.le_trans (h4.out.trans OR22.out).size (by simp))
              go_wp2_with (first
                | (at_builtin
                   (refine Mm.wpList_append_any _ rfl (.tmp 125) (.tmp 127) _ rfl w13.heap.size 24 i1 _ 3 40 Try.underlying44 hi1 hz10 hz11 hz12 rfl (by omega) (.slice A19 i c19) i (gcC (k4 r1 r1') (k4 r2 r2') vs i) rfl (H22.out.alloc _) (some ⟨w22.heap.size, 0, none⟩) 1 1 [.int .i64 r1', .int .i64 r2', .slice Ar nR' cr] rfl (Rds.fresh (Blk.new _ _ _) rfl) (by simp [Value.oneCell']) (by simp only [maxLen]; omega) (by omega) hbs22.out ?_)
                   intro v23 w23 hown23 hon23 hat23
                   have H23 := Lib.hid hown23
                   have N23 := Lib.hid hon23
                   clear hown23 hon23 hat23))
              go_roundw
              case rel =>
                refine ⟨i + 1, by go_num, by omega, Lib.hid (gs_step (w1 := w22) (w0 := w22.alloc (.cells #[.int .i64 r1', .int .i64 r2', .slice Ar nR' cr] 24)) (u := .slice Ar nR' cr) vs h1.out h2.out h3.out h4.out OR22.out ?_ ((Only.refl No w22).alloc _) N23.out ?_)⟩
                · rw [k4_o _ _ hk.out, k4_o _ _ hk.out]
                  exact own_base (own_only V21.out O22.out (fun _ _ => id)) (fun q hq => by have := own_ge V20.out q hq; have := Orv.out.size; omega)
                · rw [k4_o _ _ hk.out, k4_o _ _ hk.out]
                  exact H23.out
              case measure => simp [intOf]; omega
        · have hd1 : ((i : Int) == 1) = false := by simp; omega
          have hd2 : ((i : Int) == 2) = false := by simp; omega
          replace hk := Lib.hid hk
          have Bka := bka
          have Bkx := bkx
          have OCv := OC
          have Orv := hoc
          clear bka bkx
          go_upto_region 18 with (fail)
          have hF := hFs.out wc OCv.out
          have a0 := Bka.out.cell 0
          have a1 := Bka.out.cell 1
          have a2 := Bka.out.cell 2
          simp only [List.getElem?_toArray, List.getElem?_cons_zero, List.getElem?_cons_succ] at a0 a1 a2
          go_upto_region 19 with (go_at_call 17; refine hF.mono ?_; clear hF; rintro e w20 ⟨vr, rfl, o20, hvr⟩; obtain ⟨Ar, cr, rfl⟩ := own_slice hvr; have O20 := Lib.hid o20; have V20 := Lib.hid hvr; clear o20 hvr)
          generalize hw21 : w20.alloc (Obj.cells #[.int .i64 r1, .int .i64 r2, .slice Ar nR cr] 24) = w21
          have b21 : Hid (Blk w21 w20.heap.size 24 #[.int .i64 r1, .int .i64 r2, .slice Ar nR cr]) := Lib.hid (by rw [← hw21]; exact Blk.new _ _ _)
          have o21 : Hid (Only No w20 w21) := Lib.hid (by rw [← hw21]; exact (Only.refl No w20).alloc _)
          clear hw21 a0 a1 a2
          obtain ⟨kr, hkr⟩ : ∃ k, k = w20.heap.size := ⟨_, rfl⟩
          rw [← hkr] at b21 ⊢
          replace hkr := Lib.hid hkr
          have y0 := b21.out.cell 0
          have y1 := b21.out.cell 1
          have y2 := b21.out.cell 2
          have bx := (Bkx.out.only O20.out id).only o21.out id
          have x0 := bx.cell 0
          have x1 := bx.cell 1
          have x2 := bx.cell 2
          simp only [List.getElem?_toArray, List.getElem?_cons_zero, List.getElem?_cons_succ] at y0 y1 y2 x0 x1 x2
          clear bx
          have OW21 := Lib.hid ((OCv.out.trans O20.out).trans o21.out)
          have V21 := Lib.hid (own_only V20.out o21.out (fun _ _ => id))
          have h18 := same18_yes w21 r1 r2 Ar Aw cr cw nR R (by rw [← hnR.out]; exact Rds.of_own V21.out) (by rw [← hnR.out]; exact Rw13.out.no OW21.out) hRb.out hnR.out (by omega)
          unfold gridI at h18
          have dd : (re != re) = false := by simp
          go_upto_region 21 with (go_at_call 18; refine h18.mono ?_; clear h18; rintro e w22 ⟨rfl, o22⟩; have O22 := Lib.hid o22; clear o22)
          clear y0 y1 y2 x0 x1 x2 dd
          have y0 := (b21.out.only O22.out id).cell 0
          have y1 := (b21.out.only O22.out id).cell 1
          have y2 := (b21.out.only O22.out id).cell 2
          simp only [List.getElem?_toArray, List.getElem?_cons_zero, List.getElem?_cons_succ] at y0 y1 y2
          have OR22 := Lib.hid ((Orv.out.trans (O20.out.trans o21.out)).trans O22.out)
          have H22 := Lib.hid (own_only h1.out OR22.out (fun _ _ => id))
          have hbs22 : Hid (w13.heap.size ≤ (w22.alloc (.cells #[.int .i64 r1, .int .i64 r2, .slice Ar nR cr] 24)).heap.size) := Lib.hid (Nat.le_trans (h4.out.trans OR22.out).size (by simp))
          go_wp2_with (first
            | (at_builtin
               (refine Mm.wpList_append_any _ rfl (.tmp 125) (.tmp 127) _ rfl w13.heap.size 24 i1 _ 3 40 Try.underlying44 hi1 hz10 hz11 hz12 rfl (by omega) (.slice A19 i c19) i (gcC (k4 r1 r1') (k4 r2 r2') vs i) rfl (H22.out.alloc _) (some ⟨w22.heap.size, 0, none⟩) 1 1 [.int .i64 r1, .int .i64 r2, .slice Ar nR cr] rfl (Rds.fresh (Blk.new _ _ _) rfl) (by simp [Value.oneCell']) (by simp only [maxLen]; omega) (by omega) hbs22.out ?_)
               intro v23 w23 hown23 hon23 hat23
               have H23 := Lib.hid hown23
               have N23 := Lib.hid hon23
               clear hown23 hon23 hat23))
          go_roundw
          case rel =>
            refine ⟨i + 1, by go_num, by omega, Lib.hid (gs_step (w1 := w22) (w0 := w22.alloc (.cells #[.int .i64 r1, .int .i64 r2, .slice Ar nR cr] 24)) (u := .slice Ar nR cr) vs h1.out h2.out h3.out h4.out OR22.out ?_ ((Only.refl No w22).alloc _) N23.out ?_)⟩
            · rw [k4_s _ _ (fun h => hk.out (.inl h)) (fun h => hk.out (.inr h)), k4_s _ _ (fun h => hk.out (.inl h)) (fun h => hk.out (.inr h))]
              exact own_base (own_only V21.out O22.out (fun _ _ => id)) (fun q hq => by have := own_ge V20.out q hq; have := Orv.out.size; omega)
            · rw [k4_s _ _ (fun h => hk.out (.inl h)) (fun h => hk.out (.inr h)), k4_s _ _ (fun h => hk.out (.inl h)) (fun h => hk.out (.inr h))]
              exact H23.out
          case measure => simp [intOf]; omega
    · have hlt' : ¬ (i : Int) < 4 := by omega
      obtain rfl : i = 4 := by omega
      obtain ⟨vs, h1, h2, h3, h4⟩ := hI.out
      obtain ⟨A19, c19, rfl⟩ := own_slice h1
      replace h1 := Lib.hid h1
      replace h2 := Lib.hid h2
      replace h3 := Lib.hid h3
      replace h4 := Lib.hid h4
      have h17 := fill17_nil wr gw gh (some ⟨Gt, 0, none⟩) n ct
      have a0 := (Kg.out.only h4.out id).cell 0
      have a1 := (Kg.out.only h4.out id).cell 1
      have a2 := (Kg.out.only h4.out id).cell 2
      simp only [List.getElem?_toArray, List.getElem?_cons_zero, List.getElem?_cons_succ] at a0 a1 a2
      go_upto_region 23 with (go_at_call 17; refine h17.mono ?_; clear h17; rintro e w24 ⟨rfl, o24⟩; have O24 := Lib.hid o24; clear o24)
      generalize hw25 : w24.alloc (Obj.cells #[.int .i64 0, .int .i64 0, .slice none 0 0] 24) = w25
      have o25 : Hid (Only No w24 w25) := Lib.hid (by rw [← hw25]; exact (Only.refl No w24).alloc _)
      clear hw25 a0 a1 a2
      have R25 := Lib.hid (O24.out.trans o25.out)
      have O25 := Lib.hid (h4.out.trans R25.out)
      have hcg : Hid (∀ w', Only No w13 w' → (w'.cell? ⟨kg, 0, none⟩ = some (.int .i64 gw) ∧ w'.cell? ⟨kg, 1, none⟩ = some (.int .i64 gh) ∧ w'.cell? ⟨kg, 2, none⟩ = some (.slice (some ⟨Gt, 0, none⟩) n ct)) ∧
          (w'.cell? ⟨gb, 0, none⟩ = some (.int .i64 gw) ∧ w'.cell? ⟨gb, 1, none⟩ = some (.int .i64 gh) ∧ w'.cell? ⟨gb, 2, none⟩ = some (.slice A n c)) ∧
          (w'.cell? ⟨kd, 0, none⟩ = some (.int .i64 gw') ∧ w'.cell? ⟨kd, 1, none⟩ = some (.int .i64 gh') ∧ w'.cell? ⟨kd, 2, none⟩ = some (.slice (some ⟨Gt', 0, none⟩) n' ct')) ∧
          (w'.cell? ⟨gb + 1, 0, none⟩ = some (.int .i64 gw') ∧ w'.cell? ⟨gb + 1, 1, none⟩ = some (.int .i64 gh') ∧ w'.cell? ⟨gb + 1, 2, none⟩ = some (.slice A' n' c'))) := Lib.hid fun w' ho =>
        ⟨⟨(Kg.out.only ho id).cell 0, (Kg.out.only ho id).cell 1, (Kg.out.only ho id).cell 2⟩, ⟨(Y.out.only ho id).cell 0, (Y.out.only ho id).cell 1, (Y.out.only ho id).cell 2⟩,
          ⟨(Kd.out.only ho id).cell 0, (Kd.out.only ho id).cell 1, (Kd.out.only ho id).cell 2⟩, ⟨(Y'.out.only ho id).cell 0, (Y'.out.only ho id).cell 1, (Y'.out.only ho id).cell 2⟩⟩
      have h14g : Hid (∀ w', Only No w13 w' → Calls Try.prog 14 #[.agg #[.int .i64 gw, .int .i64 gh, .slice (some ⟨Gt, 0, none⟩) n ct], .agg #[.int .i64 gw, .int .i64 gh, .slice A n c]] w' (fun e w'' => e = .returned (.bool true) ∧ Only No w' w'')) := Lib.hid fun w' ho => kept14 w' gw gh Gt ct n A c bs hl.out (hA.out.no (OA.out.trans ho)) hb.out hct (Tg.out.only ho id) hn
      have h14d : Hid (∀ w', Only No w13 w' → Calls Try.prog 14 #[.agg #[.int .i64 gw', .int .i64 gh', .slice (some ⟨Gt', 0, none⟩) n' ct'], .agg #[.int .i64 gw', .int .i64 gh', .slice A' n' c']] w' (fun e w'' => e = .returned (.bool true) ∧ Only No w' w'')) := Lib.hid fun w' ho => kept14 w' gw' gh' Gt' ct' n' A' c' bs' hl'.out (hA'.out.no (OA.out.trans ho)) hb'.out hct' (Td.out.only ho id) hn'
      have h15g : Hid (∀ w', Only No w13 w' → Calls Try.prog 15 #[P g, .int .i64 W, .int .i64 H, .slice Af N cf] w' (fun e w'' => e = .returned (.bool true) ∧ Only No w' w'')) := Lib.hid fun w' ho => still15 w' w13.heap.size g W H l Af cf N (MG.out.no ho) hfl (FG.out.no ho)
      have h15d : Hid (∀ w', Only No w13 w' → Calls Try.prog 15 #[P g', .int .i64 W', .int .i64 H', .slice Af' N' cf'] w' (fun e w'' => e = .returned (.bool true) ∧ Only No w' w'')) := Lib.hid fun w' ho => still15 w' w13.heap.size g' W' H' l' Af' cf' N' (MD.out.no ho) hfl' (FD.out.no ho)
      obtain ⟨⟨a0, a1, a2⟩, ⟨b0, b1, b2⟩, _, _⟩ := hcg.out w25 O25.out
      go_upto_region 26 with (first
        | (go_at_call 14; with_reducible refine (h14g.out _ O25.out).mono ?_; rintro e w26 ⟨rfl, o26⟩; have R26 := Lib.hid (R25.out.trans o26); have O26 := Lib.hid (O25.out.trans o26); clear a0 a1 a2 b0 b1 b2 o26; obtain ⟨_, _, ⟨a0, a1, a2⟩, b0, b1, b2⟩ := hcg.out w26 O26.out)
        | (go_at_call 14; with_reducible refine (h14d.out _ O26.out).mono ?_; rintro e w27 ⟨rfl, o27⟩; have R27 := Lib.hid (R26.out.trans o27); have O27 := Lib.hid (O26.out.trans o27); clear a0 a1 a2 b0 b1 b2 o27)
        | (go_at_call 15; with_reducible refine (h15g.out _ O27.out).mono ?_; rintro e w28 ⟨rfl, o28⟩; have R28 := Lib.hid (R27.out.trans o28); have O28 := Lib.hid (O27.out.trans o28); clear o28)
        | (go_at_call 15; with_reducible refine (h15d.out _ O28.out).mono ?_; rintro e w29 ⟨rfl, o29⟩; have R29 := Lib.hid (R28.out.trans o29); have O29 := Lib.hid (O28.out.trans o29); clear o29))
      have hLg0 : Hid (∃ us, Lg w13 w29 (k4 r1 r1') (k4 r2 r2') (k4 nR nR') (k4 R R') (.slice A19 4 c19) vs us 0 (.slice none 0 0)) := Lib.hid ⟨fun _ => undef, lg_start (own_only h1.out R29.out (fun _ _ => id)) (fun j hj => own_only (h2.out j hj) R29.out (fun _ _ => id)) O29.out⟩
      have hvsl : Hid (∀ j, j < 4 → ∃ A c, vs j = .slice A (k4 nR nR' j) c) := Lib.hid fun j hj => own_slice (h2.out j hj)
      clear R25 R26 R27 R28 R29 O24 O25 O26 O27 O28 h1 h2 h4 o25
      obtain ⟨i2, hi2, hz20, hz21, hz22⟩ := info_parts info22
      go_wp2_with fail
      go_loopw [29, 30] (fun v29 v30 wx => ∃ i : Nat, v30 = .int .i64 i ∧ i ≤ 2 ∧ Hid (∃ us, Lg w13 wx (k4 r1 r1') (k4 r2 r2') (k4 nR nR') (k4 R R') (.slice A19 4 c19) vs us i v29)) (fun _ v30 _ => 2 - (intOf v30).toNat)
      case atStart => exact ⟨0, rfl, by omega, hLg0⟩
      case round =>
        obtain ⟨i, rfl, hi, hI2⟩ := hrel
        by_cases hlt : i < 2
        · have hlt' : (i : Int) < 2 := by omega
          obtain ⟨us, hLg⟩ := hI2.out
          obtain ⟨wa, rfl⟩ : ∃ wo : World, wo = wr := ⟨_, rfl⟩
          have hli := hLg.left i (Nat.le_refl _) (by omega)
          obtain ⟨Ai, ci, hvs⟩ := own_slice hli
          have hnb : k4 nR nR' i ≤ 10000 := by
            by_cases hk : i = 1 ∨ i = 2
            · rw [k4_o _ _ hk]; omega
            · rw [k4_s _ _ (fun h => hk (.inl h)) (fun h => hk (.inr h))]; omega
          have hRi : Hid (Bls (k4 R R' i)) := Lib.hid (by
            by_cases hk : i = 1 ∨ i = 2
            · rw [k4_o _ _ hk]; exact hRb'.out
            · rw [k4_s _ _ (fun h => hk (.inl h)) (fun h => hk (.inr h))]; exact hRb.out)
          have hRl : Hid ((k4 R R' i).length = k4 nR nR' i) := Lib.hid (by
            by_cases hk : i = 1 ∨ i = 2
            · rw [k4_o _ _ hk, k4_o _ _ hk]; exact hnR'.out.symm
            · rw [k4_s _ _ (fun h => hk (.inl h)) (fun h => hk (.inr h)), k4_s _ _ (fun h => hk (.inl h)) (fun h => hk (.inr h))]; exact hnR.out.symm)
          obtain ⟨ad19, hA19, hcv⟩ := (Rds.of_own hLg.got).at_ (i := i * 3 + 2) (by omega) (gcC_get (k4 r1 r1') (k4 r2 r2') vs 4 i (by omega)).2.2
          have hc3 : wa.cell? ⟨(ad19.add (i * 3)).block, (ad19.add (i * 3)).off + 2, none⟩ = some (vs i) := by rw [Mm.add_field _ _ _ (by omega)]; exact hcv
          obtain ⟨nn, hnn⟩ : ∃ m, m = k4 nR nR' i := ⟨_, rfl⟩
          rw [← hnn] at hvs hnb hli hRl
          rw [hvs] at hc3 hli
          replace hnn := Lib.hid hnn
          replace hvs := Lib.hid hvs
          subst hA19
          replace hLg := Lib.hid hLg
          obtain ⟨A29, c29, rfl⟩ := own_slice hLg.out.long
          clear hI2 hcv
          replace hli := Lib.hid hli
          have s5 : IntKind.i64.wrap (i : Int) = (i : Int) := IntWalk.i64_in _ (by omega)
          go_upto_region 30 with (fail)
          go_wp2_with fail
          go_loopw [32] (fun v32 wx => ∃ j : Nat, v32 = .int .i64 j ∧ j ≤ nn ∧ Hid (wx.ownsRow w13.heap.size 48 64 (.slice Ai nn ci) nn (bsC (mkL (k4 R R' i) i j)) ∧ Only (Own (.slice Ai nn ci)) wa wx)) (fun v32 _ => nn - (intOf v32).toNat)
          case atStart => exact ⟨0, rfl, by omega, Lib.hid ⟨by rw [mkL_zero]; exact hli.out, Only.refl _ _⟩⟩
          case round =>
            obtain ⟨j, rfl, hj, hI3⟩ := hrel
            by_cases hltj : j < nn
            · have hltj' : (j : Int) < nn := by omega
              obtain ⟨gi, rfl⟩ := own_addr hI3.out.1 (by omega)
              have s6 : IntKind.i64.wrap (j : Int) = (j : Int) := IntWalk.i64_in _ (by omega)
              have s7 : IntKind.i16.wrap (i : Int) = (i : Int) := wrap16 _ ⟨by omega, by omega⟩
              have hRj : Hid (mkL (k4 R R' i) i (j + 1) = (mkL (k4 R R' i) i j).set j (mrk 0 i)) := Lib.hid (mkL_succ _ _ _ (by rw [hRl.out]; exact hltj))
              have hRb3 : Hid (Bls (mkL (k4 R R' i) i j)) := Lib.hid (mkL_bls hRi.out i j (by omega))
              go_wp2_with (first
                | ((with_reducible refine wl_storeOwn w13.heap.size gi nn ci j _ (mrk 0 i) ⟨gi, j * 64, none⟩ ?_ rfl ?_ hRb3.out hI3.out.1 hltj (mrk_ok 0 i (by omega) (by omega)) ?_)
                   · rfl
                   · rfl
                   intro w30 p30 o30
                   have P30 := Lib.hid p30
                   have O30 := Lib.hid o30
                   clear p30 o30))
              go_roundw
              case rel => exact ⟨j + 1, by go_num, by omega, Lib.hid ⟨by rw [hRj.out]; exact P30.out, hI3.out.2.trans (O30.out.mono fun q hq => by have hq : q = gi := hq; subst hq; rfl)⟩⟩
              case measure => simp [intOf]; omega
            · have hltj' : ¬ (j : Int) < nn := by omega
              obtain rfl : nn = j := by omega
              have hm0 : Hid (wr.ownsRow w13.heap.size 48 64 (.slice Ai nn ci) (nn + 0) (bsC (lgL nn i 0))) := Lib.hid (by
                have e : mkL (k4 R R' i) i nn = lgL nn i 0 := by
                  have := mkL_all (k4 R R' i) i
                  rw [hRl.out] at this
                  rw [this]
                  simp [lgL]
                rw [← e]
                exact hI3.out.1)
              have hw30 := Lib.hid hI3.out.2
              clear hI3
              go_wp2_with fail
              go_loopw [31, 33] (fun v31 v33 wx => ∃ j : Nat, v33 = .int .i64 j ∧ j ≤ 9 ∧ Hid (wx.ownsRow w13.heap.size 48 64 v31 (nn + j) (bsC (lgL nn i j)) ∧ Only (Own (.slice Ai nn ci)) wa wx ∧ ∀ q, v31.ownBlock = some q → (Value.slice Ai nn ci).ownBlock = some q ∨ wa.heap.size ≤ q)) (fun _ v33 _ => 9 - (intOf v33).toNat)
              case atStart => exact ⟨0, rfl, by omega, Lib.hid ⟨hm0.out, hw30.out, fun q hq => .inl hq⟩⟩
              case round =>
                obtain ⟨j, rfl, hj9, hI4⟩ := hrel
                obtain ⟨A31, c31, rfl⟩ := own_slice hI4.out.1
                by_cases hltj : j < 9
                · have hltj' : (j : Int) < 9 := by omega
                  have s7 : IntKind.i16.wrap (i : Int) = (i : Int) := wrap16 _ ⟨by omega, by omega⟩
                  have h64m : (blC (mrk 1 i)).length = 64 := by rw [blC_length]; rfl
                  have Od6 := Lib.hid ((Only.refl No wr).alloc (.cells (blC (mrk 1 i)).toArray 48))
                  have hbs6 : Hid (w13.heap.size ≤ (wr.alloc (.cells (blC (mrk 1 i)).toArray 48)).heap.size) := Lib.hid (by have := hLg.out.only.size; have := hI4.out.2.1.size; have := Od6.out.size; omega)
                  have hnew6 : Hid (Rds (wr.alloc (.cells (blC (mrk 1 i)).toArray 48)) 64 (some ⟨wr.heap.size, 0, none⟩) 1 (blC (mrk 1 i))) := Lib.hid (by have := Rds.fresh (n := 1) (size := 64) (Blk.new wr 48 (blC (mrk 1 i)).toArray) (by simp [h64m]); simpa using this)
                  have hone6 := blC_one (mrk 1 i)
                  have cT := Lib.hid (own_only hI4.out.1 Od6.out (fun _ _ => id))
                  go_wp2_with (first
                    | ((with_reducible refine wl_build1 (blC (mrk 1 i)) ?_ h64m ?_)
                       · rfl)
                    | (at_builtin
                       (refine Mm.wpList_append_any _ rfl (.tmp 191) (.tmp 195) _ rfl w13.heap.size 48 j0 _ 64 128 Try.underlying22 hj0 hy0 hy1 hy2 hyz (by omega) (.slice A31 (nn + j) c31) (nn + j) (bsC (lgL nn i j)) rfl cT.out (some ⟨wr.heap.size, 0, none⟩) 1 1 (blC (mrk 1 i)) rfl hnew6.out hone6 (by simp only [maxLen]; omega) (by omega) hbs6.out ?_)
                       intro v10 w10 hown10 hon10 hat10
                       have OW10 := Lib.hid hown10
                       have ON10 := Lib.hid hon10
                       have AT10 := Lib.hid hat10
                       clear hown10 hon10 hat10))
                  go_roundw
                  case rel =>
                    refine ⟨j + 1, by go_num, by omega, Lib.hid ⟨?_, (hI4.out.2.1.trans (Od6.out.mono fun _ h => h.elim)).then ON10.out (fun q hq => hI4.out.2.2 q hq), fun q hq => ?_⟩⟩
                    · have := OW10.out
                      rw [lgL_succ]
                      show w10.ownsRow w13.heap.size 48 64 v10 (nn + j + 1) _
                      simpa [bsC] using this
                    · rcases AT10.out with h5 | h5
                      · exact hI4.out.2.2 q (by rw [← h5]; exact hq)
                      · rw [h5] at hq
                        injection hq with hq
                        have := hI4.out.2.1.size
                        have := Od6.out.size
                        exact .inr (by omega)
                  case measure => simp [intOf]; omega
                · have hltj' : ¬ (j : Int) < 9 := by omega
                  obtain rfl : j = 9 := by omega
                  have OL6 := Lib.hid ((Only.refl No wr).alloc (.cells #[.slice A31 (nn + 9) c31] 22))
                  have hLl : Hid (wr.ownsRow w13.heap.size 22 1 (.slice A29 i c29) i ((List.range i).map us)) := Lib.hid (by
                    have h5 := hLg.out.left i (Nat.le_refl _) (by omega)
                    rw [hvs.out] at h5
                    exact own_only hLg.out.long hI4.out.2.1 (own_ne hLg.out.long h5 (by decide)))
                  have hbs7 : Hid (w13.heap.size ≤ (wr.alloc (.cells #[.slice A31 (nn + 9) c31] 22)).heap.size) := Lib.hid (by have := hLg.out.only.size; have := hI4.out.2.1.size; have := OL6.out.size; omega)
                  go_wp2_with (first
                    | (at_builtin
                       (refine Mm.wpList_append_any _ rfl (.tmp 197) (.tmp 199) _ rfl w13.heap.size 22 i2 _ 1 24 Try.underlying46 hi2 hz20 hz21 hz22 rfl (by omega) (.slice A29 i c29) i ((List.range i).map us) rfl (own_only hLl.out OL6.out (fun _ _ => id)) (some ⟨wr.heap.size, 0, none⟩) 1 1 [.slice A31 (nn + 9) c31] rfl (Rds.fresh (Blk.new _ _ _) rfl) (by simp [Value.oneCell']) (by simp only [maxLen]; omega) (by omega) hbs7.out ?_)
                       intro v23 w23 hown23 hon23 hat23
                       have H23 := Lib.hid hown23
                       have N23 := Lib.hid hon23
                       clear hown23 hon23 hat23))
                  go_roundw
                  case rel =>
                    refine ⟨i + 1, by go_num, by omega, Lib.hid ⟨_, hLg.out.step (w1 := wr) (w1' := wr.alloc (.cells #[.slice A31 (nn + 9) c31] 22)) (u := .slice A31 (nn + 9) c31) (by omega) h3.out ?_ ?_ ?_ OL6.out N23.out H23.out⟩⟩
                    · rw [hvs.out]; exact hI4.out.2.1
                    · rw [← hnn.out]; exact hI4.out.1
                    · rw [hvs.out]; exact hI4.out.2.2
                  case measure => simp [intOf]; omega
        · have hlt' : ¬ (i : Int) < 2 := by omega
          obtain rfl : i = 2 := by omega
          obtain ⟨us, hLg⟩ := hI2.out
          have hl2 : wr.ownsRow w13.heap.size 48 64 (vs 2) nR' (bsC R') := hLg.left 2 (Nat.le_refl _) (by omega)
          have hl3 : wr.ownsRow w13.heap.size 48 64 (vs 3) nR (bsC R) := hLg.left 3 (by omega) (by omega)
          obtain ⟨A2, c2, hv2⟩ := own_slice hl2
          obtain ⟨A3, c3, hv3⟩ := own_slice hl3
          obtain ⟨g19, rfl⟩ := own_addr hLg.got (by omega)
          obtain ⟨g0, g1, g2⟩ := gcC_get (k4 r1 r1') (k4 r2 r2') vs 4 2 (by omega)
          obtain ⟨g3, g4, g5⟩ := gcC_get (k4 r1 r1') (k4 r2 r2') vs 4 3 (by omega)
          rw [hv2] at g2 hl2
          rw [hv3] at g5 hl3
          have cg : Hid (∀ w', Only No wr w' → ∀ (j : Nat) (u : Value), (gcC (k4 r1 r1') (k4 r2 r2') vs 4)[j]? = some u → w'.cell? ⟨g19, j, none⟩ = some u) := Lib.hid fun w' ho j u hu => by
            obtain ⟨ad, had, hc⟩ := ((Rds.of_own hLg.got).no ho).at_ (by omega) hu
            cases had
            rw [Mm.add_plain] at hc
            exact hc
          have O39 := Lib.hid hLg.only
          have l2 := Lib.hid (Rds.of_own hl2)
          have l3 := Lib.hid (Rds.of_own hl3)
          have f18a : Hid (∀ w', Only No wr w' → Calls Try.prog 18 #[.agg #[.int .i64 r1', .int .i64 r2', .slice A2 nR' c2], .agg #[.int .i64 r1', .int .i64 r2', .slice Am nR' cm]] w' (fun e w'' => e = .returned (.bool true) ∧ Only No w' w'')) := Lib.hid fun w' ho => same18_yes w' r1' r2' A2 Am c2 cm nR' R' (by rw [← hnR'.out]; exact l2.out.no ho) (by rw [← hnR'.out]; exact Rm13.out.no (O39.out.trans ho)) hRb'.out hnR'.out (by omega)
          have f18b : Hid (∀ w', Only No wr w' → Calls Try.prog 18 #[.agg #[.int .i64 r1, .int .i64 r2, .slice A3 nR c3], .agg #[.int .i64 r1, .int .i64 r2, .slice Aw nR cw]] w' (fun e w'' => e = .returned (.bool true) ∧ Only No w' w'')) := Lib.hid fun w' ho => same18_yes w' r1 r2 A3 Aw c3 cw nR R (by rw [← hnR.out]; exact l3.out.no ho) (by rw [← hnR.out]; exact Rw13.out.no (O39.out.trans ho)) hRb.out hnR.out (by omega)
          have ckm : Hid (∀ w', Only No wr w' → (w'.cell? ⟨km, 0, none⟩ = some (.int .i64 r1') ∧ w'.cell? ⟨km, 1, none⟩ = some (.int .i64 r2') ∧ w'.cell? ⟨km, 2, none⟩ = some (.slice Am nR' cm)) ∧ w'.cell? ⟨kw, 0, none⟩ = some (.int .i64 r1) ∧ w'.cell? ⟨kw, 1, none⟩ = some (.int .i64 r2) ∧ w'.cell? ⟨kw, 2, none⟩ = some (.slice Aw nR cw)) := Lib.hid fun w' ho => by
            have x1 := Km.out.only (O39.out.trans ho) id
            have x2 := Kw.out.only (O39.out.trans ho) id
            exact ⟨⟨x1.cell 0, x1.cell 1, x1.cell 2⟩, x2.cell 0, x2.cell 1, x2.cell 2⟩
          replace hLg := Lib.hid hLg
          replace g0 := Lib.hid g0
          replace g1 := Lib.hid g1
          replace g2 := Lib.hid g2
          replace g3 := Lib.hid g3
          replace g4 := Lib.hid g4
          replace g5 := Lib.hid g5
          replace hv2 := Lib.hid hv2
          replace hv3 := Lib.hid hv3
          clear hI2 hl2 hl3
          have hS : ∀ w', Only No wr w' → (w'.cell? ⟨g19, 6, none⟩ = some (.int .i64 r1') ∧ w'.cell? ⟨g19, 7, none⟩ = some (.int .i64 r2') ∧ w'.cell? ⟨g19, 8, none⟩ = some (.slice A2 nR' c2) ∧ w'.cell? ⟨g19, 9, none⟩ = some (.int .i64 r1) ∧ w'.cell? ⟨g19, 10, none⟩ = some (.int .i64 r2) ∧ w'.cell? ⟨g19, 11, none⟩ = some (.slice A3 nR c3) ∧
              w'.cell? ⟨km, 0, none⟩ = some (.int .i64 r1') ∧ w'.cell? ⟨km, 1, none⟩ = some (.int .i64 r2') ∧ w'.cell? ⟨km, 2, none⟩ = some (.slice Am nR' cm) ∧ w'.cell? ⟨kw, 0, none⟩ = some (.int .i64 r1) ∧ w'.cell? ⟨kw, 1, none⟩ = some (.int .i64 r2) ∧ w'.cell? ⟨kw, 2, none⟩ = some (.slice Aw nR cw) ∧
              w'.cell? ⟨kg, 0, none⟩ = some (.int .i64 gw) ∧ w'.cell? ⟨kg, 1, none⟩ = some (.int .i64 gh) ∧ w'.cell? ⟨kg, 2, none⟩ = some (.slice (some ⟨Gt, 0, none⟩) n ct) ∧ w'.cell? ⟨gb, 0, none⟩ = some (.int .i64 gw) ∧ w'.cell? ⟨gb, 1, none⟩ = some (.int .i64 gh) ∧ w'.cell? ⟨gb, 2, none⟩ = some (.slice A n c) ∧
              w'.cell? ⟨kd, 0, none⟩ = some (.int .i64 gw') ∧ w'.cell? ⟨kd, 1, none⟩ = some (.int .i64 gh') ∧ w'.cell? ⟨kd, 2, none⟩ = some (.slice (some ⟨Gt', 0, none⟩) n' ct') ∧ w'.cell? ⟨gb + 1, 0, none⟩ = some (.int .i64 gw') ∧ w'.cell? ⟨gb + 1, 1, none⟩ = some (.int .i64 gh') ∧ w'.cell? ⟨gb + 1, 2, none⟩ = some (.slice A' n' c')) := fun w' ho => by
            obtain ⟨⟨a1, a2, a3⟩, ⟨b1, b2, b3⟩, ⟨d1, d2, d3⟩, e1, e2, e3⟩ := hcg.out w' (O39.out.trans ho)
            obtain ⟨⟨m1, m2, m3⟩, q1, q2, q3⟩ := ckm.out w' ho
            exact ⟨cg.out w' ho 6 _ g0.out, cg.out w' ho 7 _ g1.out, cg.out w' ho 8 _ g2.out, cg.out w' ho 9 _ g3.out, cg.out w' ho 10 _ g4.out, cg.out w' ho 11 _ g5.out, m1, m2, m3, q1, q2, q3, a1, a2, a3, b1, b2, b3, d1, d2, d3, e1, e2, e3⟩
          have q9 : Only No wr wr := Only.refl _ _
          go_upto_region 39 with (fail)
          go_cut [228] from 201 to 227 (fun s228 wx => s228 = .bool false ∧ Hid (Only No wr wx))
          case first =>
            go_region_held3 (fun w' => Only No wr w' ∧ (w'.cell? ⟨g19, 6, none⟩ = some (.int .i64 r1') ∧ w'.cell? ⟨g19, 7, none⟩ = some (.int .i64 r2') ∧ w'.cell? ⟨g19, 8, none⟩ = some (.slice A2 nR' c2) ∧ w'.cell? ⟨g19, 9, none⟩ = some (.int .i64 r1) ∧ w'.cell? ⟨g19, 10, none⟩ = some (.int .i64 r2) ∧ w'.cell? ⟨g19, 11, none⟩ = some (.slice A3 nR c3) ∧
              w'.cell? ⟨km, 0, none⟩ = some (.int .i64 r1') ∧ w'.cell? ⟨km, 1, none⟩ = some (.int .i64 r2') ∧ w'.cell? ⟨km, 2, none⟩ = some (.slice Am nR' cm) ∧ w'.cell? ⟨kw, 0, none⟩ = some (.int .i64 r1) ∧ w'.cell? ⟨kw, 1, none⟩ = some (.int .i64 r2) ∧ w'.cell? ⟨kw, 2, none⟩ = some (.slice Aw nR cw) ∧
              w'.cell? ⟨kg, 0, none⟩ = some (.int .i64 gw) ∧ w'.cell? ⟨kg, 1, none⟩ = some (.int .i64 gh) ∧ w'.cell? ⟨kg, 2, none⟩ = some (.slice (some ⟨Gt, 0, none⟩) n ct) ∧ w'.cell? ⟨gb, 0, none⟩ = some (.int .i64 gw) ∧ w'.cell? ⟨gb, 1, none⟩ = some (.int .i64 gh) ∧ w'.cell? ⟨gb, 2, none⟩ = some (.slice A n c) ∧
              w'.cell? ⟨kd, 0, none⟩ = some (.int .i64 gw') ∧ w'.cell? ⟨kd, 1, none⟩ = some (.int .i64 gh') ∧ w'.cell? ⟨kd, 2, none⟩ = some (.slice (some ⟨Gt', 0, none⟩) n' ct') ∧ w'.cell? ⟨gb + 1, 0, none⟩ = some (.int .i64 gw') ∧ w'.cell? ⟨gb + 1, 1, none⟩ = some (.int .i64 gh') ∧ w'.cell? ⟨gb + 1, 2, none⟩ = some (.slice A' n' c')))
              (first
                | (with_reducible refine ⟨?_, hS _ ?_⟩ <;> (with_reducible first | exact q9 | exact q9.drew | exact q10 | exact q11 | exact q12 | exact q13 | exact q10.drew | exact q11.drew | exact q12.drew | exact q13.drew)))
              (first
                | (go_at_call 18; with_reducible refine (f18a.out _ (by with_reducible first | exact q9 | exact q9.drew)).mono ?_; rintro e w10 ⟨rfl, o10⟩; have q10 : Only No wr w10 := (q9.drew).trans o10)
                | (go_at_call 18; with_reducible refine (f18b.out _ q10).mono ?_; rintro e w11 ⟨rfl, o11⟩; have q11 : Only No wr w11 := q10.trans o11)
                | (go_at_call 14; with_reducible refine (h14g.out _ (O39.out.trans q11)).mono ?_; rintro e w12 ⟨rfl, o12⟩; have q12 : Only No wr w12 := q11.trans o12)
                | (go_at_call 14; with_reducible refine (h14d.out _ (O39.out.trans q12)).mono ?_; rintro e w13' ⟨rfl, o13⟩; have q13 : Only No wr w13' := q12.trans o13))
            all_goals go_wp2_with fail
            all_goals go_meet
            all_goals exact ⟨by first | rfl | simp, Lib.hid (by first | exact q13 | exact q13.drew)⟩
          case rest =>
            obtain ⟨rfl, hO⟩ := hcut
            obtain ⟨we, hwe⟩ : ∃ wo : World, wo = wr := ⟨_, rfl⟩
            rw [← hwe] at hO hLg cg O39
            clear hwe hS q9 f18a f18b l2 l3 ckm g0 g1 g2 g3 g4 g5 hv2 hv3
            obtain ⟨A29, c29, rfl⟩ := own_slice hLg.out.long
            obtain ⟨g29, rfl⟩ := own_addr hLg.out.long (by omega)
            go_wp2_with fail
            go_loopw [34] (fun v34 wx => ∃ i : Nat, v34 = .int .i64 i ∧ i ≤ 2 ∧ Hid (Only No we wx)) (fun v34 _ => 2 - (intOf v34).toNat)
            case atStart => exact ⟨0, rfl, by omega, hO⟩
            case round =>
              obtain ⟨i, rfl, hi, hI5⟩ := hrel
              by_cases hlt : i < 2
              · have hlt' : (i : Int) < 2 := by omega
                have hnb : k4 nR nR' i ≤ 10000 := by
                  by_cases hk : i = 1 ∨ i = 2
                  · rw [k4_o _ _ hk]; omega
                  · rw [k4_s _ _ (fun h => hk (.inl h)) (fun h => hk (.inr h))]; omega
                obtain ⟨Ai, ci, hvs⟩ := hvsl.out i (by omega)
                have hdi := hLg.out.done i hlt
                obtain ⟨Au, cu, hus⟩ := own_slice hdi
                have hcg := fun w' ho => cg.out w' ho (i * 3 + 2) _ (gcC_get (k4 r1 r1') (k4 r2 r2') vs 4 i (by omega)).2.2
                have hcl : ∀ w', Only No we w' → w'.cell? ⟨g29, i, none⟩ = some (us i) := fun w' ho => by
                  obtain ⟨ad, had, hc⟩ := ((Rds.of_own hLg.out.long).no ho).at_ (i := i) (u := us i) (by omega) (by
                    rcases (by omega : i = 0 ∨ i = 1) with rfl | rfl <;> rfl)
                  cases had
                  rw [Mm.add_plain] at hc
                  exact hc
                generalize k4 nR nR' i = nn at *
                rw [hus] at hdi hcl
                rw [hvs] at hcg
                have hdr := Lib.hid (Rds.of_own hdi)
                replace hcl := Lib.hid hcl
                replace hcg := Lib.hid hcg
                clear hdi hus hvs
                have s7 : IntKind.i16.wrap (i : Int) = (i : Int) := wrap16 _ ⟨by omega, by omega⟩
                have s8 : IntKind.i64.wrap (i : Int) = (i : Int) := IntWalk.i64_in _ (by omega)
                go_wp2_with fail
                go_loopw [35] (fun v35 wx => ∃ j : Nat, v35 = .int .i64 j ∧ j ≤ nn + 9 ∧ Hid (Only No we wx)) (fun v35 _ => nn + 9 - (intOf v35).toNat)
                case atStart => exact ⟨0, rfl, by omega, hI5⟩
                case round =>
                  obtain ⟨j, rfl, hj, hI6⟩ := hrel
                  have y0 := hcl.out wr hI6.out
                  by_cases hltj : j < nn + 9
                  · have hltj' : (j : Int) < (nn : Int) + 9 := by omega
                    have hlb : Hid (Bls (lgL nn i 9)) := Lib.hid (lgL_bls nn i 9 (by omega))
                    have hll : (lgL nn i 9).length = nn + 9 := lgL_len nn i 9
                    have h64 := mrk_ok 0 i (by omega) (by omega)
                    have hb64 : (blC (mrk 0 i)).length = 64 := by rw [blC_length]; rfl
                    have hgt := lgL_get nn i 9 j hltj
                    have y1 := hcg.out wr hI6.out
                    go_upto_region 48 with (first
                      | ((with_reducible refine wl_store48 wr.heap.size _ (blC (mrk 0 i)) ?_ ?_ (Blk.new wr 48 _) ?_ hb64 (blC_one _) ?_)
                         · rfl
                         · rfl
                         · rfl
                         intro w5 b5 o5
                         have B5 := Lib.hid b5
                         have O5 : Hid (Only No wr w5) := Lib.hid (((Only.refl No wr).alloc _).then o5 (fun j h => .inr (by have h : j = wr.heap.size := h; omega)))
                         clear b5 o5))
                    clear y0 y1
                    obtain ⟨G, hG⟩ : ∃ G, G = wr.heap.size := ⟨_, rfl⟩
                    rw [← hG] at B5 ⊢
                    have hGw : wr.heap.size ≤ G := by omega
                    replace hG := Lib.hid hG
                    have OE5 := Lib.hid (hI6.out.trans O5.out)
                    have y1 := hcg.out w5 OE5.out
                    by_cases hjn : nn ≤ j
                    · have hjn' : (nn : Int) ≤ (j : Int) := by omega
                      rw [if_neg (by omega)] at hgt
                      have z0 := B5.out.cell 0
                      have zf := B5.out.frozen 0
                      have hz1 : (blC (mrk 0 i)).toArray[0]? = some (.int .i16 0) := rfl
                      rw [hz1] at z0
                      clear hz1
                      go_upto_region 50 with (fail)
                      generalize hw6 : w5.setCell ⟨G, 0, none⟩ (.int .i16 1) = w6
                      have B6 : Hid (Blk w6 G 48 (blC (mrk 1 i)).toArray) := Lib.hid (by rw [← hw6]; exact B5.out.set 0 _)
                      have OE6 : Hid (Only No we w6) := Lib.hid (by rw [← hw6]; exact (OE5.out.setCell (p := ⟨G, 0, none⟩) (.inr (by have := hI6.out.size; show we.heap.size ≤ G; omega)) _))
                      clear hw6 z0 zf y1
                      have hmk : (mrk 1 i).length = 64 := rfl
                      obtain ⟨b, hbm⟩ : ∃ b, b = mrk 1 i := ⟨_, rfl⟩
                      rw [← hbm] at hgt B6 hmk
                      replace hbm := Lib.hid hbm
                      obtain ⟨adu, rfl, hcu⟩ := bl_cells hlb.out (by rw [hll]; exact hdr.out.no OE6.out) j (by omega)
                      rw [hgt] at hcu
                      have h64b : (blC b).length = 64 := by rw [blC_length, hmk]
                      have y2 := hcl.out w6 OE6.out
                      have hcu6 := Lib.hid hcu
                      clear hcu
                      refine wp_region_quiet_lit (by kernel_rfl) (by kernel_rfl) ?_
                      repeat (first
                        | ((with_reducible refine wq_load48 (adu.add (j * 64)) (blC b) ?_ h64b (fun w' hw' => ?_) ?_)
                           · rfl
                           · obtain ⟨k, rfl⟩ := hw'
                             exact hcu6.out)
                        | ((with_reducible refine wq_load48 ⟨G, 0, none⟩ (blC b) ?_ h64b (fun w' hw' => ?_) ?_)
                           · rfl
                           · obtain ⟨k, rfl⟩ := hw'
                             intro j' v hv
                             rw [Mm.add_plain]
                             exact (B6.out.cell j').trans (by simpa using hv))
                        | ((with_reducible refine wq_neq48 b b ?_ ?_ hmk hmk ?_)
                           · rfl
                           · rfl)
                        | quiet_step (fail))
                      refine wpQuiet_nil ?_
                      intro _ hw'
                      obtain ⟨nq, hw''⟩ := hw'
                      subst hw''
                      have hdd : (!decide (b = b)) = false := by simp
                      go_wp2_with fail
                      go_roundw
                      case rel => exact ⟨j + 1, by go_num, by omega, Lib.hid (OE6.out.drewN _)⟩
                      case measure => simp [intOf]; omega
                    · have hjn' : ¬ (nn : Int) ≤ (j : Int) := by omega
                      rw [if_pos (by omega)] at hgt
                      clear y1
                      have y1 := hcg.out w5 OE5.out
                      go_upto_region 50 with (fail)
                      obtain ⟨w6, hw6⟩ : ∃ x, x = w5 := ⟨_, rfl⟩
                      rw [← hw6] at B5 OE5 ⊢
                      clear hw6
                      have B6 := B5
                      have OE6 := OE5
                      clear y1
                      have hmk : (mrk 0 i).length = 64 := rfl
                      obtain ⟨b, hbm⟩ : ∃ b, b = mrk 0 i := ⟨_, rfl⟩
                      rw [← hbm] at hgt B6 hmk
                      replace hbm := Lib.hid hbm
                      obtain ⟨adu, rfl, hcu⟩ := bl_cells hlb.out (by rw [hll]; exact hdr.out.no OE6.out) j (by omega)
                      rw [hgt] at hcu
                      have h64b : (blC b).length = 64 := by rw [blC_length, hmk]
                      have y2 := hcl.out w6 OE6.out
                      have hcu6 := Lib.hid hcu
                      clear hcu
                      refine wp_region_quiet_lit (by kernel_rfl) (by kernel_rfl) ?_
                      repeat (first
                        | ((with_reducible refine wq_load48 (adu.add (j * 64)) (blC b) ?_ h64b (fun w' hw' => ?_) ?_)
                           · rfl
                           · obtain ⟨k, rfl⟩ := hw'
                             exact hcu6.out)
                        | ((with_reducible refine wq_load48 ⟨G, 0, none⟩ (blC b) ?_ h64b (fun w' hw' => ?_) ?_)
                           · rfl
                           · obtain ⟨k, rfl⟩ := hw'
                             intro j' v hv
                             rw [Mm.add_plain]
                             exact (B6.out.cell j').trans (by simpa using hv))
                        | ((with_reducible refine wq_neq48 b b ?_ ?_ hmk hmk ?_)
                           · rfl
                           · rfl)
                        | quiet_step (fail))
                      refine wpQuiet_nil ?_
                      intro _ hw'
                      obtain ⟨nq, hw''⟩ := hw'
                      subst hw''
                      have hdd : (!decide (b = b)) = false := by simp
                      go_wp2_with fail
                      go_roundw
                      case rel => exact ⟨j + 1, by go_num, by omega, Lib.hid (OE6.out.drewN _)⟩
                      case measure => simp [intOf]; omega
                  · have hltj' : ¬ (j : Int) < (nn : Int) + 9 := by omega
                    go_wp2_with fail
                    go_roundw
                    case rel => exact ⟨i + 1, by go_num, by omega, hI6⟩
                    case measure => simp [intOf]; omega
              · have hlt' : ¬ (i : Int) < 2 := by omega
                obtain rfl : i = 2 := by omega
                have OX := Lib.hid (O39.out.trans hI5.out)
                have hTg := Lib.hid (Tg.out.only OX.out id)
                obtain ⟨wf, hwf⟩ : ∃ wo : World, wo = wr := ⟨_, rfl⟩
                rw [← hwf] at OX hTg ⊢
                clear hwf hI5 hLg cg O39 hO
                go_wp2_with fail
                go_loopw [37] (fun v37 wx => ∃ i : Nat, v37 = .int .i64 i ∧ i ≤ n ∧ Hid (Row wx Gt (rvL bs i ++ marks 8) ∧ Only (One Gt) wf wx)) (fun v37 _ => n - (intOf v37).toNat)
                case atStart => exact ⟨0, rfl, by omega, Lib.hid ⟨by rw [rvL_zero]; exact hTg.out, Only.refl _ _⟩⟩
                case round =>
                  obtain ⟨i, rfl, hi, hI7⟩ := hrel
                  have OWx : Hid (Only No w wr) := Lib.hid ((OA.out.trans OX.out).then hI7.out.2 (fun j h => .inr (by have h : j = Gt := h; omega)))
                  have O5x : Hid (Only No w5 wr) := Lib.hid ((O513.out.trans OX.out).then hI7.out.2 (fun j h => .inr (by have h : j = Gt := h; omega)))
                  have Bk := Lib.hid ((Kg.out.only OX.out id).only hI7.out.2 (fun h => by have h : kg = Gt := h; omega))
                  have By := Lib.hid ((Y.out.only OX.out id).only hI7.out.2 (fun h => by have h : gb = Gt := h; omega))
                  have k0 := Bk.out.cell 0
                  have k1 := Bk.out.cell 1
                  have k2 := Bk.out.cell 2
                  have b2 := By.out.cell 2
                  simp only [List.getElem?_toArray, List.getElem?_cons_zero, List.getElem?_cons_succ] at k0 k1 k2 b2
                  by_cases hlt : i < n
                  · have hlt' : (i : Int) < n := by omega
                    obtain ⟨q, hq⟩ : ∃ q, q = n - 1 - i := ⟨_, rfl⟩
                    have hqn : q < n := by omega
                    have hqi : (q : Int) < n := by omega
                    have t1 : IntKind.i64.wrap ((n : Int) - 1) = (n : Int) - 1 := IntWalk.i64_in _ (by omega)
                    have t2 : (n : Int) - 1 - i = (q : Int) := by omega
                    have t3 : IntKind.i64.wrap ((n : Int) - 1 - i) = (q : Int) := by rw [t2]; exact IntWalk.i64_in _ (by omega)
                    have t4 : IntKind.i64.wrap (q : Int) = (q : Int) := IntWalk.i64_in _ (by omega)
                    have hlb : q < bs.length := by rw [hl.out]; exact hqn
                    obtain ⟨adz, rfl, hcz⟩ := bl_cells hb.out (show Rds wr.drew 64 A bs.length (bsC bs) by rw [hl.out]; exact hA.out.no OWx.out.drew) q hlb
                    have h64 := bl_len hb.out q hlb
                    have hs : Hid (rvL bs (i + 1) ++ marks 8 = (rvL bs i ++ marks 8).set i (bs.getD q [])) := Lib.hid (by
                      rw [rvL_succ bs i (by rw [hl.out]; exact hlt), hl.out, ← hq, List.set_append_left _ _ (by rw [rvL_len _ _ (by rw [hl.out]; omega), hl.out]; exact hlt)])
                    have hlR : i < (rvL bs i ++ marks 8).length := by rw [List.length_append, rvL_len _ _ (by rw [hl.out]; omega), hl.out]; omega
                    obtain ⟨b, hbb⟩ : ∃ b, b = bs.getD q [] := ⟨_, rfl⟩
                    rw [← hbb] at hcz h64 hs
                    have hb64 : b.length = 64 := by rw [blC_length] at h64; exact h64
                    replace hcz := Lib.hid hcz
                    replace hq := Lib.hid hq
                    replace hbb := Lib.hid hbb
                    replace t2 := Lib.hid t2
                    go_upto_region 55 with (fail)
                    refine wp_region_still_tail 15 (by kernel_rfl) (by kernel_rfl) ?_
                    simp only [List.take_succ_cons, List.take_zero, List.drop_succ_cons, List.drop_zero]
                    have k2' : wr.drew.cell? ⟨kg, 2, none⟩ = some (.slice (some ⟨Gt, 0, none⟩) n ct) := k2
                    have b2' : wr.drew.cell? ⟨gb, 2, none⟩ = some (.slice (some adz) n c) := b2
                    have hRd : Hid (Row wr.drew Gt (rvL bs i ++ marks 8)) := Lib.hid (hI7.out.1.only (Only.refl No wr).drew id)
                    have hOd : Hid (Only (One Gt) wf wr.drew) := Lib.hid (hI7.out.2.drew)
                    change wpStill _ _ wr.drew _ _ _
                    repeat (first
                      | ((with_reducible refine ws_load48 (adz.add (q * 64)) (blC b) ?_ h64 hcz.out ?_)
                         · rfl)
                      | still_step)
                    refine wpStill_nil ?_
                    change wpList _ _ _ _ _ wr.drew
                    generalize wr.drew = wd at *
                    go_wp2_with (first
                      | ((with_reducible refine wl_storeRow Gt i _ b ⟨Gt, i * 64, none⟩ ?_ rfl ?_ hRd.out hlR hb64 ?_)
                         · rfl
                         · rfl
                         intro w10 p10 o10
                         have P10 := Lib.hid p10
                         have O10 := Lib.hid o10
                         clear p10 o10))
                    go_roundw
                    case rel => exact ⟨i + 1, by go_num, by omega, Lib.hid ⟨by rw [hs.out]; exact P10.out, hOd.out.trans O10.out⟩⟩
                    case measure => simp [intOf]; omega
                  · have hlt' : ¬ (i : Int) < n := by omega
                    obtain rfl : n = i := by omega
                    obtain ⟨rs, hrs⟩ : ∃ rs, rs = bs.reverse := ⟨_, rfl⟩
                    have hl2 : rs.length = n := by rw [hrs, List.length_reverse, hl.out]
                    have hb2 : Hid (Bls rs) := Lib.hid (by rw [hrs]; exact bls_reverse hb.out)
                    have hr2 : Hid (Rds wr 64 (some ⟨Gt, 0, none⟩) n (bsC rs)) := Lib.hid (by
                      have e : rvL bs n = rs := by rw [hrs, ← hl.out]; exact rvL_all bs
                      have h5 := hI7.out.1
                      rw [e] at h5
                      have := h5.rds (bls_append hb2.out (bls_marks 8)) (n := n) (by rw [List.length_append]; omega)
                      rwa [List.take_append_of_le_length (by omega), List.take_of_length_le (by omega)] at this)
                    replace hrs := Lib.hid hrs
                    have h16 := fill16R wr W H l rs gw gh (some ⟨Gt, 0, none⟩) Af ct n N cf hfl hl2 hN.out.symm hr2.out hb2.out (FR5.out.no O5x.out) (by omega) (by omega)
                    have hsz : w13.heap.size ≤ wr.heap.size := Nat.le_trans OX.out.size hI7.out.2.size
                    have M13 : Hid (MapAt wr w13.heap.size g W H l) := Lib.hid ((M5.out.no O5x.out).mono O513.out.size)
                    replace hl2 := Lib.hid hl2
                    go_upto_region 57 with (go_at_call 16; refine h16.mono ?_; clear h16; rintro e w40 ⟨vz, rfl, o40, hvz⟩; obtain ⟨Az, cz, rfl⟩ := own_slice hvz; have O40 := Lib.hid o40; have V40 := Lib.hid hvz; clear o40 hvz)
                    obtain ⟨fz, hfz⟩ : ∃ f, f = fitB gw gh W H rs.length := ⟨_, rfl⟩
                    rw [← hfz] at V40 ⊢
                    obtain ⟨Z, hZ⟩ : ∃ R, R = rL fz W H l rs := ⟨_, rfl⟩
                    rw [← hZ] at V40 ⊢
                    obtain ⟨z1, hz1⟩ : ∃ r, r = rI fz W := ⟨_, rfl⟩
                    obtain ⟨z2, hz2⟩ : ∃ r, r = rI fz H := ⟨_, rfl⟩
                    obtain ⟨ze, hze⟩ : ∃ r, r = rE fz := ⟨_, rfl⟩
                    rw [← hz1, ← hz2, ← hze]
                    have hZb : Hid (Bls Z) := Lib.hid (by rw [hZ]; exact rL_bls fz (by omega) (by omega) l hb2.out (fun h => by rw [hfz] at h; exact (of_decide_eq_true h).2.2))
                    obtain ⟨nZ, hnZ⟩ : ∃ k, k = Z.length := ⟨_, rfl⟩
                    rw [← hnZ] at V40 ⊢
                    have hnZb : nZ ≤ 10000 := by
                      rw [hnZ, hZ]
                      cases h : fz
                      · exact Nat.zero_le _
                      · have h2 : fitB gw gh W H rs.length = true := by rw [← hfz, h]
                        have h3 : rs.length = W * H := (of_decide_eq_true h2).2.2
                        have := hN.out
                        show (flL W H l rs).length ≤ _
                        rw [flL_len]
                        omega
                    have h17 : Hid (∀ w', Only No wr w' → Calls Try.prog 17 #[.agg #[.int .i64 gw, .int .i64 gh, .slice (some ⟨Gt, 0, none⟩) n ct], P g] w' fun e w'' => ∃ v, e = .returned (.tuple #[.agg #[.int .i64 z1, .int .i64 z2, v], .int .i64 ze]) ∧ Only No w' w'' ∧ w''.ownsRow w'.heap.size 48 64 v nZ (bsC Z)) := Lib.hid fun w' ho => by
                      refine (fill17R w' w13.heap.size W H l rs gw gh (some ⟨Gt, 0, none⟩) ct g n hl2.out (hr2.out.no ho) (fun ad e => by cases e; exact hGt) hb2.out (M13.out.no ho) (Nat.le_trans hsz ho.size)).mono ?_
                      rintro e w'' ⟨v, rfl, h1, h2⟩
                      rw [← hfz] at h2 ⊢
                      rw [← hZ, ← hnZ] at h2
                      rw [← hz1, ← hz2, ← hze]
                      exact ⟨v, rfl, h1, h2⟩
                    replace hfz := Lib.hid hfz
                    replace hZ := Lib.hid hZ
                    replace hz1 := Lib.hid hz1
                    replace hz2 := Lib.hid hz2
                    replace hze := Lib.hid hze
                    replace hnZ := Lib.hid hnZ
                    generalize hw41 : w40.alloc (Obj.cells #[.int .i64 z1, .int .i64 z2, .slice Az nZ cz] 24) = w41
                    have b41 : Hid (Blk w41 w40.heap.size 24 #[.int .i64 z1, .int .i64 z2, .slice Az nZ cz]) := Lib.hid (by rw [← hw41]; exact Blk.new _ _ _)
                    have o41 : Hid (Only No w40 w41) := Lib.hid (by rw [← hw41]; exact (Only.refl No w40).alloc _)
                    obtain ⟨kz, hkz⟩ : ∃ k, k = w40.heap.size := ⟨_, rfl⟩
                    rw [← hkz] at b41 ⊢
                    replace hkz := Lib.hid hkz
                    clear hw41 k0 k1 k2 b2
                    have O41 := Lib.hid (O40.out.trans o41.out)
                    have Bk2 := Lib.hid (Bk.out.only O41.out id)
                    have k0 := Bk2.out.cell 0
                    have k1 := Bk2.out.cell 1
                    have k2 := Bk2.out.cell 2
                    simp only [List.getElem?_toArray, List.getElem?_cons_zero, List.getElem?_cons_succ] at k0 k1 k2
                    go_upto_region 58 with (go_at_call 17; refine (h17.out _ O41.out).mono ?_; rintro e w42 ⟨vy, rfl, o42, hvy⟩; obtain ⟨Ay, cy, rfl⟩ := own_slice hvy; have O42 := Lib.hid o42; have V42 := Lib.hid hvy; clear o42 hvy)
                    generalize hw43 : w42.alloc (Obj.cells #[.int .i64 z1, .int .i64 z2, .slice Ay nZ cy] 24) = w43
                    have b43 : Hid (Blk w43 w42.heap.size 24 #[.int .i64 z1, .int .i64 z2, .slice Ay nZ cy]) := Lib.hid (by rw [← hw43]; exact Blk.new _ _ _)
                    have o43 : Hid (Only No w42 w43) := Lib.hid (by rw [← hw43]; exact (Only.refl No w42).alloc _)
                    obtain ⟨ky, hky⟩ : ∃ k, k = w42.heap.size := ⟨_, rfl⟩
                    rw [← hky] at b43 ⊢
                    replace hky := Lib.hid hky
                    clear hw43 k0 k1 k2
                    have O43 := Lib.hid (O42.out.trans o43.out)
                    have y0 := b43.out.cell 0
                    have y1 := b43.out.cell 1
                    have y2 := b43.out.cell 2
                    have bx := b41.out.only O43.out id
                    have x0 := bx.cell 0
                    have x1 := bx.cell 1
                    have x2 := bx.cell 2
                    simp only [List.getElem?_toArray, List.getElem?_cons_zero, List.getElem?_cons_succ] at y0 y1 y2 x0 x1 x2
                    replace bx := Lib.hid bx
                    have h18 := same18_yes w43 z1 z2 Ay Az cy cz nZ Z (by rw [← hnZ.out]; exact Rds.of_own (own_only V42.out o43.out (fun _ _ => id))) (by rw [← hnZ.out]; exact (Rds.of_own V40.out).no (o41.out.trans O43.out)) hZb.out hnZ.out (by omega)
                    unfold gridI at h18
                    have dd : (ze == ze) = true := by simp
                    go_wp2_with (go_at_call 18; refine h18.mono ?_; clear h18; rintro e w44 ⟨rfl, o44⟩)
                    go_ret
                    exact ⟨rfl, OWx.out.trans (O41.out.trans (O43.out.trans o44))⟩
end Go.Proofs.Ytnepchdpgbdogaa.Ct
