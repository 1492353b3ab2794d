/- ConcealDC: the walk. -/
import Derived.Test.YtnepchdpgbdogaaRt
import Derived.Test.YtnepchdpgbdogaaDw
namespace Go.Proofs.Ytnepchdpgbdogaa.Ct
open Go.ChangeShapes Go.WideShapes Go.RowKit Mm
theorem dc12R (w : World) (B W H : Nat) (l : List Bool) (bs : List (List Int)) (gw gh : Int) (A : Option Addr) (c g n : Nat) (hl : bs.length = n) (hr : Rds w 64 A n (bsC bs)) (hf : ∀ ad, A = some ad → ad.block < B) (hb : Bls bs) (hm : MapAt w B g W H l) (hB : B ≤ w.heap.size) (x y : Int) :
    Calls Try.prog 12 #[.agg #[.int .i64 gw, .int .i64 gh, .slice A n c], P g, .int .i64 x, .int .i64 y] w fun e w' => e = .returned (.int .i16 (dcR gw gh W H l bs x y)) ∧ Only No w w' := by
  unfold dcR
  by_cases h : gw = W ∧ gh = H ∧ bs.length = W * H
  · rw [if_pos h]
    obtain ⟨rfl, rfl, hn⟩ := h
    subst hl
    cases hi : inB W H x y
    · have hz : dcP W H l (dcs bs) x y = 0 := by unfold dcP; rw [if_neg (by rw [hi]; decide)]
      rw [hz]
      exact dc12_out w B W H l A bs.length c g hm hn hB x y hi
    · exact dc12_in w B W H l bs A c g ⟨hr, hf, hn, hb⟩ hm hB x y hi
  · rw [if_neg h]
    exact dc12_unfit w B W H l gw gh A n c g hm (by rw [← hl]; exact h) hB x y
def plC (ps : List (Int × Int)) : List Value := ps.flatMap fun p => [.int .i64 p.1, .int .i64 p.2]
theorem plC_len (ps : List (Int × Int)) : (plC ps).length = ps.length * 2 := by
  induction ps with
  | nil => rfl
  | cons p ps ih =>
    have : plC (p :: ps) = [.int .i64 p.1, .int .i64 p.2] ++ plC ps := rfl
    rw [this, List.length_append, ih, List.length_cons]
    simp
    omega
theorem plC_at (ps : List (Int × Int)) (i : Nat) (hi : i < ps.length) : (plC ps)[i * 2]? = some (.int .i64 (ps.getD i (0, 0)).1) ∧ (plC ps)[i * 2 + 1]? = some (.int .i64 (ps.getD i (0, 0)).2) := by
  induction ps generalizing i with
  | nil => simp at hi
  | cons p ps ih =>
    have e : plC (p :: ps) = .int .i64 p.1 :: .int .i64 p.2 :: plC ps := rfl
    cases i with
    | zero => simp [e]
    | succ i =>
      have := ih i (by simpa using hi)
      rw [e, show (i + 1) * 2 = i * 2 + 1 + 1 by omega]
      simpa using this
def PlOk (ps : List (Int × Int)) : Prop := ∀ i, (-9223372036854775808 ≤ (ps.getD i (0, 0)).1 ∧ (ps.getD i (0, 0)).1 ≤ 9223372036854775807) ∧ (-9223372036854775808 ≤ (ps.getD i (0, 0)).2 ∧ (ps.getD i (0, 0)).2 ≤ 9223372036854775807)
set_option maxRecDepth 100000 in
set_option maxHeartbeats 3200000 in
theorem conceal3 (w : World) (gw gh : Int) (A : Option Addr) (c n : Nat) (sw sh : Int) (F : Option Addr) (fc : Nat) (fl : List Bool) (bs : List (List Int)) (hl : bs.length = n) (hF : Rds w 1 F fl.length (boC fl)) (hA : Rds w 64 A n (bsC bs)) (hb : Bls bs) (hsw : -9223372036854775808 ≤ sw ∧ sw ≤ 9223372036854775807) (hsh : -9223372036854775808 ≤ sh ∧ sh ≤ 9223372036854775807) (hn : n ≤ 1048576)
    (Z : Option Addr) (zc m : Nat) (ps : List (Int × Int)) (hpl : ps.length = m) (hZ : Rds w 2 Z m (plC ps)) (hp : PlOk ps) (hm : m ≤ 1048576) :
    Calls Try.prog 3 #[sceneV gw gh A n c sw sh F fl.length fc, .slice Z m zc] w fun e w' => e = .returned (.bool true) ∧ Only No w w' := by
  have hW := bnd_le sw
  have hH := bnd_le sh
  replace hA := Lib.hid hA
  replace hb := Lib.hid hb
  replace hsw := Lib.hid hsw
  replace hsh := Lib.hid hsh
  replace hZ := Lib.hid hZ
  replace hp := Lib.hid hp
  replace hpl := Lib.hid hpl
  replace hl := Lib.hid hl
  replace hF := Lib.hid hF
  unfold sceneV
  go_enter Try.func3, Try.ntmps3
  go_upto_region 1 with (fail)
  generalize hw1 : (w.alloc (Obj.cells #[.int .i64 gw, .int .i64 gh, .slice A n c, .int .i64 sw, .int .i64 sh, .slice F fl.length fc] 27)) = w1
  have o1 : Hid (Only No w w1) := Lib.hid (by rw [← hw1]; exact (Only.refl No w).alloc _)
  have b1 : Hid (Blk w1 w.heap.size 27 #[.int .i64 gw, .int .i64 gh, .slice A n c, .int .i64 sw, .int .i64 sh, .slice F fl.length fc]) := Lib.hid (by rw [← hw1]; exact Blk.new _ _ _)
  clear hw1
  have h9 := flags9 w1 gw gh A n c sw sh F fc fl (hF.out.no o1.out) hsw.out hsh.out
  unfold sceneV at h9
  have c0 := b1.out.cell 0
  have c1 := b1.out.cell 1
  have c2 := b1.out.cell 2
  have c3 := b1.out.cell 3
  have c4 := b1.out.cell 4
  have c5 := b1.out.cell 5
  simp only [List.getElem?_toArray, List.getElem?_cons_zero, List.getElem?_cons_succ] at c0 c1 c2 c3 c4 c5
  go_upto_region 2 with (go_at_call 9; refine h9.mono ?_; clear h9; rintro e w2 ⟨v, rfl, hv, ho⟩; obtain ⟨Af, cf, rfl⟩ := own_slice hv; have F2 := Lib.hid (Rds.of_own hv); have O2 := Lib.hid ho; clear hv ho)
  have hfl : (flg fl (bnd sw * bnd sh)).length = bnd sw * bnd sh := flg_len _ _
  generalize hww : bnd sw = W at *
  generalize hhh : bnd sh = H at *
  have hmul : W * H ≤ 100 * 100 := Nat.mul_le_mul hW hH
  generalize flg fl (W * H) = l at *
  obtain ⟨N, hN⟩ : ∃ N, W * H = N := ⟨_, rfl⟩
  rw [hN] at hfl F2 hmul ⊢
  have h10 := laid10n w2 W H Af cf N l hfl F2.out (by omega) (by omega) (by rw [hfl, hN])
  replace hN := Lib.hid hN
  have B2 := Lib.hid (b1.out.only O2.out id)
  clear c0 c1 c2 c3 c4 c5
  go_upto_region 5 with (go_at_call 10; refine h10.mono ?_; clear h10; rintro e w3 ⟨g, rfl, o3, hg3, hm3⟩; have O3 := Lib.hid o3; have M3 := Lib.hid hm3; clear o3 hg3 hm3)
  have B3 := Lib.hid (B2.out.only O3.out id)
  have OA := Lib.hid ((o1.out.trans O2.out).trans O3.out)
  have c0 := B3.out.cell 0
  have c1 := B3.out.cell 1
  have c2 := B3.out.cell 2
  simp only [List.getElem?_toArray, List.getElem?_cons_zero, List.getElem?_cons_succ] at c0 c1 c2
  have h11 := twin11n w3 gw gh A c n bs hl.out (hA.out.no OA.out) (by rw [hl.out]; exact hn)
  unfold gridI at h11
  go_upto_region 6 with (go_at_call 11; refine h11.mono ?_; clear h11; rintro e w4 ⟨Gt, ct, rfl, o4, hct, hown4⟩; have O4 := Lib.hid o4; have T4 := Lib.hid hown4; clear o4 hown4)
  generalize hw5 : w4.alloc (Obj.cells #[.int .i64 gw, .int .i64 gh, .slice (some ⟨Gt, 0, none⟩) n ct] 24) = w5
  have b5 : Hid (Blk w5 w4.heap.size 24 #[.int .i64 gw, .int .i64 gh, .slice (some ⟨Gt, 0, none⟩) n ct]) := Lib.hid (by rw [← hw5]; exact Blk.new _ _ _)
  have o5 : Hid (Only No w4 w5) := Lib.hid (by rw [← hw5]; exact (Only.refl No w4).alloc _)
  have A5 : Hid (Only No w w5) := Lib.hid ((OA.out.trans O4.out).trans o5.out)
  have M5 := Lib.hid ((M3.out.no (O4.out.trans o5.out)).mono (O4.out.trans o5.out).size)
  have R5 : Hid (Row w5 Gt (bs ++ marks 8)) := Lib.hid ((Row.of_own (bls_append hb.out (bls_marks 8)) T4.out).only o5.out id)
  have D5 : Hid (Rds w5 64 (some ⟨Gt, 0, none⟩) n (bsC bs)) := Lib.hid ((twin_rds hl.out hb.out T4.out).no o5.out)
  have hGt : Hid (∀ ad, some (⟨Gt, 0, none⟩ : Addr) = some ad → ad.block < w5.heap.size) := Lib.hid fun ad e => by cases e; have := own_lt T4.out Gt rfl; have := o5.out.size; show Gt < _; omega
  have E5 := Lib.hid ((B3.out.only O4.out id).only o5.out id)
  have F5 := Lib.hid ((F2.out.no O3.out).no (O4.out.trans o5.out))
  obtain ⟨gb, hgb⟩ : ∃ g, g = w.heap.size := ⟨_, rfl⟩
  obtain ⟨gt, hgt⟩ : ∃ g, g = w4.heap.size := ⟨_, rfl⟩
  rw [← hgb] at E5
  rw [← hgt] at b5
  rw [← hgb, ← hgt]
  replace hgb := Lib.hid hgb
  replace hgt := Lib.hid hgt
  have hcs : Hid (∀ w', Only No w5 w' → (w'.cell? ⟨gt, 0, none⟩ = some (.int .i64 gw) ∧ w'.cell? ⟨gt, 1, none⟩ = some (.int .i64 gh) ∧ w'.cell? ⟨gt, 2, none⟩ = some (.slice (some ⟨Gt, 0, none⟩) n ct)) ∧
      (w'.cell? ⟨gb, 0, none⟩ = some (.int .i64 gw) ∧ w'.cell? ⟨gb, 1, none⟩ = some (.int .i64 gh) ∧ w'.cell? ⟨gb, 2, none⟩ = some (.slice A n c))) := Lib.hid fun w' ho =>
    ⟨⟨(b5.out.only ho id).cell 0, (b5.out.only ho id).cell 1, (b5.out.only ho id).cell 2⟩, ⟨(E5.out.only ho id).cell 0, (E5.out.only ho id).cell 1, (E5.out.only ho id).cell 2⟩⟩
  have hK : Hid (∀ x y : Int, (-9223372036854775808 ≤ x ∧ x ≤ 9223372036854775807) → (-9223372036854775808 ≤ y ∧ y ≤ 9223372036854775807) → ∀ w', Only No w5 w' →
      Calls Try.prog 12 #[.agg #[.int .i64 gw, .int .i64 gh, .slice (some ⟨Gt, 0, none⟩) n ct], P g, .int .i64 x, .int .i64 y] w' (fun e w'' => e = .returned (.int .i16 (dcR gw gh W H l bs x y)) ∧ Only No w' w'') ∧
      Calls Try.prog 13 #[.agg #[.int .i64 gw, .int .i64 gh, .slice A n c], .int .i64 W, .int .i64 H, .slice Af N cf, .int .i64 x, .int .i64 y] w' (fun e w'' => e = .returned (.int .i16 (dcR gw gh W H l bs x y)) ∧ Only No w' w'') ∧
      Calls Try.prog 12 #[.agg #[.int .i64 gw, .int .i64 gh, .slice (some ⟨Gt, 0, none⟩) n ct], .pointer none, .int .i64 x, .int .i64 y] w' (fun e w'' => e = .returned (.int .i16 0) ∧ Only No w' w'')) := Lib.hid fun x y hx hy w' ho =>
    ⟨dc12R w' w5.heap.size W H l bs gw gh (some ⟨Gt, 0, none⟩) ct g n hl.out (D5.out.no ho) hGt.out hb.out (M5.out.no ho) ho.size x y,
      dc13 w' W H gw gh A Af n c N cf l bs hfl hl.out hN.out.symm (hA.out.no (A5.out.trans ho)) hb.out (F5.out.no ho) (by omega) (by omega) x y hx hy,
      dc12_nil w' gw gh (some ⟨Gt, 0, none⟩) n ct x y⟩
  clear hw5 O2 O3 O4 o5 T4 b1 B2 B3 M3 c0 c1 c2 F2 OA o1 hF
  go_wp2_with fail
  go_loopw [10] (fun v10 wr => ∃ i : Nat, v10 = .int .i64 i ∧ i ≤ m ∧ Hid (Only No w5 wr)) (fun v10 _ => m - (intOf v10).toNat)
  case atStart => exact ⟨0, rfl, by omega, Lib.hid (Only.refl _ _)⟩
  case round =>
    obtain ⟨i, rfl, hi, hI⟩ := hrel
    by_cases hlt : i < m
    · have hlt' : (i : Int) < m := by omega
      obtain ⟨pq0, pq1⟩ := plC_at ps i (by rw [hpl.out]; exact hlt)
      obtain ⟨adz, rfl, hc1⟩ := (hZ.out.no (A5.out.trans hI.out)).at_ (i := i * 2) (by omega) pq0
      obtain ⟨adz', hadz, hc2⟩ := (hZ.out.no (A5.out.trans hI.out)).at_ (i := i * 2 + 1) (by omega) pq1
      cases hadz
      obtain ⟨hpx, hpy⟩ := hp.out i
      obtain ⟨x, hx⟩ : ∃ x, x = (ps.getD i (0, 0)).1 := ⟨_, rfl⟩
      obtain ⟨y, hy⟩ : ∃ y, y = (ps.getD i (0, 0)).2 := ⟨_, rfl⟩
      rw [← hx] at hc1 hpx
      rw [← hy] at hc2 hpy
      have hc3 : wr.cell? ⟨(adz.add (i * 2)).block, (adz.add (i * 2)).off + 1, none⟩ = some (.int .i64 y) := by rw [Mm.add_field _ _ _ (by omega)]; exact hc2
      clear hx hy pq0 pq1
      go_upto_region 11 with (fail)
      have h12 := (hK.out x y hpx hpy wr.drew hI.out.drew).1
      have h0 := fun w' ho => (hK.out x y hpx hpy w' ho).2.2
      have h13 := fun w' ho => (hK.out x y hpx hpy w' ho).2.1
      obtain ⟨dv, hdv⟩ : ∃ dv, dv = dcR gw gh W H l bs x y := ⟨_, rfl⟩
      rw [← hdv] at h12
      simp only [← hdv] at h13
      replace hdv := Lib.hid hdv
      replace h0 := Lib.hid h0
      replace h13 := Lib.hid h13
      have hdd : (dv != dv) = false := by simp
      have hS : ∀ w', Only No w5 w' → w'.cell? ⟨gt, 0, none⟩ = some (.int .i64 gw) ∧ w'.cell? ⟨gt, 1, none⟩ = some (.int .i64 gh) ∧ w'.cell? ⟨gt, 2, none⟩ = some (.slice (some ⟨Gt, 0, none⟩) n ct) ∧ w'.cell? ⟨gb, 0, none⟩ = some (.int .i64 gw) ∧ w'.cell? ⟨gb, 1, none⟩ = some (.int .i64 gh) ∧ w'.cell? ⟨gb, 2, none⟩ = some (.slice A n c) := fun w' ho => by
        obtain ⟨⟨a1, a2, a3⟩, a4, a5, a6⟩ := hcs.out w' ho
        exact ⟨a1, a2, a3, a4, a5, a6⟩
      have q9 := hI.out
      go_cut [64] from 44 to 63 (fun s64 wx => s64 = .bool false ∧ Hid (Only No w5 wx))
      case first =>
        go_region_held3 (fun w' => Only No w5 w' ∧ w'.cell? ⟨gt, 0, none⟩ = some (.int .i64 gw) ∧ w'.cell? ⟨gt, 1, none⟩ = some (.int .i64 gh) ∧ w'.cell? ⟨gt, 2, none⟩ = some (.slice (some ⟨Gt, 0, none⟩) n ct) ∧ w'.cell? ⟨gb, 0, none⟩ = some (.int .i64 gw) ∧ w'.cell? ⟨gb, 1, none⟩ = some (.int .i64 gh) ∧ w'.cell? ⟨gb, 2, none⟩ = some (.slice A n c))
          (first
            | (refine ⟨?_, hS _ ?_⟩ <;> first | exact q9 | exact q9.drew | exact q10 | exact q11 | exact q12 | exact q10.drew | exact q11.drew | exact q12.drew))
          (first
            | (go_at_call 12; refine h12.mono ?_; clear h12; rintro e w10 ⟨rfl, o10⟩; have q10 : Only No w5 w10 := (q9.drew).trans o10)
            | (go_at_call 13; refine (h13.out _ q10).mono ?_; rintro e w11 ⟨rfl, o11⟩; have q11 : Only No w5 w11 := q10.trans o11)
            | (go_at_call 12; refine (h0.out _ q11).mono ?_; rintro e w12 ⟨rfl, o12⟩; have q12 : Only No w5 w12 := q11.trans o12))
        all_goals go_wp2_with fail
        all_goals go_meet
        all_goals exact ⟨by first | rfl | simp, Lib.hid (by first | exact q12 | exact q12.drew)⟩
      case rest =>
        obtain ⟨rfl, hO⟩ := hcut
        go_wp2_with fail
        go_roundw
        case rel => exact ⟨i + 1, by go_num, by omega, hO⟩
        case measure => simp [intOf]; omega
    · have hlt' : ¬ (i : Int) < m := by omega
      have h14 := kept14 wr gw gh Gt ct n A c bs hl.out (hA.out.no (A5.out.trans hI.out)) hb.out hct (R5.out.only hI.out id) hn
      have h15 := fun w' (ho : Only No w5 w') => still15 w' w5.heap.size g W H l Af cf N (M5.out.no ho) hfl (F5.out.no ho)
      unfold gridI at h14
      replace h15 := Lib.hid h15
      obtain ⟨⟨a1, a2, a3⟩, a4, a5, a6⟩ := hcs.out wr hI.out
      go_wp2_with (first
        | (go_at_call 14; refine h14.mono ?_; clear h14; rintro e w6 ⟨rfl, o6⟩)
        | (go_at_call 15; refine (h15.out _ (hI.out.trans o6)).mono ?_; rintro e w7 ⟨rfl, o7⟩))
      go_ret
      exact ⟨rfl, A5.out.trans ((hI.out.trans o6).trans o7)⟩
end Go.Proofs.Ytnepchdpgbdogaa.Ct
