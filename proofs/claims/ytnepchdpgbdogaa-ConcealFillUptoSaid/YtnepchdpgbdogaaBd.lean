/- ConcealBlind: the walk. -/
import Derived.Test.YtnepchdpgbdogaaQw
import Derived.Test.YtnepchdpgbdogaaRw
import Derived.Test.YtnepchdpgbdogaaBl
import Derived.StillTailTactics
namespace Go.Proofs.Ytnepchdpgbdogaa.Ct
open Go.ChangeShapes Go.WideShapes Go.RowKit Mm
section
variable {ops : Array Oper} {rest : List Oper} {a : Act} {w : World} {Q : Act → Prop} {d : Option Tmp} {x y : Operand} {ty : TypeId} {p : String} {af : Array Edge}
theorem ws_load48 (ad : Addr) (cs : List Value) (hx : a.eval x = .pointer (some ad)) (hl : cs.length = 64) (hc : ∀ j v, cs[j]? = some v → w.cell? (ad.add j) = some v)
    (h : wpStill Try.prog ops w Q rest (a.put d (.agg cs.toArray))) : wpStill Try.prog ops w Q (⟨d, .load 48 x, ty, p, af, none⟩ :: rest) a :=
  wpStill_step fun K hK => by
    rw [if_pos (by simp [Region.wanted])]
    unfold Oper.still execOp
    simp only [hx, Instr.loadAt, Instr.sureAddr, Sem.run_bind, Sem.run_pure, Result.andThen_ok, run_load48 w ad cs hl hc]
    exact ⟨rfl, hK _ h⟩
theorem ws_rem (i m q : Nat) (hq : i % m = q) (hx : a.eval x = .int .i64 i) (hy : a.eval y = .int .i64 m) (h0 : 0 < m) (hm : i ≤ 9223372036854775807)
    (h : wpStill Try.prog ops w Q rest (a.put d (.int .i64 (q : Int)))) : wpStill Try.prog ops w Q (⟨d, .binOp .rem 3 x y 3, ty, p, af, none⟩ :: rest) a :=
  wpStill_step fun K hK => by
    rw [if_pos (by simp [Region.wanted])]
    subst hq
    have t1 : (i : Int).tmod (m : Int) = ((i % m : Nat) : Int) := by rw [Int.tmod_eq_emod_of_nonneg (by omega)]; rfl
    have hq := Nat.mod_le i m
    have s3 : IntKind.i64.wrap ((i % m : Nat) : Int) = ((i % m : Nat) : Int) := IntWalk.i64_in _ (by omega)
    have hne : ¬ m = 0 := by omega
    unfold Oper.still execOp
    simp only [hx, hy]
    go_simp
    exact hK _ h
end
theorem same21n (w : World) (gw gh : Int) (A B : Option Addr) (c d n : Nat) (bs : List (List Int)) (hA : Rds w 64 A bs.length (bsC bs)) (hB : Rds w 64 B bs.length (bsC bs)) (hb : Bls bs) (hn : n = bs.length) (h64 : n ≤ 1048576) :
    Calls Try.prog 21 #[.agg #[.int .i64 gw, .int .i64 gh, .slice A n c], .agg #[.int .i64 gw, .int .i64 gh, .slice B n d]] w fun e w' => e = .returned (.bool true) ∧ Only No w w' := same21_yes w gw gh A B c d n bs hA hB hb hn h64
set_option maxRecDepth 100000 in
set_option maxHeartbeats 3200000 in
theorem blind7 (w : World) (gw gh : Int) (A : Option Addr) (c : Nat) (sw sh : Int) (F : Option Addr) (fc : Nat) (fl : List Bool) (bs : List (List Int)) (hF : Rds w 1 F fl.length (boC fl)) (hA : Rds w 64 A bs.length (bsC bs)) (hb : Bls bs) (hsw : -9223372036854775808 ≤ sw ∧ sw ≤ 9223372036854775807) (hsh : -9223372036854775808 ≤ sh ∧ sh ≤ 9223372036854775807)
    (Z : Option Addr) (zc : Nat) (os : List (List Int)) (hZ : Rds w 64 Z os.length (bsC os)) (ho : Bls os) :
    Calls Try.prog 7 #[sceneV gw gh A bs.length c sw sh F fl.length fc, .slice Z os.length zc] w fun e w' => e = .returned (.bool true) ∧ Only No w w' := by
  have hW := fitN_le sw
  have hH := fitN_le sh
  replace hZ := Lib.hid hZ
  replace ho := Lib.hid ho
  obtain ⟨m, hm⟩ : ∃ m, os.length = m := ⟨_, rfl⟩
  rw [hm]
  replace hm := Lib.hid hm
  replace hF := Lib.hid hF
  replace hA := Lib.hid hA
  replace hb := Lib.hid hb
  replace hsw := Lib.hid hsw
  replace hsh := Lib.hid hsh
  unfold sceneV
  go_enter Try.func7, Try.ntmps7
  go_upto_region 3 with (first
    | (go_at_call 19; refine (alive19 _).mono ?_; rintro e w1 ⟨rfl, o1⟩; have O1 := Lib.hid ((((Only.refl No w).alloc _)).trans o1); have B1 := Lib.hid ((Blk.new w 27 _).only o1 id); have c0 := B1.out.cell 0; have c1 := B1.out.cell 1; have c2 := B1.out.cell 2; have c3 := B1.out.cell 3; have c4 := B1.out.cell 4; have c5 := B1.out.cell 5; simp only [List.getElem?_toArray, List.getElem?_cons_zero, List.getElem?_cons_succ] at c0 c1 c2 c3 c4 c5; clear o1)
    | (go_at_call 20; refine (fit20 w1 gw gh A c sw sh F fc fl bs (hF.out.no O1.out) (hA.out.no O1.out) hb.out hsw.out hsh.out).mono ?_; rintro e w2 ⟨vg, vf, rfl, o2, hvg, hvf⟩; obtain ⟨Ag, cg, rfl⟩ := own_slice hvg; obtain ⟨Af, cf, rfl⟩ := own_slice hvf; have O2 := Lib.hid o2; have G2 := Lib.hid hvg; have F2 := Lib.hid hvf; clear o2 hvg hvf))
  generalize hww : fitN sw = W at *
  generalize hhh : fitN sh = H at *
  have hmul : W * H ≤ 40 * 40 := Nat.mul_le_mul hW hH
  generalize hbb : fitL bs (W * H) = gs at *
  generalize hll : flg fl (W * H) = l at *
  have hgl : gs.length = W * H := by rw [← hbb]; exact fitL_len _ _
  have hll2 : l.length = W * H := by rw [← hll]; exact flg_len _ _
  have hgb : Hid (Bls gs) := Lib.hid (by rw [← hbb]; exact fitL_bls hb.out _)
  generalize hw3 : w2.alloc (Obj.cells #[.int .i64 W, .int .i64 H, .slice Ag (W * H) cg] 24) = w3
  have b3 : Hid (Blk w3 w2.heap.size 24 #[.int .i64 W, .int .i64 H, .slice Ag (W * H) cg]) := Lib.hid (by rw [← hw3]; exact Blk.new _ _ _)
  have o3 : Hid (Only No w2 w3) := Lib.hid (by rw [← hw3]; exact (Only.refl No w2).alloc _)
  clear hw3 hbb hll c0 c1 c2 c3 c4 c5
  have hF3 := Lib.hid (Rds.of_own (own_only F2.out o3.out (fun _ _ => id)))
  have hG3 := Lib.hid (Rds.of_own (own_only G2.out o3.out (fun _ _ => id)))
  have hgd : Hid (∀ ad, Ag = some ad → ad.block < w3.heap.size) := Lib.hid fun ad e => by have := own_lt G2.out ad.block (by rw [e]; rfl); have := o3.out.size; omega
  go_upto_region 6 with (first
    | (go_at_call 10; refine (laid10n w3 W H Af cf (W * H) l hll2 hF3.out (by omega) (by omega) hll2).mono ?_; rintro e w4 ⟨g, rfl, o4, hg4, hM4⟩; have O4 := Lib.hid o4; have M4 := Lib.hid hM4; have e0 := (b3.out.only o4 id).cell 0; have e1 := (b3.out.only o4 id).cell 1; have e2 := (b3.out.only o4 id).cell 2; simp only [List.getElem?_toArray, List.getElem?_cons_zero, List.getElem?_cons_succ] at e0 e1 e2; clear o4 hM4))
  have hgr4 : Hid (GridAt w4 w4.heap.size W H Ag gs) := Lib.hid ⟨by rw [hgl]; exact hG3.out.no O4.out, fun ad e => by have := hgd.out ad e; have := O4.out.size; omega, hgl, hgb.out⟩
  go_upto_region 7 with (first
    | (go_at_call 11; refine (twin11n w4 W H Ag cg (W * H) gs hgl (hG3.out.no O4.out) (by omega)).mono ?_; rintro e w5 ⟨Gt, ct, rfl, o5, hct, hown5⟩; have O5 := Lib.hid o5; have T5 := Lib.hid hown5; clear o5 hown5; unfold gridI)
    | (go_at_call 17; refine (fill17n w5 w5.heap.size W H l gs (some ⟨Gt, 0, none⟩) ct g (W * H) hgl ⟨by rw [hgl]; exact twin_rds hgl hgb.out T5.out, fun ad e => by cases e; exact own_lt T5.out _ rfl, hgl, hgb.out⟩ ((M4.out.no O5.out).mono O5.out.size) (Nat.le_refl _)).mono ?_; rintro e w6 ⟨Gf, rfl, o6, hGf, bf⟩; have O6 := Lib.hid o6; have BF := Lib.hid bf; have HGf := Lib.hid hGf; clear o6 bf hGf; unfold gridI))
  generalize hw7 : w6.alloc (Obj.cells #[.int .i64 W, .int .i64 H, .slice (some ⟨Gf, 0, none⟩) (W * H) (W * H)] 24) = w7
  have b7 : Hid (Blk w7 w6.heap.size 24 #[.int .i64 W, .int .i64 H, .slice (some ⟨Gf, 0, none⟩) (W * H) (W * H)]) := Lib.hid (by rw [← hw7]; exact Blk.new _ _ _)
  have o7 : Hid (Only No w6 w7) := Lib.hid (by rw [← hw7]; exact (Only.refl No w6).alloc _)
  clear hw7 e0 e1 e2
  have O47 : Hid (Only No w4 w7) := Lib.hid ((O5.out.trans O6.out).trans o7.out)
  have A7 : Hid (Only No w w7) := Lib.hid (((((O1.out.trans O2.out).trans o3.out).trans O4.out)).trans O47.out)
  have M7 := Lib.hid ((M4.out.no O47.out).mono O47.out.size)
  have FR7 := Lib.hid ((hF3.out.no O4.out).no O47.out)
  have GR7 := Lib.hid ((hG3.out.no O4.out).no O47.out)
  have BF7 := Lib.hid (BF.out.only o7.out id)
  have C4 := Lib.hid ((b3.out.only O4.out id).only O47.out id)
  have hLF : (flL W H l gs).length = W * H := by rw [flL_len, hgl]
  have hLB : Hid (Bls (flL W H l gs)) := Lib.hid (flL_bls (by omega) (by omega) hgb.out hgl)
  clear O4 O5 T5 O6 BF HGf o7 O47 hgr4 hgd hF3 hG3 M4 b3 o3 O1 O2 B1 hF hA hb hsw hsh G2 F2
  have d0 := b7.out.cell 0
  have d1 := b7.out.cell 1
  have d2 := b7.out.cell 2
  simp only [List.getElem?_toArray, List.getElem?_cons_zero, List.getElem?_cons_succ] at d0 d1 d2
  have em : IntKind.i64.wrap ((W : Int) * (H : Int)) = ((W * H : Nat) : Int) := by
    rw [IntWalk.i64_in _ (by rw [← Int.natCast_mul]; omega), ← Int.natCast_mul]
  have n3 : (((W * H : Nat) : Int) != ((W * H : Nat) : Int)) = false := by simp
  obtain ⟨N, hN⟩ : ∃ N, W * H = N := ⟨_, rfl⟩
  rw [hN] at FR7 GR7 hgl hll2 hLF b7 d2 hmul em n3 C4 ⊢
  replace hN := Lib.hid hN
  have c0 := C4.out.cell 0
  have c1 := C4.out.cell 1
  have c2 := C4.out.cell 2
  simp only [List.getElem?_toArray, List.getElem?_cons_zero, List.getElem?_cons_succ] at c0 c1 c2
  obtain ⟨gb, hgb4⟩ : ∃ gb, gb = w2.heap.size := ⟨_, rfl⟩
  rw [← hgb4] at c0 c1 c2 C4 ⊢
  replace hgb4 := Lib.hid hgb4
  go_upto_region 9 with (fail)
  go_upto_region 10 with (first
    | (go_at_call 11; refine (twin11n w7 W H Ag cg N gs hgl GR7.out (by rw [hgl]; omega)).mono ?_; rintro e w8 ⟨Gx, cx, rfl, o8, hcx, hown8⟩; have O8 := Lib.hid o8; have T8 := Lib.hid hown8; clear o8 hown8; unfold gridI))
  generalize hw9 : w8.alloc (Obj.cells #[.int .i64 W, .int .i64 H, .slice (some ⟨Gx, 0, none⟩) N cx] 24) = w9
  have b9 : Hid (Blk w9 w8.heap.size 24 #[.int .i64 W, .int .i64 H, .slice (some ⟨Gx, 0, none⟩) N cx]) := Lib.hid (by rw [← hw9]; exact Blk.new _ _ _)
  have o9 : Hid (Only No w8 w9) := Lib.hid (by rw [← hw9]; exact (Only.refl No w8).alloc _)
  have hxl : w7.heap.size ≤ Gx ∧ Gx < w8.heap.size := ⟨own_ge T8.out Gx rfl, own_lt T8.out Gx rfl⟩
  have R9 : Hid (Row w9 Gx (othL l os gs 0 ++ marks 8)) := Lib.hid (by rw [othL_zero]; exact (Row.of_own (bls_append hgb.out (bls_marks 8)) T8.out).only o9.out id)
  have O9 : Hid (Only No w7 w9) := Lib.hid (O8.out.trans o9.out)
  obtain ⟨K9, hK9⟩ : ∃ K, K = w8.heap.size := ⟨_, rfl⟩
  rw [← hK9] at b9 hxl ⊢
  replace hK9 := Lib.hid hK9
  clear hw9 O8 o9 T8 em n3 c0 c1 c2 d0 d1 d2
  go_wp2_with fail
  go_loopw [14] (fun v14 wx => ∃ i : Nat, v14 = .int .i64 i ∧ i ≤ N ∧ Hid (Row wx Gx (othL l os gs i ++ marks 8) ∧ Only (One Gx) w9 wx)) (fun v14 _ => N - (intOf v14).toNat)
  case atStart => exact ⟨0, rfl, by omega, Lib.hid ⟨R9.out, Only.refl _ _⟩⟩
  case round =>
    obtain ⟨i, rfl, hi, hI⟩ := hrel
    have OR : Hid (Only No w7 wr) := Lib.hid (O9.out.then hI.out.2 (fun j h => .inr (by have h : j = Gx := h; have := O9.out.size; omega)))
    have B9 : Hid (Blk wr K9 24 #[.int .i64 W, .int .i64 H, .slice (some ⟨Gx, 0, none⟩) N cx]) := Lib.hid (b9.out.only hI.out.2 (fun h => by have h : K9 = Gx := h; omega))
    by_cases hlt : i < N
    · have hlt' : (i : Int) < N := by omega
      obtain ⟨adf, rfl, hcf⟩ := (FR7.out.no OR.out).at_ (i := i) (u := .bool (l.getD i false)) (by omega) (by simp [boC, show i < l.length by omega])
      have r2 := B9.out.cell 2
      simp only [List.getElem?_toArray, List.getElem?_cons_zero, List.getElem?_cons_succ] at r2
      cases hf : l.getD i false
      · rw [hf] at hcf
        have hk : Hid (othL l os gs (i + 1) = othL l os gs i) := Lib.hid (othL_keep (fun h => by rw [hf] at h; cases h.1))
        go_wp2_with fail
        go_roundw
        case rel => exact ⟨i + 1, by go_num, by omega, Lib.hid ⟨by rw [hk.out]; exact hI.out.1, hI.out.2⟩⟩
        case measure => simp [intOf]; omega
      · rw [hf] at hcf
        by_cases hm0 : 0 < m
        · have hmi : (0 : Int) < m := by omega
          have hne : ¬ (m : Int) = 0 := by omega
          have t1 : (i : Int).tmod (m : Int) = ((i % m : Nat) : Int) := by rw [Int.tmod_eq_emod_of_nonneg (by omega)]; rfl
          have hq := Nat.mod_lt i hm0
          have hql := Nat.mod_le i m
          have hZr : Rds wr.drew 64 Z os.length (bsC os) := ((hZ.out.no A7.out).no OR.out).no (Only.refl No wr).drew
          have hqo : i % m < os.length := by rw [hm.out]; exact hq
          obtain ⟨adz, rfl, hcz⟩ := bl_cells ho.out hZr (i % m) hqo
          have h64 := bl_len ho.out (i % m) hqo
          have hs : Hid (othL l os gs (i + 1) ++ marks 8 = (othL l os gs i ++ marks 8).set i (os.getD (i % m) [])) := Lib.hid (by
            have := othL_set (os := os) (bs := gs) hf (by rw [hm.out]; exact hm0)
            rw [hm.out] at this
            rw [this, List.set_append_left _ _ (by rw [othL_len]; omega)])
          generalize hqx : i % m = q at *
          generalize os.getD q [] = b at *
          have hb64 : b.length = 64 := by rw [blC_length] at h64; exact h64
          have hqi : (q : Int) < m := by omega
          have s3 : IntKind.i64.wrap (q : Int) = (q : Int) := IntWalk.i64_in _ (by omega)
          replace hcz := Lib.hid hcz
          replace hqx := Lib.hid hqx
          have hlR : i < (othL l os gs i ++ marks 8).length := by rw [List.length_append, othL_len]; omega
          go_upto_region 14 with (fail)
          refine wp_region_still_tail 11 (by kernel_rfl) (by kernel_rfl) ?_
          simp only [List.take_succ_cons, List.take_zero, List.drop_succ_cons, List.drop_zero]
          have r2' : wr.drew.cell? ⟨K9, 2, none⟩ = some (.slice (some ⟨Gx, 0, none⟩) N cx) := r2
          have hRd : Hid (Row wr.drew Gx (othL l os gs i ++ marks 8)) := Lib.hid (hI.out.1.only (Only.refl No wr).drew id)
          have hOd : Hid (Only (One Gx) w9 wr.drew) := Lib.hid (hI.out.2.drew)
          change wpStill _ _ wr.drew _ _ _
          repeat (first
            | ((with_reducible refine ws_load48 (adz.add (q * 64)) (blC b) ?_ h64 hcz.out ?_)
               · rfl)
            | ((with_reducible refine ws_rem i m q hqx.out ?_ ?_ hm0 (by omega) ?_)
               · rfl
               · rfl)
            | still_step)
          refine wpStill_nil ?_
          change wpList _ _ _ _ _ wr.drew
          generalize wr.drew = wd at *
          go_wp2_with (first
            | ((with_reducible refine wl_storeRow Gx i _ b ⟨Gx, i * 64, none⟩ ?_ rfl ?_ hRd.out hlR hb64 ?_)
               · rfl
               · rfl
               intro w10 p10 o10
               have P10 := Lib.hid p10
               have O10 := Lib.hid o10
               clear p10 o10))
          go_roundw
          case rel => exact ⟨i + 1, by go_num, by omega, Lib.hid ⟨by rw [hs.out]; exact P10.out, hOd.out.trans O10.out⟩⟩
          case measure => simp [intOf]; omega
        · have hmi : ¬ (0 : Int) < m := by omega
          have hm1 : m = 0 := by omega
          have hk : Hid (othL l os gs (i + 1) = othL l os gs i) := Lib.hid (othL_keep (fun h => by have := hm.out; omega))
          go_wp2_with fail
          go_roundw
          case rel => exact ⟨i + 1, by go_num, by omega, Lib.hid ⟨by rw [hk.out]; exact hI.out.1, hI.out.2⟩⟩
          case measure => simp [intOf]; omega
    · have hlt' : ¬ (i : Int) < N := by omega
      obtain rfl : i = N := by omega
      have r0 := B9.out.cell 0
      have r1 := B9.out.cell 1
      have r2 := B9.out.cell 2
      simp only [List.getElem?_toArray, List.getElem?_cons_zero, List.getElem?_cons_succ] at r0 r1 r2
      have hfl1 : Hid (flL W H l (othL l os gs i) = flL W H l gs) := Lib.hid (flL_oth (by rw [hgl, hN.out]) i)
      have hxb : Hid (Bls (othL l os gs i)) := Lib.hid (othL_bls ho.out hgb.out i)
      have hxl2 : (othL l os gs i).length = i := by rw [othL_len, hgl]
      have hxr : Hid (Rds wr 64 (some ⟨Gx, 0, none⟩) i (bsC (othL l os gs i))) := Lib.hid (by
        have := hI.out.1.rds (bls_append hxb.out (bls_marks 8)) (n := i) (by rw [List.length_append]; omega)
        rwa [List.take_append_of_le_length (by omega), List.take_of_length_le (by omega)] at this)
      go_upto_region 16 with (first
        | (go_at_call 17; refine (fill17n wr wr.heap.size W H l (othL l os gs i) (some ⟨Gx, 0, none⟩) cx g i hxl2 ⟨by rw [hxl2]; exact hxr.out, fun ad e => by cases e; exact hI.out.1.lt, by rw [hxl2]; exact hN.out.symm, hxb.out⟩ ((M7.out.no OR.out).mono OR.out.size) (Nat.le_refl _)).mono ?_; rintro e w10 ⟨G2, rfl, o10, hG2, bf2⟩; rw [hfl1.out] at bf2; have O10 := Lib.hid o10; have BF2 := Lib.hid bf2; clear o10 bf2; unfold gridI))
      generalize hw11 : w10.alloc (Obj.cells #[.int .i64 W, .int .i64 H, .slice (some ⟨G2, 0, none⟩) i i] 24) = w11
      have b11 : Hid (Blk w11 w10.heap.size 24 #[.int .i64 W, .int .i64 H, .slice (some ⟨G2, 0, none⟩) i i]) := Lib.hid (by rw [← hw11]; exact Blk.new _ _ _)
      have o11 : Hid (Only No w10 w11) := Lib.hid (by rw [← hw11]; exact (Only.refl No w10).alloc _)
      have Q7 : Hid (Only No w7 w11) := Lib.hid ((OR.out.trans O10.out).trans o11.out)
      have BFE := Lib.hid (BF2.out.only o11.out id)
      have D7 := Lib.hid (b7.out.only Q7.out id)
      have d0 := D7.out.cell 0
      have d1 := D7.out.cell 1
      have d2 := D7.out.cell 2
      simp only [List.getElem?_toArray, List.getElem?_cons_zero, List.getElem?_cons_succ] at d0 d1 d2
      have hfl2 : Hid (flL W H l (flL W H l gs) = flL W H l gs) := Lib.hid (flL_again (by rw [hgl, hN.out]))
      have hFr : Hid (Rds w11 64 (some ⟨Gf, 0, none⟩) i (bsC (flL W H l gs))) := Lib.hid (by
        have := Rds.fresh (n := i) (size := 64) (BF7.out.only Q7.out id) (by rw [List.size_toArray, bsC_length hLB.out, hLF])
        rwa [List.toList_toArray] at this)
      clear hw11 hfl1 hxr r0 r1 r2 B9
      go_upto_region 17 with (first
        | (go_at_call 11; refine (twin11n w11 W H (some ⟨Gf, 0, none⟩) i i (flL W H l gs) hLF hFr.out (by rw [hLF]; omega)).mono ?_; rintro e w12 ⟨Gy, cy, rfl, o12, hcy, hown12⟩; have O12 := Lib.hid o12; have T12 := Lib.hid hown12; clear o12 hown12; unfold gridI)
        | (go_at_call 17; refine (fill17n w12 w12.heap.size W H l (flL W H l gs) (some ⟨Gy, 0, none⟩) cy g i hLF ⟨by rw [hLF]; exact twin_rds hLF hLB.out T12.out, fun ad e => by cases e; exact own_lt T12.out _ rfl, by rw [hLF]; exact hN.out.symm, hLB.out⟩ ((M7.out.no (Q7.out.trans O12.out)).mono (Q7.out.trans O12.out).size) (Nat.le_refl _)).mono ?_; rintro e w13 ⟨G3, rfl, o13, hG3', bf3⟩; rw [hfl2.out] at bf3; have O13 := Lib.hid o13; have BF3 := Lib.hid bf3; clear o13 bf3; unfold gridI))
      generalize hw14 : w13.alloc (Obj.cells #[.int .i64 W, .int .i64 H, .slice (some ⟨G3, 0, none⟩) i i] 24) = w14
      have b14 : Hid (Blk w14 w13.heap.size 24 #[.int .i64 W, .int .i64 H, .slice (some ⟨G3, 0, none⟩) i i]) := Lib.hid (by rw [← hw14]; exact Blk.new _ _ _)
      have o14 : Hid (Only No w13 w14) := Lib.hid (by rw [← hw14]; exact (Only.refl No w13).alloc _)
      have Q11 : Hid (Only No w11 w14) := Lib.hid ((O12.out.trans O13.out).trans o14.out)
      have fresh : ∀ (G : Nat), Blk w14 G 48 (bsC (flL W H l gs)).toArray → Rds w14 64 (some ⟨G, 0, none⟩) (flL W H l gs).length (bsC (flL W H l gs)) := fun G hG => by
        have := Rds.fresh (n := (flL W H l gs).length) (size := 64) hG (by rw [List.size_toArray, bsC_length hLB.out])
        rwa [List.toList_toArray] at this
      have hf1 := Lib.hid (fresh Gf (BF7.out.only (Q7.out.trans Q11.out) id))
      have hf2 := Lib.hid (fresh G2 (BFE.out.only Q11.out id))
      have hf3 := Lib.hid (fresh G3 (BF3.out.only o14.out id))
      have E7 := Lib.hid (D7.out.only Q11.out id)
      have E11 := Lib.hid (b11.out.only Q11.out id)
      have hAll : Hid (Only No w w14) := Lib.hid ((A7.out.trans Q7.out).trans Q11.out)
      obtain ⟨g7, hg7⟩ : ∃ g, g = w6.heap.size := ⟨_, rfl⟩
      obtain ⟨g11, hg11⟩ : ∃ g, g = w10.heap.size := ⟨_, rfl⟩
      obtain ⟨g14, hg14⟩ : ∃ g, g = w13.heap.size := ⟨_, rfl⟩
      rw [← hg7] at E7
      rw [← hg11] at E11
      rw [← hg14] at b14
      rw [← hg7, ← hg11, ← hg14]
      replace hg7 := Lib.hid hg7
      replace hg11 := Lib.hid hg11
      replace hg14 := Lib.hid hg14
      clear hw14 fresh d0 d1 d2 D7 b11 hFr hfl2 o11 O10 O12 O13 T12 BF3 BFE b7 M7
      have hcs : ∀ w', Only No w14 w' → (w'.cell? ⟨g7, 0, none⟩ = some (.int .i64 W) ∧ w'.cell? ⟨g7, 1, none⟩ = some (.int .i64 H) ∧ w'.cell? ⟨g7, 2, none⟩ = some (.slice (some ⟨Gf, 0, none⟩) i i)) ∧
          (w'.cell? ⟨g11, 0, none⟩ = some (.int .i64 W) ∧ w'.cell? ⟨g11, 1, none⟩ = some (.int .i64 H) ∧ w'.cell? ⟨g11, 2, none⟩ = some (.slice (some ⟨G2, 0, none⟩) i i)) ∧
          (w'.cell? ⟨g14, 0, none⟩ = some (.int .i64 W) ∧ w'.cell? ⟨g14, 1, none⟩ = some (.int .i64 H) ∧ w'.cell? ⟨g14, 2, none⟩ = some (.slice (some ⟨G3, 0, none⟩) i i)) := fun w' ho => by
        have x7 := E7.out.only ho id
        have x11 := E11.out.only ho id
        have x14 := b14.out.only ho id
        exact ⟨⟨x7.cell 0, x7.cell 1, x7.cell 2⟩, ⟨x11.cell 0, x11.cell 1, x11.cell 2⟩, ⟨x14.cell 0, x14.cell 1, x14.cell 2⟩⟩
      obtain ⟨⟨c0, c1, c2⟩, ⟨d0, d1, d2⟩, ⟨e0, e1, e2⟩⟩ := hcs w14 (Only.refl _ _)
      replace hcs := Lib.hid hcs
      have hi16 : i ≤ 1048576 := by omega
      have h21 := same21n w14 W H (some ⟨G2, 0, none⟩) (some ⟨Gf, 0, none⟩) i i i (flL W H l gs) hf2.out hf1.out hLB.out hLF.symm hi16
      go_wp2_with (first
        | (go_at_call 21; refine h21.mono ?_; clear h21; rintro e w15 ⟨rfl, o15⟩; have O15 := Lib.hid o15; obtain ⟨⟨c0, c1, c2⟩, ⟨d0, d1, d2⟩, ⟨e0, e1, e2⟩⟩ := hcs.out w15 o15; clear o15)
        | (go_at_call 21; refine (same21n w15 W H (some ⟨G3, 0, none⟩) (some ⟨Gf, 0, none⟩) i i i (flL W H l gs) (hf3.out.no O15.out) (hf1.out.no O15.out) hLB.out hLF.symm hi16).mono ?_; rintro e w16 ⟨rfl, o16⟩; have O16 := Lib.hid o16; clear o16))
      go_ret
      exact ⟨rfl, (hAll.out.trans O15.out).trans O16.out⟩
end Go.Proofs.Ytnepchdpgbdogaa.Ct
