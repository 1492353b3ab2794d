/- ConcealQuiet: the walk. -/
import Derived.Test.YtnepchdpgbdogaaQm
import Derived.Test.YtnepchdpgbdogaaSm
import Derived.Test.YtnepchdpgbdogaaAv
import Derived.Deep.RegionHeld3
import Derived.Deep.CutRange
namespace Go.Proofs.Ytnepchdpgbdogaa.Ct
open Go.ChangeShapes Go.WideShapes Go.RowKit Mm
theorem laid10n (w : World) (W H : Nat) (A : Option Addr) (c n : Nat) (l : List Bool) (hn : l.length = n) (h : Rds w 1 A n (boC l)) (hW : W ≤ 8192) (hH : H ≤ 8192) (hl : l.length = W * H) :
    Calls Try.prog 10 #[.int .i64 W, .int .i64 H, .slice A n c] w fun e w' => ∃ G, e = .returned (P G) ∧ Only No w w' ∧ w.heap.size ≤ G ∧ MapAt w' w'.heap.size G W H l := by
  subst hn
  exact laid10 w W H A c l h hW hH hl
theorem twin11n (w : World) (gw gh : Int) (A : Option Addr) (c n : Nat) (bs : List (List Int)) (hl : bs.length = n) (hA : Rds w 64 A n (bsC bs)) (hn : bs.length ≤ 1048576) :
    Calls Try.prog 11 #[gridI gw gh A n c] w fun e w' => ∃ G c', e = .returned (gridI gw gh (some ⟨G, 0, none⟩) n c') ∧ Only No w w' ∧ n + 8 ≤ c' ∧
      w'.ownsRow w.heap.size 48 64 (.slice (some ⟨G, 0, none⟩) (n + 8) c') (n + 8) (bsC (bs ++ marks 8)) := by
  subst hl
  exact twin11 w gw gh A c bs hA hn
theorem fill17n (w : World) (B W H : Nat) (l : List Bool) (bs : List (List Int)) (A : Option Addr) (c g n : Nat) (hl : bs.length = n) (hg : GridAt w B W H A bs) (hm : MapAt w B g W H l) (hB : B ≤ w.heap.size) :
    Calls Try.prog 17 #[gridI W H A n c, P g] w fun e w' => ∃ G, e = .returned (.tuple #[gridI W H (some ⟨G, 0, none⟩) n n, .int .i64 0]) ∧ Only No w w' ∧ w.heap.size ≤ G ∧ Blk w' G 48 (bsC (flL W H l bs)).toArray := by
  subst hl
  exact fill17_yes w B W H l bs A c g hg hm hB
theorem dc12n (w : World) (B W H : Nat) (l : List Bool) (bs : List (List Int)) (A : Option Addr) (c g n : Nat) (hl : bs.length = n) (hg : GridAt w B W H A bs) (hm : MapAt w B g W H l) (hB : B ≤ w.heap.size) (x y : Int) (hi : inB W H x y = true) :
    Calls Try.prog 12 #[gridI W H A n c, P g, .int .i64 x, .int .i64 y] w fun e w' => e = .returned (.int .i16 (dcP W H l (dcs bs) x y)) ∧ Only No w w' := by
  subst hl
  exact dc12_in w B W H l bs A c g hg hm hB x y hi
section
variable {ops : Array Oper} {rest : List Oper} {a : Act} {w : World} {Q : Exit → Act → World → Prop} {d : Option Tmp} {x y : Operand} {ty : TypeId} {p : String} {af : Array Edge}
theorem wl_neq48 (la lb : List Int) (hx : a.eval x = .agg (blC la).toArray) (hy : a.eval y = .agg (blC lb).toArray) (h1 : la.length = 64) (h2 : lb.length = 64)
    (h : wpList Try.prog ops Q rest (a.put d (.bool (!decide (la = lb)))) w) : wpList Try.prog ops Q (⟨d, .binOp .neq 48 x y 48, ty, p, af, none⟩ :: rest) a w :=
  wpList_plain rfl fun K hK => by
    unfold Oper.wp execOp
    simp only [hx, hy, Sem.run_bind, run_eqGuard_agg w .neq 48 x y _ _ guard48', neq48 w la lb h1 h2, Result.andThen_ok]
    exact hK _ _ h
end
/-- of a twin the front part -/
theorem twin_rds {w : World} {base n c' : Nat} {A : Option Addr} {bs : List (List Int)} (hl : bs.length = n) (hb : Bls bs) (h : w.ownsRow base 48 64 (.slice A (n + 8) c') (n + 8) (bsC (bs ++ marks 8))) : Rds w 64 A n (bsC bs) := by
  have hr := Rds.of_own h
  refine ⟨by rw [bsC_length hb, hl], fun _ => ?_⟩
  obtain ⟨ad, e, hlt, hc⟩ := hr.2 (by omega)
  refine ⟨ad, e, hlt, fun j u hu => hc j u ?_⟩
  rw [bsC, List.flatMap_append, List.getElem?_append_left (by have := (List.getElem?_eq_some_iff.1 hu).1; exact this)]
  exact hu
set_option maxRecDepth 100000 in
set_option maxHeartbeats 3200000 in
theorem quiet6 (w : World) (gw gh : Int) (A : Option Addr) (c : Nat) (sw sh : Int) (F : Option Addr) (fc : Nat) (fl : List Bool) (bs : List (List Int)) (hF : Rds w 1 F fl.length (boC fl)) (hA : Rds w 64 A bs.length (bsC bs)) (hb : Bls bs) (hsw : -9223372036854775808 ≤ sw ∧ sw ≤ 9223372036854775807) (hsh : -9223372036854775808 ≤ sh ∧ sh ≤ 9223372036854775807) :
    Calls Try.prog 6 #[sceneV gw gh A bs.length c sw sh F fl.length fc] w fun e w' => e = .returned (.bool true) ∧ Only No w w' := by
  have hW := fitN_le sw
  have hH := fitN_le sh
  replace hF := Lib.hid hF
  replace hA := Lib.hid hA
  replace hb := Lib.hid hb
  replace hsw := Lib.hid hsw
  replace hsh := Lib.hid hsh
  unfold sceneV
  go_enter Try.func6, Try.ntmps6
  go_upto_region 3 with (first
    | (go_at_call 19; refine (alive19 _).mono ?_; rintro e w1 ⟨rfl, o1⟩; have O1 := Lib.hid ((((Only.refl No w).alloc _)).trans o1); have B1 := Lib.hid ((Blk.new w 27 _).only o1 id); have c0 := B1.out.cell 0; have c1 := B1.out.cell 1; have c2 := B1.out.cell 2; have c3 := B1.out.cell 3; have c4 := B1.out.cell 4; have c5 := B1.out.cell 5; simp only [List.getElem?_toArray, List.getElem?_cons_zero, List.getElem?_cons_succ] at c0 c1 c2 c3 c4 c5; clear o1)
    | (go_at_call 20; refine (fit20 w1 gw gh A c sw sh F fc fl bs (hF.out.no O1.out) (hA.out.no O1.out) hb.out hsw.out hsh.out).mono ?_; rintro e w2 ⟨vg, vf, rfl, o2, hvg, hvf⟩; obtain ⟨Ag, cg, rfl⟩ := own_slice hvg; obtain ⟨Af, cf, rfl⟩ := own_slice hvf; have O2 := Lib.hid o2; have G2 := Lib.hid hvg; have F2 := Lib.hid hvf; clear o2 hvg hvf))
  generalize hww : fitN sw = W at *
  generalize hhh : fitN sh = H at *
  have hmul : W * H ≤ 40 * 40 := Nat.mul_le_mul hW hH
  generalize hbb : fitL bs (W * H) = gs at *
  generalize hll : flg fl (W * H) = l at *
  have hgl : gs.length = W * H := by rw [← hbb]; exact fitL_len _ _
  have hll2 : l.length = W * H := by rw [← hll]; exact flg_len _ _
  have hgb : Hid (Bls gs) := Lib.hid (by rw [← hbb]; exact fitL_bls hb.out _)
  generalize hw3 : w2.alloc (Obj.cells #[.int .i64 W, .int .i64 H, .slice Ag (W * H) cg] 24) = w3
  have b3 : Hid (Blk w3 w2.heap.size 24 #[.int .i64 W, .int .i64 H, .slice Ag (W * H) cg]) := Lib.hid (by rw [← hw3]; exact Blk.new _ _ _)
  have o3 : Hid (Only No w2 w3) := Lib.hid (by rw [← hw3]; exact (Only.refl No w2).alloc _)
  clear hw3 hbb hll c0 c1 c2 c3 c4 c5
  have hF3 := Lib.hid (Rds.of_own (own_only F2.out o3.out (fun _ _ => id)))
  have hG3 := Lib.hid (Rds.of_own (own_only G2.out o3.out (fun _ _ => id)))
  have hgd : Hid (∀ ad, Ag = some ad → ad.block < w3.heap.size) := Lib.hid fun ad e => by have := own_lt G2.out ad.block (by rw [e]; rfl); have := o3.out.size; omega
  go_upto_region 6 with (first
    | (go_at_call 10; refine (laid10n w3 W H Af cf (W * H) l hll2 hF3.out (by omega) (by omega) hll2).mono ?_; rintro e w4 ⟨g, rfl, o4, hg4, hM4⟩; have O4 := Lib.hid o4; have M4 := Lib.hid hM4; have e0 := (b3.out.only o4 id).cell 0; have e1 := (b3.out.only o4 id).cell 1; have e2 := (b3.out.only o4 id).cell 2; simp only [List.getElem?_toArray, List.getElem?_cons_zero, List.getElem?_cons_succ] at e0 e1 e2; clear o4 hM4))
  have hgr4 : Hid (GridAt w4 w4.heap.size W H Ag gs) := Lib.hid ⟨by rw [hgl]; exact hG3.out.no O4.out, fun ad e => by have := hgd.out ad e; have := O4.out.size; omega, hgl, hgb.out⟩
  go_upto_region 7 with (first
    | (go_at_call 11; refine (twin11n w4 W H Ag cg (W * H) gs hgl (hG3.out.no O4.out) (by omega)).mono ?_; rintro e w5 ⟨Gt, ct, rfl, o5, hct, hown5⟩; have O5 := Lib.hid o5; have T5 := Lib.hid hown5; clear o5 hown5; unfold gridI)
    | (go_at_call 17; refine (fill17n w5 w5.heap.size W H l gs (some ⟨Gt, 0, none⟩) ct g (W * H) hgl ⟨by rw [hgl]; exact twin_rds hgl hgb.out T5.out, fun ad e => by cases e; exact own_lt T5.out _ rfl, hgl, hgb.out⟩ ((M4.out.no O5.out).mono O5.out.size) (Nat.le_refl _)).mono ?_; rintro e w6 ⟨Gf, rfl, o6, hGf, bf⟩; have O6 := Lib.hid o6; have BF := Lib.hid bf; have HGf := Lib.hid hGf; clear o6 bf hGf; unfold gridI))
  generalize hw7 : w6.alloc (Obj.cells #[.int .i64 W, .int .i64 H, .slice (some ⟨Gf, 0, none⟩) (W * H) (W * H)] 24) = w7
  have b7 : Hid (Blk w7 w6.heap.size 24 #[.int .i64 W, .int .i64 H, .slice (some ⟨Gf, 0, none⟩) (W * H) (W * H)]) := Lib.hid (by rw [← hw7]; exact Blk.new _ _ _)
  have o7 : Hid (Only No w6 w7) := Lib.hid (by rw [← hw7]; exact (Only.refl No w6).alloc _)
  clear hw7 e0 e1 e2
  have O47 : Hid (Only No w4 w7) := Lib.hid ((O5.out.trans O6.out).trans o7.out)
  have A7 : Hid (Only No w w7) := Lib.hid (((((O1.out.trans O2.out).trans o3.out).trans O4.out)).trans O47.out)
  have M7 := Lib.hid ((M4.out.no O47.out).mono O47.out.size)
  have FR7 := Lib.hid ((hF3.out.no O4.out).no O47.out)
  have GR7 := Lib.hid ((hG3.out.no O4.out).no O47.out)
  have BF7 := Lib.hid (BF.out.only o7.out id)
  have C4 := Lib.hid ((b3.out.only O4.out id).only O47.out id)
  have hLF : (flL W H l gs).length = W * H := by rw [flL_len, hgl]
  have hLB : Hid (Bls (flL W H l gs)) := Lib.hid (flL_bls (by omega) (by omega) hgb.out hgl)
  clear O4 O5 T5 O6 BF HGf o7 O47 hgr4 hgd hF3 hG3 M4 b3 o3 O1 O2 B1 hF hA hb hsw hsh G2 F2
  have d0 := b7.out.cell 0
  have d1 := b7.out.cell 1
  have d2 := b7.out.cell 2
  simp only [List.getElem?_toArray, List.getElem?_cons_zero, List.getElem?_cons_succ] at d0 d1 d2
  have em : IntKind.i64.wrap ((W : Int) * (H : Int)) = ((W * H : Nat) : Int) := by
    rw [IntWalk.i64_in _ (by rw [← Int.natCast_mul]; omega), ← Int.natCast_mul]
  have n1 : ((W : Int) != (W : Int)) = false := by simp
  have n2 : ((H : Int) != (H : Int)) = false := by simp
  have n3 : (((W * H : Nat) : Int) != ((W * H : Nat) : Int)) = false := by simp
  obtain ⟨N, hN⟩ : ∃ N, W * H = N := ⟨_, rfl⟩
  rw [hN] at FR7 GR7 hgl hll2 hLF b7 d2 hmul em n3 C4 ⊢
  replace hN := Lib.hid hN
  have c2 := C4.out.cell 2
  simp only [List.getElem?_toArray, List.getElem?_cons_zero, List.getElem?_cons_succ] at c2
  obtain ⟨gb, hgb4⟩ : ∃ gb, gb = w2.heap.size := ⟨_, rfl⟩
  rw [← hgb4] at c2 C4 ⊢
  replace hgb4 := Lib.hid hgb4
  go_wp2_with fail
  go_loopw [11, 12, 13] (fun v11 v12 v13 wr => wr = w7 ∧ ∃ i : Nat, v13 = .int .i64 i ∧ i ≤ N ∧ v11 = .int .i64 (lsP l (dcs gs) i) ∧ v12 = .int .i64 (msP l (dcs gs) i)) (fun _ _ v13 _ => N - (intOf v13).toNat)
  case atStart => exact ⟨rfl, 0, rfl, by omega, rfl, rfl⟩
  case round =>
    obtain ⟨rfl, i, rfl, hi, rfl, rfl⟩ := hrel
    obtain ⟨q1, q2, q3, q4⟩ := ls_bounds (l := l) (dcs_bounds hgb.out) i
    by_cases hlt : i < N
    · have hlt' : (i : Int) < N := by omega
      obtain ⟨adf, rfl, hcf⟩ := FR7.out.at_ (i := i) (u := .bool (l.getD i false)) (by omega) (by simp [boC, show i < l.length by omega])
      obtain ⟨adg, rfl, hcg⟩ := GR7.out.at_ (i := i * 64 + 0) (u := .int .i16 (dcs gs i)) (by omega) (by rw [bsC_get hgb.out i 0 (by omega) (by omega)]; rfl)
      rw [Nat.add_zero] at hcg
      have hdb := dcs_bounds hgb.out i
      have e9 : IntKind.i64.wrap (dcs gs i) = dcs gs i := IntWalk.i64_in _ (by omega)
      cases hf : l.getD i false
      · have s1 : lsP l (dcs gs) (i + 1) = min (lsP l (dcs gs) i) (dcs gs i) := by rw [lsP, hf]; rfl
        have s2 : msP l (dcs gs) (i + 1) = max (msP l (dcs gs) i) (dcs gs i) := by rw [msP, hf]; rfl
        rw [hf] at hcf
        replace s1 := Lib.hid s1
        replace s2 := Lib.hid s2
        go_wp2_with fail
        go_roundw
        case rel => exact ⟨by first | rfl | trivial, i + 1, by go_num, by omega, by rw [s1.out], by rw [s2.out]⟩
        case measure => simp [intOf]; omega
      · have s1 : lsP l (dcs gs) (i + 1) = lsP l (dcs gs) i := by rw [lsP, hf]; rfl
        have s2 : msP l (dcs gs) (i + 1) = msP l (dcs gs) i := by rw [msP, hf]; rfl
        rw [hf] at hcf
        replace s1 := Lib.hid s1
        replace s2 := Lib.hid s2
        go_wp2_with fail
        go_roundw
        case rel => exact ⟨by first | rfl | trivial, i + 1, by go_num, by omega, by rw [s1.out], by rw [s2.out]⟩
        case measure => simp [intOf]; omega
    · have hlt' : ¬ (i : Int) < N := by omega
      obtain rfl : i = N := by omega
      go_wp2_with fail
      obtain ⟨wq, hwq⟩ : ∃ wq, wq = wr := ⟨_, rfl⟩
      subst hwq
      have hFR := Lib.hid (show Rds wq 64 (some ⟨Gf, 0, none⟩) (flL W H l gs).length (bsC (flL W H l gs)) by have := Rds.fresh (n := (flL W H l gs).length) (size := 64) BF7.out (by rw [List.size_toArray, bsC_length hLB.out]); rw [List.toList_toArray] at this; exact this)
      go_loopw [14] (fun v14 wx => ∃ i : Nat, v14 = .int .i64 i ∧ i ≤ i ∧ Hid (Only No wq wx)) (fun v14 _ => i - (intOf v14).toNat)
      case atStart => exact ⟨0, rfl, by omega, Lib.hid (Only.refl _ _)⟩
      case round =>
        obtain ⟨k, rfl, hk, hO⟩ := hrel
        by_cases hkt : k < i
        · have hkt' : (k : Int) < i := by omega
          have hkl : k < (flL W H l gs).length := by omega
          obtain ⟨adz, hadz, hcs⟩ := bl_cells hLB.out (hFR.out.no hO.out) k hkl
          cases hadz
          have h64 := bl_len hLB.out k hkl
          have hfl : (flL W H l gs).getD k [] = flB W H l gs k := flL_get W H l gs k (by omega)
          have hz0 : Hid ((flB W H l gs k).getD 0 0 = dcP W H l (dcs gs) ((k % W : Nat) : Int) ((k / W : Nat) : Int)) := Lib.hid (dcP_fl (by rw [hN.out]; exact hkt)).symm
          rw [hfl] at hcs h64
          have hq0 : Hid (∃ b, b = flB W H l gs k) := Lib.hid ⟨_, rfl⟩
          obtain ⟨b, hbq⟩ := hq0.out
          rw [← hbq] at hcs h64 hz0
          replace hbq := Lib.hid hbq
          rw [Mm.add_plain] at hcs
          clear hfl
          have E7 := b7.out.only hO.out id
          have r2 := E7.cell 2
          simp only [List.getElem?_toArray, List.getElem?_cons_zero, List.getElem?_cons_succ] at r2
          replace E7 := Lib.hid E7
          go_upto_region 21 with (first
            | ((with_reducible refine wl_load48 ⟨Gf, k * 64, none⟩ (blC b) ?_ h64 hcs ?_)
               · rfl)
            | ((with_reducible refine wl_store48 wr.heap.size _ (blC b) ?_ ?_ (Blk.new wr 48 _) ?_ h64 (blC_one b) ?_)
               · rfl
               · rfl
               · rfl
               intro w9 b9 o9
               have o9' : Only No wr w9 := ((Only.refl No wr).alloc _).then o9 (fun j h => .inr (by have h : j = wr.heap.size := h; omega))
               have B9 := Lib.hid b9
               have O9 := Lib.hid (hO.out.trans o9')
               clear b9 o9 o9'))
          have z0 := B9.out.cell 0
          have hz1 : (blC b).toArray[0]? = some (.int .i16 (b.getD 0 0)) := by
            rw [blC_length] at h64
            simp [blC, h64]
          rw [hz1, hz0.out] at z0
          obtain ⟨G, hG⟩ : ∃ G, G = wr.heap.size := ⟨_, rfl⟩
          rw [← hG] at B9 z0 ⊢
          replace hG := Lib.hid hG
          obtain ⟨k1, k2, k3, k4⟩ := idx_of (show k < W * H by rw [hN.out]; exact hkt)
          have hW1 : ¬ W = 0 := by omega
          have t1 : (k : Int).tmod (W : Int) = ((k % W : Nat) : Int) := by rw [Int.tmod_eq_emod_of_nonneg (by omega)]; rfl
          have t2 : (k : Int).tdiv (W : Int) = ((k / W : Nat) : Int) := by rw [Int.tdiv_eq_ediv_of_nonneg (by omega)]; rfl
          have hin : Hid (inB W H ((k % W : Nat) : Int) ((k / W : Nat) : Int) = true) := Lib.hid (inB_nat k2 k3)
          clear hz1 hcs
          generalize hqx : k % W = qx at *
          generalize hqy : k / W = qy at *
          replace t1 := Lib.hid t1
          replace t2 := Lib.hid t2
          replace hqx := Lib.hid hqx
          replace hqy := Lib.hid hqy
          replace hz0 := Lib.hid hz0
          replace k4 := Lib.hid k4
          obtain ⟨dv, hdv⟩ : ∃ dv, dv = dcP W H l (dcs gs) (qx : Int) (qy : Int) := ⟨_, rfl⟩
          rw [← hdv] at z0
          replace hdv := Lib.hid hdv
          replace h64 := Lib.hid h64
          go_upto_region 22 with (fail)
          have C9 := C4.out.only O9.out id
          have y0 := C9.cell 0
          have y1 := C9.cell 1
          have y2 := C9.cell 2
          simp only [List.getElem?_toArray, List.getElem?_cons_zero, List.getElem?_cons_succ] at y0 y1 y2
          have s3 : IntKind.i64.wrap (qx : Int) = (qx : Int) := IntWalk.i64_in _ (by omega)
          have s4 : IntKind.i64.wrap (qy : Int) = (qy : Int) := IntWalk.i64_in _ (by omega)
          have hg9 := C9.lt
          have hS : ∀ w', Only No w9 w' → w'.cell? ⟨gb, 0, none⟩ = some (.int .i64 W) ∧ w'.cell? ⟨gb, 1, none⟩ = some (.int .i64 H) ∧ w'.cell? ⟨gb, 2, none⟩ = some (.slice Ag i cg) := fun w' ho => ⟨(ho.cell hg9 id).trans y0, (ho.cell hg9 id).trans y1, (ho.cell hg9 id).trans y2⟩
          replace C9 := Lib.hid C9
          go_cut [118] from 107 to 117 (fun s118 wx => s118 = .bool false ∧ Hid (Only No w9 wx))
          case first =>
            replace t1 := t1.out
            replace t2 := t2.out
            replace hqx := hqx.out
            replace hqy := hqy.out
            have hdd : (dv != dv) = false := by simp
            go_region_held3 (fun w' => Only No w9 w' ∧ w'.cell? ⟨gb, 0, none⟩ = some (.int .i64 W) ∧ w'.cell? ⟨gb, 1, none⟩ = some (.int .i64 H) ∧ w'.cell? ⟨gb, 2, none⟩ = some (.slice Ag i cg))
              (first
                | (refine ⟨?_, hS _ ?_⟩ <;> first | exact Only.refl _ _ | exact (Only.refl _ _).drew | exact q10 | exact q11 | exact q10.drew | exact q11.drew))
              (first
                | (go_at_call 11; refine (twin11n _ W H Ag cg i gs hgl (GR7.out.no (O9.out.drew)) (by omega)).mono ?_; rintro e w10 ⟨Gu, cu, rfl, o10, hcu, hu⟩; have q10 : Only No w9 w10 := ((Only.refl No w9).drew).trans o10; have U10 := Lib.hid hu)
                | (go_at_call 12; refine (dc12n _ w10.heap.size W H l gs (some ⟨Gu, 0, none⟩) cu g i hgl ⟨by rw [hgl]; exact twin_rds hgl hgb.out U10.out, fun ad e => by cases e; exact own_lt U10.out _ rfl, by rw [hgl]; exact hN.out.symm, hgb.out⟩ ((M7.out.no (O9.out.trans q10)).mono ((O9.out.trans q10).size)) (Nat.le_refl _) _ _ hin.out).mono ?_; rintro e w11 ⟨rfl, o11⟩; have q11 : Only No w9 w11 := q10.trans o11; rw [← hdv.out]))
            all_goals go_wp2_with fail
            all_goals go_meet
            all_goals exact ⟨by first | rfl | simp, Lib.hid (by first | exact q11 | exact q11.drew)⟩
          case rest =>
            obtain ⟨rfl, hO10⟩ := hcut
            have OW := Lib.hid (O9.out.trans hO10.out)
            have BW := Lib.hid (B9.out.only hO10.out id)
            obtain ⟨adf, rfl, hcf⟩ := (FR7.out.no OW.out).at_ (i := k) (u := .bool (l.getD k false)) (by omega) (by simp [boC, show k < l.length by omega])
            cases hf : l.getD k false
            · rw [hf] at hcf
              have hbg : b = gs.getD k [] := by rw [hbq.out, flB_not hf]
              obtain ⟨adg, hadg, hc2⟩ := bl_cells hgb.out (show Rds _ 64 Ag gs.length (bsC gs) by rw [hgl]; exact GR7.out.no OW.out) k (by omega)
              subst hadg
              rw [← hbg] at hc2
              have hl64 : b.length = 64 := by have := h64.out; rwa [blC_length] at this
              have hl : (blC b).length = 64 := h64.out
              have CW := C4.out.only OW.out id
              have y5 := CW.cell 2
              simp only [List.getElem?_toArray, List.getElem?_cons_zero, List.getElem?_cons_succ] at y5
              replace CW := Lib.hid CW
              replace hc2 := Lib.hid hc2
              replace hbg := Lib.hid hbg
              go_wp2_with fail
              refine wp_region_quiet_lit (by kernel_rfl) (by kernel_rfl) ?_
              repeat (first
                | ((with_reducible refine wq_load48 ⟨G, 0, none⟩ (blC b) ?_ hl (fun w' hw' => ?_) ?_)
                   · rfl
                   · obtain ⟨m, rfl⟩ := hw'
                     intro j v hv
                     rw [Mm.add_plain]
                     exact (BW.out.cell j).trans (by simpa using hv))
                | ((with_reducible refine wq_load48 (adg.add (k * 64)) (blC b) ?_ hl (fun w' hw' => ?_) ?_)
                   · rfl
                   · obtain ⟨m, rfl⟩ := hw'
                     exact hc2.out)
                | ((with_reducible refine wq_neq48 b b ?_ ?_ hl64 hl64 ?_)
                   · rfl
                   · rfl)
                | quiet_step (fail))
              refine wpQuiet_nil ?_
              intro _ hw'
              obtain ⟨nq, hw''⟩ := hw'
              subst hw''
              have hdd : (!decide (b = b)) = false := by simp
              go_wp2_with fail
              go_roundw
              case rel => exact ⟨k + 1, by go_num, by omega, Lib.hid (OW.out.drewN _)⟩
              case measure => simp [intOf]; omega
            · rw [hf] at hcf
              have hbs : b = dv :: List.replicate 63 0 := by
                have e1 : b = stP W H l (dcs gs) ((k % W : Nat) : Int) ((k / W : Nat) : Int) :: List.replicate 63 0 := by rw [hbq.out, flB_yes hf]
                have e2 : dv = b.getD 0 0 := by rw [hdv.out]; exact hz0.out.out.symm
                rw [e2, e1]
                rfl
              have hdl : (lsP l (dcs gs) i ≤ msP l (dcs gs) i → lsP l (dcs gs) i ≤ dv ∧ dv ≤ msP l (dcs gs) i) ∧ (¬ lsP l (dcs gs) i ≤ msP l (dcs gs) i → dv = 0) := by
                have e3 : dv = stP W H l (dcs gs) (qx : Int) (qy : Int) := by
                  have e1 : b = stP W H l (dcs gs) ((k % W : Nat) : Int) ((k / W : Nat) : Int) :: List.replicate 63 0 := by rw [hbq.out, flB_yes hf]
                  have e2 : dv = b.getD 0 0 := by rw [hdv.out]; exact hz0.out.out.symm
                  rw [e2, e1, hqx.out, hqy.out]
                  rfl
                rw [e3]
                refine ⟨fun h => ?_, fun h => stP_zero (by rw [hN.out]; exact ls_none h)⟩
                obtain ⟨j, hj, hjf⟩ := ls_some h
                exact stP_within (by omega) (by omega) (dcs_bounds hgb.out) ⟨by omega, by omega⟩ ⟨by omega, by omega⟩ (by rw [hN.out]; exact ls_within l (dcs gs) i) (j := j) (by rw [hN.out]; exact hj) hjf
              have x0 := BW.out.cell 0
              have xf := BW.out.frozen 0
              have xs := BW.out.set 0 (.int .i16 0)
              have xz : (blC b).toArray.setIfInBounds 0 (.int .i16 0) = (blC (List.replicate 64 0)).toArray := by rw [hbs]; rfl
              have x1 : (blC b).toArray[0]? = some (.int .i16 dv) := by rw [hbs]; rfl
              rw [xz] at xs
              rw [x1] at x0
              obtain ⟨hd1, hd2⟩ := hdl
              have h65 : (blC (List.replicate 64 0)).length = 64 := rfl
              have e9 : IntKind.i64.wrap dv = dv := IntWalk.i64_in _ (by have := ls_bounds (l := l) (dcs_bounds hgb.out) i; by_cases h : lsP l (dcs gs) i ≤ msP l (dcs gs) i <;> simp_all <;> omega)
              replace xs := Lib.hid xs
              replace hbs := Lib.hid hbs
              clear xz x1
              go_upto_region 28 with (fail)
              have on : Hid (Only No wq (wc.setCell ⟨G, 0, none⟩ (.int .i16 0))) := Lib.hid (OW.out.setCell (p := ⟨G, 0, none⟩) (.inr (by have := hG.out; have := hO.out.size; show wq.heap.size ≤ G; omega)) _)
              generalize wc.setCell ⟨G, 0, none⟩ (.int .i16 0) = wn at xs on ⊢
              have hdz : (!decide (List.replicate 64 (0 : Int) = List.replicate 64 0)) = false := by simp
              by_cases h : lsP l (dcs gs) i ≤ msP l (dcs gs) i
              · obtain ⟨g1, g2⟩ := hd1 h
                have p1 : decide (lsP l (dcs gs) i ≤ msP l (dcs gs) i) = true := decide_eq_true h
                have p2 : decide (dv < lsP l (dcs gs) i) = false := decide_eq_false (by omega)
                have p3 : decide (msP l (dcs gs) i < dv) = false := decide_eq_false (by omega)
                have p4 : decide (msP l (dcs gs) i < lsP l (dcs gs) i) = false := decide_eq_false (by omega)
                clear hd1 hd2
                go_wp2_with (first
                  | ((with_reducible refine wl_load48 ⟨G, 0, none⟩ (blC (List.replicate 64 0)) ?_ h65 (fun j v hv => ?_) ?_)
                     · rfl
                     · rw [Mm.add_plain]
                       exact (xs.out.cell j).trans (by simpa using hv))
                  | ((with_reducible refine wl_neq48 (List.replicate 64 0) (List.replicate 64 0) ?_ ?_ (by simp) (by simp) ?_)
                     · rfl
                     · rfl))
                go_roundw
                case rel => exact ⟨k + 1, by go_num, by omega, on⟩
                case measure => simp [intOf]; omega
              · have hdv0 := hd2 h
                have p1 : decide (lsP l (dcs gs) i ≤ msP l (dcs gs) i) = false := decide_eq_false h
                have p4 : decide (msP l (dcs gs) i < lsP l (dcs gs) i) = true := decide_eq_true (by omega)
                have p5 : (dv != 0) = false := by rw [hdv0]; rfl
                clear hd1 hd2
                go_wp2_with (first
                  | ((with_reducible refine wl_load48 ⟨G, 0, none⟩ (blC (List.replicate 64 0)) ?_ h65 (fun j v hv => ?_) ?_)
                     · rfl
                     · rw [Mm.add_plain]
                       exact (xs.out.cell j).trans (by simpa using hv))
                  | ((with_reducible refine wl_neq48 (List.replicate 64 0) (List.replicate 64 0) ?_ ?_ (by simp) (by simp) ?_)
                     · rfl
                     · rfl))
                go_roundw
                case rel => exact ⟨k + 1, by go_num, by omega, on⟩
                case measure => simp [intOf]; omega
        · have hkt' : ¬ (k : Int) < i := by omega
          go_wp2_with fail
          go_ret
          exact ⟨rfl, A7.out.trans hO.out⟩
end Go.Proofs.Ytnepchdpgbdogaa.Ct
