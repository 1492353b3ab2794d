/- ConcealMirror: the walk. -/
import Derived.Test.YtnepchdpgbdogaaBd
import Derived.Test.YtnepchdpgbdogaaCr
import Derived.Test.YtnepchdpgbdogaaSp
import Derived.Deep.CutRange
import Derived.Deep.RegionHeld3
namespace Go.Proofs.Ytnepchdpgbdogaa.Ct
open Go.ChangeShapes Go.WideShapes Go.RowKit Mm
section
variable {ops : Array Oper} {rest : List Oper} {a : Act} {w : World} {Q : Act → Prop} {d : Option Tmp} {x y : Operand} {ty : TypeId} {p : String} {af : Array Edge}
theorem ws_mul (u v r : Int) (hr : IntKind.i64.wrap (u * v) = r) (hx : a.eval x = .int .i64 u) (hy : a.eval y = .int .i64 v)
    (h : wpStill Try.prog ops w Q rest (a.put d (.int .i64 r))) : wpStill Try.prog ops w Q (⟨d, .binOp .mul 3 x y 3, ty, p, af, none⟩ :: rest) a :=
  wpStill_step fun K hK => by
    rw [if_pos (by simp [Region.wanted])]
    unfold Oper.still execOp
    simp only [hx, hy]
    go_simp
    exact hK _ h
theorem ws_add (u v r : Int) (hr : IntKind.i64.wrap (u + v) = r) (hx : a.eval x = .int .i64 u) (hy : a.eval y = .int .i64 v)
    (h : wpStill Try.prog ops w Q rest (a.put d (.int .i64 r))) : wpStill Try.prog ops w Q (⟨d, .binOp .add 3 x y 3, ty, p, af, none⟩ :: rest) a :=
  wpStill_step fun K hK => by
    rw [if_pos (by simp [Region.wanted])]
    unfold Oper.still execOp
    simp only [hx, hy]
    go_simp
    exact hK _ h
theorem ws_sub (u v r : Int) (hr : IntKind.i64.wrap (u - v) = r) (hx : a.eval x = .int .i64 u) (hy : a.eval y = .int .i64 v)
    (h : wpStill Try.prog ops w Q rest (a.put d (.int .i64 r))) : wpStill Try.prog ops w Q (⟨d, .binOp .sub 3 x y 3, ty, p, af, none⟩ :: rest) a :=
  wpStill_step fun K hK => by
    rw [if_pos (by simp [Region.wanted])]
    unfold Oper.still execOp
    simp only [hx, hy]
    go_simp
    exact hK _ h
end
theorem dc12k (w : World) (B W H : Nat) (l : List Bool) (bs : List (List Int)) (A : Option Addr) (c g n : Nat) (hl : bs.length = n) (hr : Rds w 64 A n (bsC bs)) (hf : ∀ ad, A = some ad → ad.block < B) (hn : n = W * H) (hb : Bls bs) (hm : MapAt w B g W H l) (hB : B ≤ w.heap.size) (x y : Int) (hi : inB W H x y = true) :
    Calls Try.prog 12 #[.agg #[.int .i64 W, .int .i64 H, .slice A n c], P g, .int .i64 x, .int .i64 y] w fun e w' => e = .returned (.int .i16 (dcP W H l (dcs bs) x y)) ∧ Only No w w' := by
  subst hl
  exact dc12_in w B W H l bs A c g ⟨hr, hf, hn, hb⟩ hm hB x y hi
set_option maxRecDepth 100000 in
set_option maxHeartbeats 3200000 in
theorem mirror8 (w : World) (gw gh : Int) (A : Option Addr) (c : Nat) (sw sh : Int) (F : Option Addr) (fc : Nat) (fl : List Bool) (bs : List (List Int)) (hF : Rds w 1 F fl.length (boC fl)) (hA : Rds w 64 A bs.length (bsC bs)) (hb : Bls bs) (hsw : -9223372036854775808 ≤ sw ∧ sw ≤ 9223372036854775807) (hsh : -9223372036854775808 ≤ sh ∧ sh ≤ 9223372036854775807) :
    Calls Try.prog 8 #[sceneV gw gh A bs.length c sw sh F fl.length fc] w fun e w' => e = .returned (.bool true) ∧ Only No w w' := by
  have hW := fitN_le sw
  have hH := fitN_le sh
  replace hF := Lib.hid hF
  replace hA := Lib.hid hA
  replace hb := Lib.hid hb
  replace hsw := Lib.hid hsw
  replace hsh := Lib.hid hsh
  unfold sceneV
  go_enter Try.func8, Try.ntmps8
  go_upto_region 3 with (first
    | (go_at_call 19; refine (alive19 _).mono ?_; rintro e w1 ⟨rfl, o1⟩; have O1 := Lib.hid ((((Only.refl No w).alloc _)).trans o1); have B1 := Lib.hid ((Blk.new w 27 _).only o1 id); have c0 := B1.out.cell 0; have c1 := B1.out.cell 1; have c2 := B1.out.cell 2; have c3 := B1.out.cell 3; have c4 := B1.out.cell 4; have c5 := B1.out.cell 5; simp only [List.getElem?_toArray, List.getElem?_cons_zero, List.getElem?_cons_succ] at c0 c1 c2 c3 c4 c5; clear o1)
    | (go_at_call 20; refine (fit20 w1 gw gh A c sw sh F fc fl bs (hF.out.no O1.out) (hA.out.no O1.out) hb.out hsw.out hsh.out).mono ?_; rintro e w2 ⟨vg, vf, rfl, o2, hvg, hvf⟩; obtain ⟨Ag, cg, rfl⟩ := own_slice hvg; obtain ⟨Af, cf, rfl⟩ := own_slice hvf; have O2 := Lib.hid o2; have G2 := Lib.hid hvg; have F2 := Lib.hid hvf; clear o2 hvg hvf))
  generalize hww : fitN sw = W at *
  generalize hhh : fitN sh = H at *
  have hmul : W * H ≤ 40 * 40 := Nat.mul_le_mul hW hH
  generalize hbb : fitL bs (W * H) = gs at *
  generalize hll : flg fl (W * H) = l at *
  have hgl : gs.length = W * H := by rw [← hbb]; exact fitL_len _ _
  have hll2 : l.length = W * H := by rw [← hll]; exact flg_len _ _
  have hgb : Hid (Bls gs) := Lib.hid (by rw [← hbb]; exact fitL_bls hb.out _)
  generalize hw3 : w2.alloc (Obj.cells #[.int .i64 W, .int .i64 H, .slice Ag (W * H) cg] 24) = w3
  have b3 : Hid (Blk w3 w2.heap.size 24 #[.int .i64 W, .int .i64 H, .slice Ag (W * H) cg]) := Lib.hid (by rw [← hw3]; exact Blk.new _ _ _)
  have o3 : Hid (Only No w2 w3) := Lib.hid (by rw [← hw3]; exact (Only.refl No w2).alloc _)
  clear hw3 hbb hll c0 c1 c2 c3 c4 c5
  obtain ⟨N, hN⟩ : ∃ N, W * H = N := ⟨_, rfl⟩
  rw [hN] at hgl hll2 hmul b3 F2 G2 ⊢
  replace hN := Lib.hid hN
  have F3 : Hid (w3.ownsRow w1.heap.size 4 1 (.slice Af N cf) N (boC l)) := Lib.hid (own_only F2.out o3.out (fun _ _ => id))
  have FR3 := Lib.hid (Rds.of_own F3.out)
  have hS : Hid (∀ i, Own (.slice Ag N cg) i → i < w2.heap.size) := Lib.hid fun i hi => own_lt G2.out i hi
  have hSF : Hid (∀ i, Own (.slice Ag N cg) i → ¬ (Value.slice Af N cf).ownBlock = some i) := Lib.hid fun i hi hf => own_ne G2.out F2.out (by decide) i hi hf
  have hSw : Hid (∀ i, Own (.slice Ag N cg) i → w.heap.size ≤ i) := Lib.hid fun i hi => by have := own_ge G2.out i hi; have := O1.out.size; omega
  have R3 := Lib.hid (RowO.of_own hgb.out (own_only G2.out o3.out (fun _ _ => id)))
  have A3 : Hid (Only No w w3) := Lib.hid ((O1.out.trans O2.out).trans o3.out)
  obtain ⟨kb, hkb⟩ : ∃ kb, kb = w2.heap.size := ⟨_, rfl⟩
  rw [← hkb] at b3 hS ⊢
  have hSk : ∀ wx, Only (Own (.slice Ag N cg)) w3 wx → Blk wx kb 24 #[.int .i64 W, .int .i64 H, .slice Ag N cg] := fun wx ho => b3.out.only ho (fun h => by have := hS.out kb h; omega)
  replace hSk := Lib.hid hSk
  replace hkb := Lib.hid hkb
  clear O1 B1 hF hA hb hsw hsh F2 G2 O2 o3
  obtain ⟨j0, y0, hj0, hy0, hyz, hy1, hy2⟩ := info48c
  obtain ⟨i0, hi0, hz0, hz1, hz2⟩ := info_parts info4
  go_wp2_with fail
  go_loopw [8] (fun v8 wx => ∃ i : Nat, v8 = .int .i64 i ∧ i ≤ N ∧ Hid (RowO wx Ag (clL gs i) ∧ Only (Own (.slice Ag N cg)) w3 wx)) (fun v8 _ => N - (intOf v8).toNat)
  case atStart => exact ⟨0, rfl, by omega, Lib.hid ⟨by rw [clL_zero]; exact R3.out, Only.refl _ _⟩⟩
  case round =>
    obtain ⟨i, rfl, hi, hI⟩ := hrel
    have B3 := Lib.hid (hSk.out wr hI.out.2)
    have r2 := B3.out.cell 2
    simp only [List.getElem?_toArray, List.getElem?_cons_zero, List.getElem?_cons_succ] at r2
    by_cases hlt : i < N
    · have hlt' : (i : Int) < N := by omega
      obtain ⟨G, rfl, hr⟩ : ∃ G, Ag = some ⟨G, 0, none⟩ ∧ Row wr G (clL gs i) := by
        rcases hI.out.1 with h | h
        · have := congrArg List.length h
          rw [clL_len, List.length_nil] at this
          omega
        · exact h
      obtain ⟨es, he1, he2, he3⟩ := hr
      have hx1 := he3 i (by rw [clL_len]; omega) 0 (by omega)
      rw [clL_get gs i i (by omega), if_neg (by omega), Nat.add_zero] at hx1
      have hc0 := he1.cell (i * 64)
      rw [hx1] at hc0
      have hf0 := he1.frozen (i * 64)
      have hok := bls_get hgb.out (show i < gs.length by omega)
      obtain ⟨dv, hdv⟩ : ∃ dv, dv = (gs.getD i []).getD 0 0 := ⟨_, rfl⟩
      rw [← hdv] at hc0
      replace hdv := Lib.hid hdv
      by_cases hv : dv = -32768
      · have hdd : (dv == -32768) = true := by rw [hv]; rfl
        have hsc : Hid (clL gs (i + 1) = (clL gs i).set i ((gs.getD i []).set 0 (-32767))) := Lib.hid (by rw [clL_succ, clB, if_pos (by rw [← hdv.out]; exact hv)])
        have hrow : Hid (Row wr G (clL gs i)) := Lib.hid ⟨es, he1, he2, he3⟩
        replace he1 := Lib.hid he1
        clear he3 hx1
        go_wp2_with fail
        go_roundw
        case rel => exact ⟨i + 1, by go_num, by omega, Lib.hid ⟨.inr ⟨G, rfl, by rw [hsc.out]; exact hrow.out.set0 (by rw [clL_get gs i i (by omega), if_neg (by omega)]) (by rw [clL_len]; omega) hok.1⟩, hI.out.2.setCell (p := ⟨G, i * 64, none⟩) (.inl rfl) _⟩⟩
        case measure => simp [intOf]; omega
      · have hdd : (dv == -32768) = false := by simp [hv]
        have hsc : Hid (clL gs (i + 1) = clL gs i) := Lib.hid (clL_keep (by rw [← hdv.out]; exact hv))
        replace he1 := Lib.hid he1
        clear he3 hx1
        go_wp2_with fail
        go_roundw
        case rel => exact ⟨i + 1, by go_num, by omega, Lib.hid ⟨by rw [hsc.out]; exact hI.out.1, hI.out.2⟩⟩
        case measure => simp [intOf]; omega
    · have hlt' : ¬ (i : Int) < N := by omega
      obtain rfl : i = N := by omega
      go_wp2_with fail
      obtain ⟨qs, hqs⟩ : ∃ qs, qs = clL gs i := ⟨_, rfl⟩
      have hqb : Hid (Bls qs) := Lib.hid (by rw [hqs]; exact clL_bls hgb.out i)
      have hql : qs.length = i := by rw [hqs, clL_len, hgl]
      have hqd : Hid (∀ j, -32767 ≤ dcs qs j) := Lib.hid fun j => by rw [hqs]; exact clL_dc hgb.out (by omega)
      have QR : Hid (Rds wr 64 Ag i (bsC qs)) := Lib.hid (RowO.rds hqb.out hql (by rw [hqs]; exact hI.out.1))
      have FR : Hid (Rds wr 1 Af i (boC l)) := Lib.hid (Rds.of_own (own_only F3.out hI.out.2 (fun j hj h => hSF.out j h hj)))
      have AW : Hid (Only No w wr) := Lib.hid (A3.out.then hI.out.2 (fun j h => .inr (hSw.out j h)))
      clear hqs hI R3 F3 FR3 hSF hSw hS hSk A3
      obtain ⟨wq, hwq⟩ : ∃ wq, wq = wr := ⟨_, rfl⟩
      subst hwq
      generalize hw4 : ((wq.alloc (Obj.cells #[.int .i64 W, .int .i64 H, .slice none 0 0] 24)).alloc (Obj.cells #[.int .i64 H, .int .i64 W, .slice none 0 0] 24)).alloc (Obj.cells #[.int .i64 W, .int .i64 H, .slice none 0 0] 24) = wS
      have oS : Hid (Only No wq wS) := Lib.hid (by rw [← hw4]; exact (((Only.refl No wq).alloc _).alloc _).alloc _)
      have b9 : Hid (Blk wS wq.heap.size 24 #[.int .i64 W, .int .i64 H, .slice none 0 0]) := Lib.hid (by rw [← hw4]; exact ((Blk.new _ _ _).alloc _).alloc _)
      have b10 : Hid (Blk wS (wq.heap.size + 1) 24 #[.int .i64 H, .int .i64 W, .slice none 0 0]) := Lib.hid (by rw [← hw4]; exact (blk_new1' _ _ _ _).alloc _)
      have b11 : Hid (Blk wS (wq.heap.size + 1 + 1) 24 #[.int .i64 W, .int .i64 H, .slice none 0 0]) := Lib.hid (by rw [← hw4]; exact blk_new2 _ _ _ _ _)
      clear hw4
      obtain ⟨k9, hk9⟩ : ∃ k, k = wq.heap.size := ⟨_, rfl⟩
      rw [← hk9] at b9 b10 b11 ⊢
      have hk11 : k9 + 1 + 1 < wS.heap.size := b11.out.lt
      have hrel9 : Hid (∀ wx, Only (fun b => b = k9 ∨ b = k9 + 1 + 1) wS wx → Only No wq wx) := Lib.hid fun wx ho => oS.out.then ho (fun j h => .inr (by omega))
      replace hk9 := Lib.hid hk9
      go_loopw [14, 12] (fun v14 v12 wx => ∃ y : Nat, v14 = .int .i64 y ∧ y ≤ H ∧ Hid (Ms wS wx k9 (k9 + 1 + 1) W H (fun j => qs.getD (lf W j) []) (fun j => ngB (qs.getD j [])) (fun j => l.getD (lf W j) false) (y * W) v12)) (fun v14 _ _ => H - (intOf v14).toNat)
      case atStart => exact ⟨0, rfl, by omega, Lib.hid (by rw [Nat.zero_mul]; exact ⟨.slice none 0 0, .slice none 0 0, ⟨b9.out, World.ownsRow_nil _ _ _ _⟩, ⟨b11.out, World.ownsRow_nil _ _ _ _⟩, World.ownsRow_nil _ _ _ _, fun i h => by simp [Value.ownBlock] at h, Only.refl _ _⟩)⟩
      case round =>
        obtain ⟨y, rfl, hy, hM⟩ := hrel
        by_cases hyl : y < H
        · have hyl' : (y : Int) < H := by omega
          go_wp2_with fail
          go_loopw [15, 12] (fun v15 v12 wx => ∃ x : Nat, v15 = .int .i64 x ∧ x ≤ W ∧ Hid (Ms wS wx k9 (k9 + 1 + 1) W H (fun j => qs.getD (lf W j) []) (fun j => ngB (qs.getD j [])) (fun j => l.getD (lf W j) false) (y * W + x) v12)) (fun v15 _ _ => W - (intOf v15).toNat)
          case atStart => exact ⟨0, rfl, by omega, hM⟩
          case round =>
            obtain ⟨x, rfl, hx, hM⟩ := hrel
            by_cases hxl : x < W
            · have hxl' : (x : Int) < W := by omega
              obtain ⟨vL, vT, hL, hT, hB, hd, ho⟩ := hM.out
              have hO := Lib.hid (hrel9.out _ ho)
              obtain ⟨p, hp⟩ : ∃ p, p = y * W := ⟨_, rfl⟩
              have hpW : p + W ≤ i := by rw [hp, ← Nat.succ_mul, ← hN.out, Nat.mul_comm W H]; exact Nat.mul_le_mul_right _ hyl
              have e1 : IntKind.i64.wrap ((y : Int) * (W : Int)) = (p : Int) := by rw [hp, Int.natCast_mul]; exact IntWalk.i64_in _ (by rw [← Int.natCast_mul, ← hp]; omega)
              rw [← hp] at hL hT hB
              obtain ⟨t, ht⟩ : ∃ t, t = p + (W - 1 - x) := ⟨_, rfl⟩
              have hti : t < i := by omega
              have ht' : (t : Int) < i := by omega
              obtain ⟨s, hs⟩ : ∃ s, s = p + W - 1 := ⟨_, rfl⟩
              obtain ⟨q, hq⟩ : ∃ q, q = p + W := ⟨_, rfl⟩
              have e2 : IntKind.i64.wrap ((p : Int) + (W : Int)) = (q : Int) := by rw [IntWalk.i64_in _ (by omega)]; omega
              have e3 : IntKind.i64.wrap ((q : Int) - 1) = (s : Int) := by rw [IntWalk.i64_in _ (by omega)]; omega
              have e4 : IntKind.i64.wrap ((s : Int) - (x : Int)) = (t : Int) := by rw [IntWalk.i64_in _ (by omega)]; omega
              replace hs := Lib.hid hs
              replace hq := Lib.hid hq
              have e5 : (p : Int) + (W : Int) - 1 - (x : Int) = (t : Int) := by omega
              have hlf : Hid (lf W (p + x) = t) := Lib.hid (by rw [hp, lf_at hxl, ht, hp])
              have hok := bls_get hqb.out (show t < qs.length by omega)
              obtain ⟨ad, rfl, hcs⟩ := bl_cells hqb.out (show Rds wr.drew 64 Ag qs.length (bsC qs) by rw [hql]; exact (QR.out.no hO.out).no (Only.refl No wr).drew) t (by omega)
              have h64 := bl_len hqb.out t (by omega)
              obtain ⟨bL, hbL⟩ : ∃ b, b = qs.getD t [] := ⟨_, rfl⟩
              rw [← hbL] at hcs h64 hok
              replace hbL := Lib.hid hbL
              have r2 := (B3.out.only hO.out id).cell 2
              simp only [List.getElem?_toArray, List.getElem?_cons_zero, List.getElem?_cons_succ] at r2
              obtain ⟨A1, c1, rfl⟩ := own_slice hL.own
              obtain ⟨A2, c2, rfl⟩ := own_slice hB
              have s2 := hL.blk.cell 2
              simp only [List.getElem?_toArray, List.getElem?_cons_zero, List.getElem?_cons_succ] at s2
              replace hM := Lib.hid True.intro
              have hL' := Lib.hid hL
              have hT' := Lib.hid hT
              have hB' := Lib.hid hB
              have hd' := Lib.hid hd
              have ho' := Lib.hid ho
              replace ht := Lib.hid ht
              replace hp := Lib.hid hp
              clear hL hT hB hd ho
              go_wp2_with fail
              go_cut [87] from 71 to 86 (fun s87 wx => s87 = s87 ∧ Hid (∃ v6, CR wx k9 W H wS.heap.size (fun j => qs.getD (lf W j) []) (p + x + 1) v6 ∧ CR wx (k9 + 1 + 1) W H wS.heap.size (fun j => ngB (qs.getD j [])) (p + x) vT ∧ wx.ownsRow wS.heap.size 4 1 (.slice A2 (p + x) c2) (p + x) (boC (lst (fun j => l.getD (lf W j) false) (p + x))) ∧ (∀ i, v6.ownBlock = some i → ¬ vT.ownBlock = some i) ∧ Only (fun b => b = k9 ∨ b = k9 + 1 + 1) wS wx))
              case first =>
                refine wp_region_any (by kernel_rfl) ?_
                change wpAny _ _ _ _ _ _ _ (World.drew wr)
                replace s2 : wr.drew.cell? ⟨k9, 2, none⟩ = some (.slice A1 (p + x) c1) := s2
                replace r2 : wr.drew.cell? ⟨kb, 2, none⟩ = some (.slice (some ad) i cg) := r2
                have od : Only No wr wr.drew := (Only.refl No wr).drew
                have s2' : (wr.drew.alloc (.cells (blC bL).toArray 48)).cell? ⟨k9, 2, none⟩ = some (.slice A1 (p + x) c1) := (hL'.out.no (od.alloc _)).blk.cell 2
                replace hcs := Lib.hid hcs
                generalize wr.drew = wd at *
                have Od := Lib.hid (od.alloc (.cells (blC bL).toArray 48))
                have hbs : Hid (wS.heap.size ≤ (wd.alloc (.cells (blC bL).toArray 48)).heap.size) := Lib.hid (Nat.le_trans ho'.out.size Od.out.size)
                have cL := Lib.hid (hL'.out.no Od.out)
                have cLn := Lib.hid hL'.out.notK
                have hnew : Hid (Rds (wd.alloc (.cells (blC bL).toArray 48)) 64 (some ⟨wd.heap.size, 0, none⟩) 1 (blC bL)) := Lib.hid (by have := Rds.fresh (n := 1) (size := 64) (Blk.new wd 48 (blC bL).toArray) (by simp [h64]); simpa using this)
                clear od
                refine wpAny_take (i := 0) (oi := { dst := some 71, op := Op.fieldAddr 24 (Operand.tmp 9) 2, type := 0, pos := "outright.go:135", after := #[], guard := none }) (v := ?_) rfl (by kernel_rfl) (by kernel_rfl) (by kernel_rfl) (fun _ _ _ h => h) (Or.inl ⟨by rfl, ?_⟩) ?_
                rotate_left
                · (intro w0; go_simp; (try with_reducible rfl))
                (try simp only [Act.put, List.setIfInBounds_toArray, List.set_cons_zero, List.set_cons_succ])
                refine wpAny_take (i := 2) (oi := { dst := some 73, op := Op.fieldAddr 24 (Operand.tmp 4) 2, type := 0, pos := "outright.go:135", after := #[], guard := none }) (v := ?_) rfl (by kernel_rfl) (by kernel_rfl) (by kernel_rfl) (fun _ _ _ h => h) (Or.inl ⟨by rfl, ?_⟩) ?_
                rotate_left
                · (intro w0; go_simp; (try with_reducible rfl))
                (try simp only [Act.put, List.setIfInBounds_toArray, List.set_cons_zero, List.set_cons_succ])
                refine wpAny_take (i := 4) (oi := { dst := some 75, op := Op.move (Operand.tmp 14), type := 3, pos := "outright.go:135", after := #[], guard := none }) (v := ?_) rfl (by kernel_rfl) (by kernel_rfl) (by kernel_rfl) (fun _ _ _ h => h) (Or.inl ⟨by rfl, ?_⟩) ?_
                rotate_left
                · (intro w0; go_simp; (try with_reducible rfl))
                (try simp only [Act.put, List.setIfInBounds_toArray, List.set_cons_zero, List.set_cons_succ])
                refine wpAny_take (i := 5) (oi := { dst := some 76, op := Op.move (Operand.tmp 5), type := 3, pos := "outright.go:135", after := #[], guard := none }) (v := ?_) rfl (by kernel_rfl) (by kernel_rfl) (by kernel_rfl) (fun _ _ _ h => h) (Or.inl ⟨by rfl, ?_⟩) ?_
                rotate_left
                · (intro w0; go_simp; (try with_reducible rfl))
                (try simp only [Act.put, List.setIfInBounds_toArray, List.set_cons_zero, List.set_cons_succ])
                refine wpAny_take (i := 6) (oi := { dst := some 77, op := Op.binOp BinOp.mul 3 (Operand.tmp 75) (Operand.tmp 76) 3, type := 3, pos := "outright.go:135", after := #[{ on := 4, ground := Ground.data }, { on := 5, ground := Ground.data }], guard := none }) (v := ?_) rfl (by kernel_rfl) (by kernel_rfl) (by kernel_rfl) (fun _ _ _ h => h) (Or.inl ⟨by rfl, ?_⟩) ?_
                rotate_left
                · (intro w0; go_simp; (try with_reducible rfl))
                (try simp only [Act.put, List.setIfInBounds_toArray, List.set_cons_zero, List.set_cons_succ])
                refine wpAny_take (i := 7) (oi := { dst := some 78, op := Op.move (Operand.tmp 5), type := 3, pos := "outright.go:135", after := #[], guard := none }) (v := ?_) rfl (by kernel_rfl) (by kernel_rfl) (by kernel_rfl) (fun _ _ _ h => h) (Or.inl ⟨by rfl, ?_⟩) ?_
                rotate_left
                · (intro w0; go_simp; (try with_reducible rfl))
                (try simp only [Act.put, List.setIfInBounds_toArray, List.set_cons_zero, List.set_cons_succ])
                refine wpAny_take (i := 8) (oi := { dst := some 79, op := Op.binOp BinOp.add 3 (Operand.tmp 77) (Operand.tmp 78) 3, type := 3, pos := "outright.go:135", after := #[{ on := 6, ground := Ground.data }, { on := 7, ground := Ground.data }], guard := none }) (v := ?_) rfl (by kernel_rfl) (by kernel_rfl) (by kernel_rfl) (fun _ _ _ h => h) (Or.inl ⟨by rfl, ?_⟩) ?_
                rotate_left
                · (intro w0; go_simp; (try with_reducible rfl))
                (try simp only [Act.put, List.setIfInBounds_toArray, List.set_cons_zero, List.set_cons_succ])
                refine wpAny_take (i := 9) (oi := { dst := some 80, op := Op.binOp BinOp.sub 3 (Operand.tmp 79) (Operand.const (Value.int IntKind.i64 1)) 3, type := 3, pos := "outright.go:135", after := #[{ on := 8, ground := Ground.data }], guard := none }) (v := ?_) rfl (by kernel_rfl) (by kernel_rfl) (by kernel_rfl) (fun _ _ _ h => h) (Or.inl ⟨by rfl, ?_⟩) ?_
                rotate_left
                · (intro w0; go_simp; (try with_reducible rfl))
                (try simp only [Act.put, List.setIfInBounds_toArray, List.set_cons_zero, List.set_cons_succ])
                refine wpAny_take (i := 10) (oi := { dst := some 81, op := Op.move (Operand.tmp 15), type := 3, pos := "outright.go:135", after := #[], guard := none }) (v := ?_) rfl (by kernel_rfl) (by kernel_rfl) (by kernel_rfl) (fun _ _ _ h => h) (Or.inl ⟨by rfl, ?_⟩) ?_
                rotate_left
                · (intro w0; go_simp; (try with_reducible rfl))
                (try simp only [Act.put, List.setIfInBounds_toArray, List.set_cons_zero, List.set_cons_succ])
                refine wpAny_take (i := 11) (oi := { dst := some 82, op := Op.binOp BinOp.sub 3 (Operand.tmp 80) (Operand.tmp 81) 3, type := 3, pos := "outright.go:135", after := #[{ on := 9, ground := Ground.data }, { on := 10, ground := Ground.data }], guard := none }) (v := ?_) rfl (by kernel_rfl) (by kernel_rfl) (by kernel_rfl) (fun _ _ _ h => h) (Or.inl ⟨by rfl, ?_⟩) ?_
                rotate_left
                · (intro w0; go_simp; (try with_reducible rfl))
                (try simp only [Act.put, List.setIfInBounds_toArray, List.set_cons_zero, List.set_cons_succ])
                refine wpAny_ready (rs := [1, 3]) (by kernel_rfl) (by simp) ?_
                refine AllReady.cons (o := { dst := some 72, op := Op.load 22 (Operand.tmp 71), type := 22, pos := "outright.go:135", after := #[{ on := 0, ground := Ground.data }], guard := none }) rfl (fun K hK => ?_) ?_
                · go_simp
                  refine hK _ _ ?_
                  clear hK K
                  (try simp only [Act.put, List.setIfInBounds_toArray, List.set_cons_zero, List.set_cons_succ])
                  refine wpAny_ready (rs := [3]) (by kernel_rfl) (by simp) ?_
                  refine AllReady.cons (o := { dst := some 74, op := Op.load 22 (Operand.tmp 73), type := 22, pos := "outright.go:135", after := #[{ on := 2, ground := Ground.data }], guard := none }) rfl (fun K hK => ?_) ?_
                  rotate_left
                  · exact AllReady.nil
                  go_simp
                  refine hK _ _ ?_
                  clear hK K
                  (try simp only [Act.put, List.setIfInBounds_toArray, List.set_cons_zero, List.set_cons_succ])
                  refine wpAny_take (i := 12) (oi := { dst := some 83, op := Op.indexAddr 22 (Operand.tmp 74) (Operand.tmp 82), type := 0, pos := "outright.go:135", after := #[{ on := 3, ground := Ground.data }, { on := 11, ground := Ground.data }], guard := none }) (v := ?_) rfl (by kernel_rfl) (by kernel_rfl) (by kernel_rfl) (fun _ _ _ h => h) (Or.inl ⟨by rfl, ?_⟩) ?_
                  rotate_left
                  · (intro w0; go_simp; (try with_reducible rfl))
                  (try simp only [Act.put, List.setIfInBounds_toArray, List.set_cons_zero, List.set_cons_succ])
                  refine wpAny_ready (rs := [13]) (by kernel_rfl) (by simp) ?_
                  refine AllReady.cons (o := { dst := some 84, op := Op.load 48 (Operand.tmp 83), type := 48, pos := "outright.go:135", after := #[{ on := 12, ground := Ground.data }], guard := none }) rfl (fun K hK => ?_) ?_
                  rotate_left
                  · exact AllReady.nil
                  refine step_load48 (ad.add (t * 64)) (blC bL) rfl h64 hcs.out ?_
                  refine hK _ _ ?_
                  clear hK K
                  (try simp only [Act.put, List.setIfInBounds_toArray, List.set_cons_zero, List.set_cons_succ])
                  refine wpAny_ready (rs := [14]) (by kernel_rfl) (by simp) ?_
                  refine AllReady.cons (o := { dst := some 85, op := Op.buildSlice 22 1 #[(0, Operand.tmp 84)], type := 22, pos := "outright.go:135", after := #[{ on := 13, ground := Ground.data }], guard := none }) rfl (fun K hK => ?_) ?_
                  rotate_left
                  · exact AllReady.nil
                  refine step_build1 (blC bL) rfl h64 ?_
                  refine hK _ _ ?_
                  clear hK K
                  (try simp only [Act.put, List.setIfInBounds_toArray, List.set_cons_zero, List.set_cons_succ])
                  refine wpAny_ready (rs := [15]) (by kernel_rfl) (by simp) ?_
                  refine AllReady.cons (o := { dst := some 86, op := Op.call { callee := Callee.builtin Builtin.append, args := #[Operand.tmp 72, Operand.tmp 85], argTypes := #[22, 22] }, type := 22, pos := "outright.go:135", after := #[{ on := 1, ground := Ground.data }, { on := 14, ground := Ground.data }], guard := none }) rfl (fun K hK => ?_) ?_
                  rotate_left
                  · exact AllReady.nil
                  refine step_append_any (by rfl) (.tmp 72) (.tmp 85) _ (by rfl) wS.heap.size 48 j0 _ 64 128 Try.underlying22 hj0 hy0 hy1 hy2 hyz (by omega) (.slice A1 (p + x) c1) (p + x) (bsC (lst (fun j => qs.getD (lf W j) []) (p + x))) rfl cL.out.own (some ⟨wd.heap.size, 0, none⟩) 1 1 (blC bL) rfl hnew.out (blC_one _) (by simp only [maxLen]; omega) (by omega) hbs.out ?_
                  intro v6 w6 hown6 hon6 hat6
                  have hb6 := cL.out.blk.only hon6 cLn.out
                  obtain ⟨A6, c6, rfl⟩ := own_slice hown6
                  have hg6 := hb6.cell 2
                  have hf6 := hb6.frozen 2
                  simp only [List.getElem?_toArray, List.getElem?_cons_zero, List.getElem?_cons_succ] at hg6
                  replace hb6 := Lib.hid hb6
                  replace hown6 := Lib.hid hown6
                  replace hon6 := Lib.hid hon6
                  replace hat6 := Lib.hid hat6
                  refine hK _ _ ?_
                  clear hK K
                  (try simp only [Act.put, List.setIfInBounds_toArray, List.set_cons_zero, List.set_cons_succ])
                  refine wpAny_take (i := 16) (oi := { dst := some 87, op := Op.fieldAddr 24 (Operand.tmp 9) 2, type := 0, pos := "outright.go:135", after := #[{ on := 0, ground := Ground.phase }, { on := 1, ground := Ground.phase }, { on := 2, ground := Ground.phase }, { on := 3, ground := Ground.phase }, { on := 4, ground := Ground.phase }, { on := 5, ground := Ground.phase }, { on := 6, ground := Ground.phase }, { on := 7, ground := Ground.phase }, { on := 8, ground := Ground.phase }, { on := 9, ground := Ground.phase }, { on := 10, ground := Ground.phase }, { on := 11, ground := Ground.phase }, { on := 12, ground := Ground.phase }, { on := 13, ground := Ground.phase }, { on := 14, ground := Ground.phase }, { on := 15, ground := Ground.phase }], guard := none }) (v := ?_) rfl (by kernel_rfl) (by kernel_rfl) (by kernel_rfl) (fun _ _ _ h => h) (Or.inl ⟨by rfl, ?_⟩) ?_
                  rotate_left
                  · (intro w0; go_simp; (try with_reducible rfl))
                  (try simp only [Act.put, List.setIfInBounds_toArray, List.set_cons_zero, List.set_cons_succ])
                  refine wpAny_ready (rs := [17]) (by kernel_rfl) (by simp) ?_
                  refine AllReady.cons (o := { dst := none, op := Op.store 22 (Operand.tmp 87) (Operand.tmp 86), type := 0, pos := "outright.go:135", after := #[{ on := 16, ground := Ground.data }, { on := 15, ground := Ground.data }, { on := 15, ground := Ground.chain }, { on := 0, ground := Ground.phase }, { on := 1, ground := Ground.phase }, { on := 2, ground := Ground.phase }, { on := 3, ground := Ground.phase }, { on := 4, ground := Ground.phase }, { on := 5, ground := Ground.phase }, { on := 6, ground := Ground.phase }, { on := 7, ground := Ground.phase }, { on := 8, ground := Ground.phase }, { on := 9, ground := Ground.phase }, { on := 10, ground := Ground.phase }, { on := 11, ground := Ground.phase }, { on := 12, ground := Ground.phase }, { on := 13, ground := Ground.phase }, { on := 14, ground := Ground.phase }, { on := 15, ground := Ground.phase }], guard := none }) rfl (fun K hK => ?_) ?_
                  rotate_left
                  · exact AllReady.nil
                  go_simp
                  refine hK _ _ ?_
                  clear hK K
                  (try simp only [Act.put, List.setIfInBounds_toArray, List.set_cons_zero, List.set_cons_succ])
                  refine wpAny_done (by kernel_rfl) ?_ _
                  go_wp2_with fail
                  go_meet
                  exact ⟨trivial, Lib.hid ⟨_, step_one (S := fun b => b = k9 ∨ b = k9 + 1 + 1) (.inl rfl) hL'.out hT'.out hB'.out hd'.out ho'.out (Nat.le_refl _) (by omega) Od.out hon6.out (by have := hown6.out; simp only [hlf.out]; rw [← hbL.out]; exact this) hat6.out⟩⟩
                refine AllReady.cons (o := { dst := some 74, op := Op.load 22 (Operand.tmp 73), type := 22, pos := "outright.go:135", after := #[{ on := 2, ground := Ground.data }], guard := none }) rfl (fun K hK => ?_) ?_
                rotate_left
                · exact AllReady.nil
                go_simp
                refine hK _ _ ?_
                clear hK K
                (try simp only [Act.put, List.setIfInBounds_toArray, List.set_cons_zero, List.set_cons_succ])
                refine wpAny_take (i := 12) (oi := { dst := some 83, op := Op.indexAddr 22 (Operand.tmp 74) (Operand.tmp 82), type := 0, pos := "outright.go:135", after := #[{ on := 3, ground := Ground.data }, { on := 11, ground := Ground.data }], guard := none }) (v := ?_) rfl (by kernel_rfl) (by kernel_rfl) (by kernel_rfl) (fun _ _ _ h => h) (Or.inl ⟨by rfl, ?_⟩) ?_
                rotate_left
                · (intro w0; go_simp; (try with_reducible rfl))
                (try simp only [Act.put, List.setIfInBounds_toArray, List.set_cons_zero, List.set_cons_succ])
                refine wpAny_ready (rs := [1, 13]) (by kernel_rfl) (by simp) ?_
                refine AllReady.cons (o := { dst := some 72, op := Op.load 22 (Operand.tmp 71), type := 22, pos := "outright.go:135", after := #[{ on := 0, ground := Ground.data }], guard := none }) rfl (fun K hK => ?_) ?_
                · go_simp
                  refine hK _ _ ?_
                  clear hK K
                  (try simp only [Act.put, List.setIfInBounds_toArray, List.set_cons_zero, List.set_cons_succ])
                  refine wpAny_ready (rs := [13]) (by kernel_rfl) (by simp) ?_
                  refine AllReady.cons (o := { dst := some 84, op := Op.load 48 (Operand.tmp 83), type := 48, pos := "outright.go:135", after := #[{ on := 12, ground := Ground.data }], guard := none }) rfl (fun K hK => ?_) ?_
                  rotate_left
                  · exact AllReady.nil
                  refine step_load48 (ad.add (t * 64)) (blC bL) rfl h64 hcs.out ?_
                  refine hK _ _ ?_
                  clear hK K
                  (try simp only [Act.put, List.setIfInBounds_toArray, List.set_cons_zero, List.set_cons_succ])
                  refine wpAny_ready (rs := [14]) (by kernel_rfl) (by simp) ?_
                  refine AllReady.cons (o := { dst := some 85, op := Op.buildSlice 22 1 #[(0, Operand.tmp 84)], type := 22, pos := "outright.go:135", after := #[{ on := 13, ground := Ground.data }], guard := none }) rfl (fun K hK => ?_) ?_
                  rotate_left
                  · exact AllReady.nil
                  refine step_build1 (blC bL) rfl h64 ?_
                  refine hK _ _ ?_
                  clear hK K
                  (try simp only [Act.put, List.setIfInBounds_toArray, List.set_cons_zero, List.set_cons_succ])
                  refine wpAny_ready (rs := [15]) (by kernel_rfl) (by simp) ?_
                  refine AllReady.cons (o := { dst := some 86, op := Op.call { callee := Callee.builtin Builtin.append, args := #[Operand.tmp 72, Operand.tmp 85], argTypes := #[22, 22] }, type := 22, pos := "outright.go:135", after := #[{ on := 1, ground := Ground.data }, { on := 14, ground := Ground.data }], guard := none }) rfl (fun K hK => ?_) ?_
                  rotate_left
                  · exact AllReady.nil
                  refine step_append_any (by rfl) (.tmp 72) (.tmp 85) _ (by rfl) wS.heap.size 48 j0 _ 64 128 Try.underlying22 hj0 hy0 hy1 hy2 hyz (by omega) (.slice A1 (p + x) c1) (p + x) (bsC (lst (fun j => qs.getD (lf W j) []) (p + x))) rfl cL.out.own (some ⟨wd.heap.size, 0, none⟩) 1 1 (blC bL) rfl hnew.out (blC_one _) (by simp only [maxLen]; omega) (by omega) hbs.out ?_
                  intro v6 w6 hown6 hon6 hat6
                  have hb6 := cL.out.blk.only hon6 cLn.out
                  obtain ⟨A6, c6, rfl⟩ := own_slice hown6
                  have hg6 := hb6.cell 2
                  have hf6 := hb6.frozen 2
                  simp only [List.getElem?_toArray, List.getElem?_cons_zero, List.getElem?_cons_succ] at hg6
                  replace hb6 := Lib.hid hb6
                  replace hown6 := Lib.hid hown6
                  replace hon6 := Lib.hid hon6
                  replace hat6 := Lib.hid hat6
                  refine hK _ _ ?_
                  clear hK K
                  (try simp only [Act.put, List.setIfInBounds_toArray, List.set_cons_zero, List.set_cons_succ])
                  refine wpAny_take (i := 16) (oi := { dst := some 87, op := Op.fieldAddr 24 (Operand.tmp 9) 2, type := 0, pos := "outright.go:135", after := #[{ on := 0, ground := Ground.phase }, { on := 1, ground := Ground.phase }, { on := 2, ground := Ground.phase }, { on := 3, ground := Ground.phase }, { on := 4, ground := Ground.phase }, { on := 5, ground := Ground.phase }, { on := 6, ground := Ground.phase }, { on := 7, ground := Ground.phase }, { on := 8, ground := Ground.phase }, { on := 9, ground := Ground.phase }, { on := 10, ground := Ground.phase }, { on := 11, ground := Ground.phase }, { on := 12, ground := Ground.phase }, { on := 13, ground := Ground.phase }, { on := 14, ground := Ground.phase }, { on := 15, ground := Ground.phase }], guard := none }) (v := ?_) rfl (by kernel_rfl) (by kernel_rfl) (by kernel_rfl) (fun _ _ _ h => h) (Or.inl ⟨by rfl, ?_⟩) ?_
                  rotate_left
                  · (intro w0; go_simp; (try with_reducible rfl))
                  (try simp only [Act.put, List.setIfInBounds_toArray, List.set_cons_zero, List.set_cons_succ])
                  refine wpAny_ready (rs := [17]) (by kernel_rfl) (by simp) ?_
                  refine AllReady.cons (o := { dst := none, op := Op.store 22 (Operand.tmp 87) (Operand.tmp 86), type := 0, pos := "outright.go:135", after := #[{ on := 16, ground := Ground.data }, { on := 15, ground := Ground.data }, { on := 15, ground := Ground.chain }, { on := 0, ground := Ground.phase }, { on := 1, ground := Ground.phase }, { on := 2, ground := Ground.phase }, { on := 3, ground := Ground.phase }, { on := 4, ground := Ground.phase }, { on := 5, ground := Ground.phase }, { on := 6, ground := Ground.phase }, { on := 7, ground := Ground.phase }, { on := 8, ground := Ground.phase }, { on := 9, ground := Ground.phase }, { on := 10, ground := Ground.phase }, { on := 11, ground := Ground.phase }, { on := 12, ground := Ground.phase }, { on := 13, ground := Ground.phase }, { on := 14, ground := Ground.phase }, { on := 15, ground := Ground.phase }], guard := none }) rfl (fun K hK => ?_) ?_
                  rotate_left
                  · exact AllReady.nil
                  go_simp
                  refine hK _ _ ?_
                  clear hK K
                  (try simp only [Act.put, List.setIfInBounds_toArray, List.set_cons_zero, List.set_cons_succ])
                  refine wpAny_done (by kernel_rfl) ?_ _
                  go_wp2_with fail
                  go_meet
                  exact ⟨trivial, Lib.hid ⟨_, step_one (S := fun b => b = k9 ∨ b = k9 + 1 + 1) (.inl rfl) hL'.out hT'.out hB'.out hd'.out ho'.out (Nat.le_refl _) (by omega) Od.out hon6.out (by have := hown6.out; simp only [hlf.out]; rw [← hbL.out]; exact this) hat6.out⟩⟩
                refine AllReady.cons (o := { dst := some 84, op := Op.load 48 (Operand.tmp 83), type := 48, pos := "outright.go:135", after := #[{ on := 12, ground := Ground.data }], guard := none }) rfl (fun K hK => ?_) ?_
                rotate_left
                · exact AllReady.nil
                refine step_load48 (ad.add (t * 64)) (blC bL) rfl h64 hcs.out ?_
                refine hK _ _ ?_
                clear hK K
                (try simp only [Act.put, List.setIfInBounds_toArray, List.set_cons_zero, List.set_cons_succ])
                refine wpAny_ready (rs := [1, 14]) (by kernel_rfl) (by simp) ?_
                refine AllReady.cons (o := { dst := some 72, op := Op.load 22 (Operand.tmp 71), type := 22, pos := "outright.go:135", after := #[{ on := 0, ground := Ground.data }], guard := none }) rfl (fun K hK => ?_) ?_
                · go_simp
                  refine hK _ _ ?_
                  clear hK K
                  (try simp only [Act.put, List.setIfInBounds_toArray, List.set_cons_zero, List.set_cons_succ])
                  refine wpAny_ready (rs := [14]) (by kernel_rfl) (by simp) ?_
                  refine AllReady.cons (o := { dst := some 85, op := Op.buildSlice 22 1 #[(0, Operand.tmp 84)], type := 22, pos := "outright.go:135", after := #[{ on := 13, ground := Ground.data }], guard := none }) rfl (fun K hK => ?_) ?_
                  rotate_left
                  · exact AllReady.nil
                  refine step_build1 (blC bL) rfl h64 ?_
                  refine hK _ _ ?_
                  clear hK K
                  (try simp only [Act.put, List.setIfInBounds_toArray, List.set_cons_zero, List.set_cons_succ])
                  refine wpAny_ready (rs := [15]) (by kernel_rfl) (by simp) ?_
                  refine AllReady.cons (o := { dst := some 86, op := Op.call { callee := Callee.builtin Builtin.append, args := #[Operand.tmp 72, Operand.tmp 85], argTypes := #[22, 22] }, type := 22, pos := "outright.go:135", after := #[{ on := 1, ground := Ground.data }, { on := 14, ground := Ground.data }], guard := none }) rfl (fun K hK => ?_) ?_
                  rotate_left
                  · exact AllReady.nil
                  refine step_append_any (by rfl) (.tmp 72) (.tmp 85) _ (by rfl) wS.heap.size 48 j0 _ 64 128 Try.underlying22 hj0 hy0 hy1 hy2 hyz (by omega) (.slice A1 (p + x) c1) (p + x) (bsC (lst (fun j => qs.getD (lf W j) []) (p + x))) rfl cL.out.own (some ⟨wd.heap.size, 0, none⟩) 1 1 (blC bL) rfl hnew.out (blC_one _) (by simp only [maxLen]; omega) (by omega) hbs.out ?_
                  intro v6 w6 hown6 hon6 hat6
                  have hb6 := cL.out.blk.only hon6 cLn.out
                  obtain ⟨A6, c6, rfl⟩ := own_slice hown6
                  have hg6 := hb6.cell 2
                  have hf6 := hb6.frozen 2
                  simp only [List.getElem?_toArray, List.getElem?_cons_zero, List.getElem?_cons_succ] at hg6
                  replace hb6 := Lib.hid hb6
                  replace hown6 := Lib.hid hown6
                  replace hon6 := Lib.hid hon6
                  replace hat6 := Lib.hid hat6
                  refine hK _ _ ?_
                  clear hK K
                  (try simp only [Act.put, List.setIfInBounds_toArray, List.set_cons_zero, List.set_cons_succ])
                  refine wpAny_take (i := 16) (oi := { dst := some 87, op := Op.fieldAddr 24 (Operand.tmp 9) 2, type := 0, pos := "outright.go:135", after := #[{ on := 0, ground := Ground.phase }, { on := 1, ground := Ground.phase }, { on := 2, ground := Ground.phase }, { on := 3, ground := Ground.phase }, { on := 4, ground := Ground.phase }, { on := 5, ground := Ground.phase }, { on := 6, ground := Ground.phase }, { on := 7, ground := Ground.phase }, { on := 8, ground := Ground.phase }, { on := 9, ground := Ground.phase }, { on := 10, ground := Ground.phase }, { on := 11, ground := Ground.phase }, { on := 12, ground := Ground.phase }, { on := 13, ground := Ground.phase }, { on := 14, ground := Ground.phase }, { on := 15, ground := Ground.phase }], guard := none }) (v := ?_) rfl (by kernel_rfl) (by kernel_rfl) (by kernel_rfl) (fun _ _ _ h => h) (Or.inl ⟨by rfl, ?_⟩) ?_
                  rotate_left
                  · (intro w0; go_simp; (try with_reducible rfl))
                  (try simp only [Act.put, List.setIfInBounds_toArray, List.set_cons_zero, List.set_cons_succ])
                  refine wpAny_ready (rs := [17]) (by kernel_rfl) (by simp) ?_
                  refine AllReady.cons (o := { dst := none, op := Op.store 22 (Operand.tmp 87) (Operand.tmp 86), type := 0, pos := "outright.go:135", after := #[{ on := 16, ground := Ground.data }, { on := 15, ground := Ground.data }, { on := 15, ground := Ground.chain }, { on := 0, ground := Ground.phase }, { on := 1, ground := Ground.phase }, { on := 2, ground := Ground.phase }, { on := 3, ground := Ground.phase }, { on := 4, ground := Ground.phase }, { on := 5, ground := Ground.phase }, { on := 6, ground := Ground.phase }, { on := 7, ground := Ground.phase }, { on := 8, ground := Ground.phase }, { on := 9, ground := Ground.phase }, { on := 10, ground := Ground.phase }, { on := 11, ground := Ground.phase }, { on := 12, ground := Ground.phase }, { on := 13, ground := Ground.phase }, { on := 14, ground := Ground.phase }, { on := 15, ground := Ground.phase }], guard := none }) rfl (fun K hK => ?_) ?_
                  rotate_left
                  · exact AllReady.nil
                  go_simp
                  refine hK _ _ ?_
                  clear hK K
                  (try simp only [Act.put, List.setIfInBounds_toArray, List.set_cons_zero, List.set_cons_succ])
                  refine wpAny_done (by kernel_rfl) ?_ _
                  go_wp2_with fail
                  go_meet
                  exact ⟨trivial, Lib.hid ⟨_, step_one (S := fun b => b = k9 ∨ b = k9 + 1 + 1) (.inl rfl) hL'.out hT'.out hB'.out hd'.out ho'.out (Nat.le_refl _) (by omega) Od.out hon6.out (by have := hown6.out; simp only [hlf.out]; rw [← hbL.out]; exact this) hat6.out⟩⟩
                refine AllReady.cons (o := { dst := some 85, op := Op.buildSlice 22 1 #[(0, Operand.tmp 84)], type := 22, pos := "outright.go:135", after := #[{ on := 13, ground := Ground.data }], guard := none }) rfl (fun K hK => ?_) ?_
                rotate_left
                · exact AllReady.nil
                refine step_build1 (blC bL) rfl h64 ?_
                refine hK _ _ ?_
                clear hK K
                (try simp only [Act.put, List.setIfInBounds_toArray, List.set_cons_zero, List.set_cons_succ])
                refine wpAny_ready (rs := [1]) (by kernel_rfl) (by simp) ?_
                refine AllReady.cons (o := { dst := some 72, op := Op.load 22 (Operand.tmp 71), type := 22, pos := "outright.go:135", after := #[{ on := 0, ground := Ground.data }], guard := none }) rfl (fun K hK => ?_) ?_
                rotate_left
                · exact AllReady.nil
                go_simp
                refine hK _ _ ?_
                clear hK K
                (try simp only [Act.put, List.setIfInBounds_toArray, List.set_cons_zero, List.set_cons_succ])
                refine wpAny_ready (rs := [15]) (by kernel_rfl) (by simp) ?_
                refine AllReady.cons (o := { dst := some 86, op := Op.call { callee := Callee.builtin Builtin.append, args := #[Operand.tmp 72, Operand.tmp 85], argTypes := #[22, 22] }, type := 22, pos := "outright.go:135", after := #[{ on := 1, ground := Ground.data }, { on := 14, ground := Ground.data }], guard := none }) rfl (fun K hK => ?_) ?_
                rotate_left
                · exact AllReady.nil
                refine step_append_any (by rfl) (.tmp 72) (.tmp 85) _ (by rfl) wS.heap.size 48 j0 _ 64 128 Try.underlying22 hj0 hy0 hy1 hy2 hyz (by omega) (.slice A1 (p + x) c1) (p + x) (bsC (lst (fun j => qs.getD (lf W j) []) (p + x))) rfl cL.out.own (some ⟨wd.heap.size, 0, none⟩) 1 1 (blC bL) rfl hnew.out (blC_one _) (by simp only [maxLen]; omega) (by omega) hbs.out ?_
                intro v6 w6 hown6 hon6 hat6
                have hb6 := cL.out.blk.only hon6 cLn.out
                obtain ⟨A6, c6, rfl⟩ := own_slice hown6
                have hg6 := hb6.cell 2
                have hf6 := hb6.frozen 2
                simp only [List.getElem?_toArray, List.getElem?_cons_zero, List.getElem?_cons_succ] at hg6
                replace hb6 := Lib.hid hb6
                replace hown6 := Lib.hid hown6
                replace hon6 := Lib.hid hon6
                replace hat6 := Lib.hid hat6
                refine hK _ _ ?_
                clear hK K
                (try simp only [Act.put, List.setIfInBounds_toArray, List.set_cons_zero, List.set_cons_succ])
                refine wpAny_take (i := 16) (oi := { dst := some 87, op := Op.fieldAddr 24 (Operand.tmp 9) 2, type := 0, pos := "outright.go:135", after := #[{ on := 0, ground := Ground.phase }, { on := 1, ground := Ground.phase }, { on := 2, ground := Ground.phase }, { on := 3, ground := Ground.phase }, { on := 4, ground := Ground.phase }, { on := 5, ground := Ground.phase }, { on := 6, ground := Ground.phase }, { on := 7, ground := Ground.phase }, { on := 8, ground := Ground.phase }, { on := 9, ground := Ground.phase }, { on := 10, ground := Ground.phase }, { on := 11, ground := Ground.phase }, { on := 12, ground := Ground.phase }, { on := 13, ground := Ground.phase }, { on := 14, ground := Ground.phase }, { on := 15, ground := Ground.phase }], guard := none }) (v := ?_) rfl (by kernel_rfl) (by kernel_rfl) (by kernel_rfl) (fun _ _ _ h => h) (Or.inl ⟨by rfl, ?_⟩) ?_
                rotate_left
                · (intro w0; go_simp; (try with_reducible rfl))
                (try simp only [Act.put, List.setIfInBounds_toArray, List.set_cons_zero, List.set_cons_succ])
                refine wpAny_ready (rs := [17]) (by kernel_rfl) (by simp) ?_
                refine AllReady.cons (o := { dst := none, op := Op.store 22 (Operand.tmp 87) (Operand.tmp 86), type := 0, pos := "outright.go:135", after := #[{ on := 16, ground := Ground.data }, { on := 15, ground := Ground.data }, { on := 15, ground := Ground.chain }, { on := 0, ground := Ground.phase }, { on := 1, ground := Ground.phase }, { on := 2, ground := Ground.phase }, { on := 3, ground := Ground.phase }, { on := 4, ground := Ground.phase }, { on := 5, ground := Ground.phase }, { on := 6, ground := Ground.phase }, { on := 7, ground := Ground.phase }, { on := 8, ground := Ground.phase }, { on := 9, ground := Ground.phase }, { on := 10, ground := Ground.phase }, { on := 11, ground := Ground.phase }, { on := 12, ground := Ground.phase }, { on := 13, ground := Ground.phase }, { on := 14, ground := Ground.phase }, { on := 15, ground := Ground.phase }], guard := none }) rfl (fun K hK => ?_) ?_
                rotate_left
                · exact AllReady.nil
                go_simp
                refine hK _ _ ?_
                clear hK K
                (try simp only [Act.put, List.setIfInBounds_toArray, List.set_cons_zero, List.set_cons_succ])
                refine wpAny_done (by kernel_rfl) ?_ _
                go_wp2_with fail
                go_meet
                exact ⟨trivial, Lib.hid ⟨_, step_one (S := fun b => b = k9 ∨ b = k9 + 1 + 1) (.inl rfl) hL'.out hT'.out hB'.out hd'.out ho'.out (Nat.le_refl _) (by omega) Od.out hon6.out (by have := hown6.out; simp only [hlf.out]; rw [← hbL.out]; exact this) hat6.out⟩⟩
              case rest =>
                obtain ⟨_, hc⟩ := hcut
                obtain ⟨v6, hL6, hT6, hB6, hd6, ho6⟩ := hc.out
                have O6 := Lib.hid (hrel9.out _ ho6)
                obtain ⟨adf, rfl, hcf⟩ := (FR.out.no O6.out).at_ (i := t) (u := .bool (l.getD t false)) (by omega) (by simp [boC, show t < l.length by omega])
                obtain ⟨bf, hbf⟩ : ∃ b, b = l.getD t false := ⟨_, rfl⟩
                rw [← hbf] at hcf
                replace hbf := Lib.hid hbf
                have hL6' := Lib.hid hL6
                have hT6' := Lib.hid hT6
                have hB6' := Lib.hid hB6
                have hd6' := Lib.hid hd6
                have ho6' := Lib.hid ho6
                have oc := Lib.hid ((Only.refl No wc).alloc (.cells #[.bool bf] 4))
                have hbs : Hid (wS.heap.size ≤ (wc.alloc (.cells #[.bool bf] 4)).heap.size) := Lib.hid (Nat.le_trans ho6.size oc.out.size)
                clear hc hL6 hT6 hB6 hd6 ho6 hL' hT' hB' hd' ho' s2 r2 hcs
                go_upto_region 21 with (first
                  | (at_builtin
                     (refine Mm.wpList_append_any _ rfl (.tmp 88) (.tmp 100) _ rfl wS.heap.size 4 i0 _ 1 1 Try.underlying25 hi0 hz0 hz1 hz2 rfl (by omega) (.slice A2 (p + x) c2) (p + x) (boC (lst (fun j => l.getD (lf W j) false) (p + x))) rfl (hB6'.out.alloc _) (some ⟨wc.heap.size, 0, none⟩) 1 1 [.bool bf] rfl (Rds.fresh (Blk.new _ _ _) rfl) (by simp [Value.oneCell']) (by simp only [maxLen]; omega) (by omega) hbs.out ?_)
                     intro v7 w7 hown7 hon7 hat7
                     replace hown7 := Lib.hid hown7
                     replace hon7 := Lib.hid hon7
                     clear hat7))
                have hL7 := Lib.hid (step_flag hL6'.out hB6'.out oc.out hon7.out)
                have hT7 := Lib.hid (step_flag hT6'.out hB6'.out oc.out hon7.out)
                have ho7 := Lib.hid (only_own ho6'.out (Nat.le_refl _) hB6'.out oc.out hon7.out)
                have hB7 : Hid (w7.ownsRow wS.heap.size 4 1 v7 (p + x + 1) (boC (lst (fun j => l.getD (lf W j) false) (p + x + 1)))) := Lib.hid (by
                  rw [lst_succ]
                  simp only [hlf.out]
                  rw [← hbf.out]
                  simpa [boC] using hown7.out)
                have hO7 := Lib.hid (hrel9.out _ ho7.out)
                clear hown7 hon7 hL6' hT6' hB6' ho6' oc hbs hcf O6
                obtain ⟨u, hu⟩ : ∃ u, u = p + x := ⟨_, rfl⟩
                have hui : u < i := by omega
                have hui' : (u : Int) < i := by omega
                have e6 : (p : Int) + (x : Int) = (u : Int) := by omega
                have hokT := bls_get hqb.out (show u < qs.length by omega)
                obtain ⟨adq, hadq, hcq⟩ := bl_cells hqb.out (show Rds w7 64 (some ad) qs.length (bsC qs) by rw [hql]; exact QR.out.no hO7.out) u (by omega)
                cases hadq
                have h64q := bl_len hqb.out u (by omega)
                have hdq : Hid (-32767 ≤ (qs.getD u []).getD 0 0) := Lib.hid (hqd.out u)
                obtain ⟨bT, hbT⟩ : ∃ b, b = qs.getD u [] := ⟨_, rfl⟩
                rw [← hbT] at hcq h64q hokT hdq
                replace hbT := Lib.hid hbT
                replace hu := Lib.hid hu
                have r2 := (B3.out.only hO7.out id).cell 2
                simp only [List.getElem?_toArray, List.getElem?_cons_zero, List.getElem?_cons_succ] at r2
                replace hcq := Lib.hid hcq
                go_upto_region 22 with (first
                  | ((with_reducible refine wl_load48 (ad.add (u * 64)) (blC bT) ?_ h64q hcq.out ?_)
                     · rfl)
                  | ((with_reducible refine wl_store48 w7.heap.size _ (blC bT) ?_ ?_ (Blk.new w7 48 _) ?_ h64q (blC_one bT) ?_)
                     · rfl
                     · rfl
                     · rfl
                     intro w8 b8 o8
                     have B8 := Lib.hid b8
                     have O8 : Hid (Only No w7 w8) := Lib.hid (((Only.refl No w7).alloc _).then o8 (fun j h => .inr (by have h : j = w7.heap.size := h; omega)))
                     clear b8 o8))
                obtain ⟨G, hG⟩ : ∃ G, G = w7.heap.size := ⟨_, rfl⟩
                rw [← hG] at B8 ⊢
                replace hG := Lib.hid hG
                obtain ⟨dv, hdv⟩ : ∃ d, d = bT.getD 0 0 := ⟨_, rfl⟩
                have hdb := getD_ok hokT 0
                have hdq2 := hdq.out
                rw [← hdv] at hdb hdq2
                have z0 := B8.out.cell 0
                have zf := B8.out.frozen 0
                have hz1 : (blC bT).toArray[0]? = some (.int .i16 dv) := by
                  rw [hdv]
                  rw [blC_length] at h64q
                  simp [blC, h64q]
                rw [hz1] at z0
                have en : IntKind.i16.wrap (-dv) = -dv := wrap16 _ (by omega)
                clear hz1
                replace hdv := Lib.hid hdv
                go_upto_region 23 with (fail)
                generalize hw9 : w8.setCell ⟨G, 0, none⟩ (.int .i16 (-dv)) = w9
                have B9 : Hid (Blk w9 G 48 (blC (ngB bT)).toArray) := Lib.hid (by rw [← hw9, ngB, ← blC_set, ← hdv.out]; exact B8.out.set 0 _)
                have O9 : Hid (Only No w7 w9) := Lib.hid (by rw [← hw9]; exact O8.out.setCell (p := ⟨G, 0, none⟩) (.inr (by have := hG.out; show w7.heap.size ≤ G; omega)) _)
                have h64n : (blC (ngB bT)).length = 64 := by rw [blC_length]; exact (ngB_ok hokT hdq.out).1
                have hL9 := Lib.hid (hL7.out.no O9.out)
                have hT9 := Lib.hid (hT7.out.no O9.out)
                have hB9 := Lib.hid (own_only hB7.out O9.out (fun _ _ => id))
                have ho9 : Hid (Only (fun b => b = k9 ∨ b = k9 + 1 + 1) wS w9) := Lib.hid (ho7.out.trans (O9.out.mono (fun _ h => h.elim)))
                clear hw9 B8 O8 hL7 hT7 hB7 ho7 hO7 z0 zf en hcq r2 hdb hdq2
                obtain ⟨A3, c3, rfl⟩ := own_slice hT9.out.own
                have t2 := hT9.out.blk.cell 2
                simp only [List.getElem?_toArray, List.getElem?_cons_zero, List.getElem?_cons_succ] at t2
                have Od9 := Lib.hid ((Only.refl No w9).alloc (.cells (blC (ngB bT)).toArray 48))
                have hbs9 : Hid (wS.heap.size ≤ (w9.alloc (.cells (blC (ngB bT)).toArray 48)).heap.size) := Lib.hid (Nat.le_trans ho9.out.size Od9.out.size)
                have cT := Lib.hid (hT9.out.no Od9.out)
                have cTn := Lib.hid hT9.out.notK
                have hnew9 : Hid (Rds (w9.alloc (.cells (blC (ngB bT)).toArray 48)) 64 (some ⟨w9.heap.size, 0, none⟩) 1 (blC (ngB bT))) := Lib.hid (by have := Rds.fresh (n := 1) (size := 64) (Blk.new w9 48 (blC (ngB bT)).toArray) (by simp [h64n]); simpa using this)
                have hone9 := blC_one (ngB bT)
                have hfT : Hid (ngB bT = (fun j => ngB (qs.getD j [])) (p + x)) := Lib.hid (by rw [hbT.out, hu.out])
                generalize hbN : ngB bT = bN at *
                replace hbN := Lib.hid hbN
                go_wp2_with (first
                  | ((with_reducible refine wl_load48 ⟨G, 0, none⟩ (blC bN) ?_ h64n (fun j v hv => ?_) ?_)
                     · rfl
                     · rw [Mm.add_plain]
                       exact (B9.out.cell j).trans (by simpa using hv))
                  | ((with_reducible refine wl_build1 (blC bN) ?_ h64n ?_)
                     · rfl)
                  | (at_builtin
                     (refine Mm.wpList_append_any _ rfl (.tmp 116) (.tmp 118) _ rfl wS.heap.size 48 j0 _ 64 128 Try.underlying22 hj0 hy0 hy1 hy2 hyz (by omega) (.slice A3 (p + x) c3) (p + x) (bsC (lst (fun j => ngB (qs.getD j [])) (p + x))) rfl cT.out.own (some ⟨w9.heap.size, 0, none⟩) 1 1 (blC bN) rfl hnew9.out hone9 (by simp only [maxLen]; omega) (by omega) hbs9.out ?_)
                     intro v10 w10 hown10 hon10 hat10
                     have hb10 := cT.out.blk.only hon10 cTn.out
                     obtain ⟨A10, c10, rfl⟩ := own_slice hown10
                     have hg10 := hb10.cell 2
                     have hf10 := hb10.frozen 2
                     simp only [List.getElem?_toArray, List.getElem?_cons_zero, List.getElem?_cons_succ] at hg10
                     have OW10 := Lib.hid hown10
                     have ON10 := Lib.hid hon10
                     have AT10 := Lib.hid hat10
                     clear hown10 hon10 hat10 hb10))
                go_roundw
                case rel =>
                  obtain ⟨f1, f2, f3, f4, f5⟩ := step_one (S := fun b => b = k9 ∨ b = k9 + 1 + 1) (.inr rfl) hT9.out hL9.out hB9.out (fun i h h' => hd6'.out i h' h) ho9.out (Nat.le_refl _) (by omega) Od9.out ON10.out (by have := OW10.out; rw [hfT.out] at this; exact this) AT10.out
                  exact ⟨x + 1, by go_num, by omega, Lib.hid (by rw [← Nat.add_assoc, ← hp.out]; exact ⟨_, _, f2, f1, f3, fun i h h' => f4 i h' h, f5⟩)⟩
                case measure => simp [intOf]; omega
            · have hxl' : ¬ (x : Int) < W := by omega
              obtain rfl : x = W := by omega
              go_wp2_with fail
              go_roundw
              case rel => exact ⟨y + 1, by go_num, by omega, by rw [Nat.succ_mul]; exact hM⟩
              case measure => simp [intOf]; omega
        · have hyl' : ¬ (y : Int) < H := by omega
          obtain rfl : H = y := by omega
          obtain ⟨vL, vT, hL, hT, hB, hd, ho⟩ := hM.out
          have hHW : H * W = i := by rw [Nat.mul_comm]; exact hN.out
          rw [hHW] at hL hT hB
          obtain ⟨AL, cL, rfl⟩ := own_slice hL.own
          obtain ⟨AT, cT, rfl⟩ := own_slice hT.own
          obtain ⟨A2, c2, rfl⟩ := own_slice hB
          have LR := Lib.hid (Rds.of_own hL.own)
          have TR := Lib.hid (Rds.of_own hT.own)
          have BR := Lib.hid (Rds.of_own hB)
          have X9 := Lib.hid hL.blk
          have X11 := Lib.hid hT.blk
          have X10 := Lib.hid (b10.out.only ho (by omega))
          have fL := Lib.hid (far_one (own_blk hL.own X10.out (by decide)))
          have fT := Lib.hid (far_one (own_blk hT.own X10.out (by decide)))
          have fB := Lib.hid (far_one (own_blk hB X10.out (by decide)))
          have OZ := Lib.hid (hrel9.out _ ho)
          clear hM hL hT hB hd ho b9 b10 b11
          obtain ⟨wz, hwz⟩ : ∃ wz, wz = wr := ⟨_, rfl⟩
          subst hwz
          have hk10 : k9 + 1 < wz.heap.size := X10.out.lt
          go_wp2_with fail
          go_loopw [17, 13] (fun v17 v13 wx => ∃ x : Nat, v17 = .int .i64 x ∧ x ≤ W ∧ Hid (Ss wz wx (k9 + 1) H W (fun j => qs.getD (Ct.sw W H j) []) (fun j => l.getD (Ct.sw W H j) false) (x * H) v13)) (fun v17 _ _ => W - (intOf v17).toNat)
          case atStart => exact ⟨0, rfl, by omega, Lib.hid (by rw [Nat.zero_mul]; exact ⟨.slice none 0 0, ⟨X10.out, World.ownsRow_nil _ _ _ _⟩, World.ownsRow_nil _ _ _ _, Only.refl _ _⟩)⟩
          case round =>
            obtain ⟨x, rfl, hx, hM⟩ := hrel
            by_cases hxl : x < W
            · have hxl' : (x : Int) < W := by omega
              go_wp2_with fail
              go_loopw [18, 13] (fun v18 v13 wx => ∃ y : Nat, v18 = .int .i64 y ∧ y ≤ H ∧ Hid (Ss wz wx (k9 + 1) H W (fun j => qs.getD (Ct.sw W H j) []) (fun j => l.getD (Ct.sw W H j) false) (x * H + y) v13)) (fun v18 _ _ => H - (intOf v18).toNat)
              case atStart => exact ⟨0, rfl, by omega, hM⟩
              case round =>
                obtain ⟨y, rfl, hy, hM⟩ := hrel
                by_cases hyl : y < H
                · have hyl' : (y : Int) < H := by omega
                  obtain ⟨vS, hL, hB, ho⟩ := hM.out
                  have hO := Lib.hid (OZ.out.then ho (fun j h => .inr (by have h : j = k9 + 1 := h; have := hk9.out; omega)))
                  obtain ⟨m, hm⟩ : ∃ m, m = x * H + y := ⟨_, rfl⟩
                  rw [← hm] at hL hB
                  have hmi : m < i := by rw [hm, ← hHW]; have := idx_lt (W := H) (H := W) hyl hxl; omega
                  obtain ⟨p, hp⟩ : ∃ p, p = y * W := ⟨_, rfl⟩
                  have e1 : IntKind.i64.wrap ((y : Int) * (W : Int)) = (p : Int) := by
                    have h1 : y * W + x < i := by rw [← hN.out]; exact idx_lt hxl hyl
                    rw [hp, Int.natCast_mul]; exact IntWalk.i64_in _ (by rw [← Int.natCast_mul]; omega)
                  obtain ⟨t, ht⟩ : ∃ t, t = p + x := ⟨_, rfl⟩
                  have hti : t < i := by rw [ht, hp, ← hN.out]; exact idx_lt hxl hyl
                  have ht' : (t : Int) < i := by omega
                  have e3 : IntKind.i64.wrap ((p : Int) + (x : Int)) = (t : Int) := by rw [IntWalk.i64_in _ (by omega)]; omega
                  have e5 : (p : Int) + (x : Int) = (t : Int) := by omega
                  have e4 : IntKind.i64.wrap (t : Int) = (t : Int) := IntWalk.i64_in _ (by omega)
                  have hsw : Hid (Ct.sw W H m = t) := Lib.hid (by rw [hm, sw_at hyl, ht, hp])
                  have hok := bls_get hqb.out (show t < qs.length by omega)
                  obtain ⟨ad, rfl, hcs⟩ := bl_cells hqb.out (show Rds wr.drew 64 Ag qs.length (bsC qs) by rw [hql]; exact (QR.out.no hO.out).no (Only.refl No wr).drew) t (by omega)
                  have h64 := bl_len hqb.out t (by omega)
                  obtain ⟨bL, hbL⟩ : ∃ b, b = qs.getD t [] := ⟨_, rfl⟩
                  rw [← hbL] at hcs h64 hok
                  replace hbL := Lib.hid hbL
                  have r2 := (B3.out.only hO.out id).cell 2
                  simp only [List.getElem?_toArray, List.getElem?_cons_zero, List.getElem?_cons_succ] at r2
                  obtain ⟨A1, c1, rfl⟩ := own_slice hL.own
                  obtain ⟨A5, c5, rfl⟩ := own_slice hB
                  have s2 := hL.blk.cell 2
                  simp only [List.getElem?_toArray, List.getElem?_cons_zero, List.getElem?_cons_succ] at s2
                  replace hM := Lib.hid True.intro
                  have hL' := Lib.hid hL
                  have hB' := Lib.hid hB
                  have ho' := Lib.hid ho
                  replace ht := Lib.hid ht
                  replace hp := Lib.hid hp
                  replace hm := Lib.hid hm
                  clear hL hB ho
                  go_wp2_with fail
                  go_cut [144] from 131 to 143 (fun s144 wx => s144 = s144 ∧ Hid (∃ v6, CR wx (k9 + 1) H W wz.heap.size (fun j => qs.getD (Ct.sw W H j) []) (m + 1) v6 ∧ wx.ownsRow wz.heap.size 4 1 (.slice A5 m c5) m (boC (lst (fun j => l.getD (Ct.sw W H j) false) m)) ∧ Only (One (k9 + 1)) wz wx))
                  case first =>
                    refine wp_region_any (by kernel_rfl) ?_
                    change wpAny _ _ _ _ _ _ _ (World.drew wr)
                    replace s2 : wr.drew.cell? ⟨k9 + 1, 2, none⟩ = some (.slice A1 m c1) := s2
                    replace r2 : wr.drew.cell? ⟨kb, 2, none⟩ = some (.slice (some ad) i cg) := r2
                    have od : Only No wr wr.drew := (Only.refl No wr).drew
                    have s2' : (wr.drew.alloc (.cells (blC bL).toArray 48)).cell? ⟨k9 + 1, 2, none⟩ = some (.slice A1 m c1) := (hL'.out.no (od.alloc _)).blk.cell 2
                    replace hcs := Lib.hid hcs
                    generalize wr.drew = wd at *
                    have Od := Lib.hid (od.alloc (.cells (blC bL).toArray 48))
                    have hbs : Hid (wz.heap.size ≤ (wd.alloc (.cells (blC bL).toArray 48)).heap.size) := Lib.hid (Nat.le_trans ho'.out.size Od.out.size)
                    have cL := Lib.hid (hL'.out.no Od.out)
                    have cLn := Lib.hid hL'.out.notK
                    have hnew : Hid (Rds (wd.alloc (.cells (blC bL).toArray 48)) 64 (some ⟨wd.heap.size, 0, none⟩) 1 (blC bL)) := Lib.hid (by have := Rds.fresh (n := 1) (size := 64) (Blk.new wd 48 (blC bL).toArray) (by simp [h64]); simpa using this)
                    clear od
                    refine wpAny_take (i := 0) (oi := { dst := some 131, op := Op.fieldAddr 24 (Operand.tmp 10) 2, type := 0, pos := "outright.go:144", after := #[], guard := none }) (v := ?_) rfl (by kernel_rfl) (by kernel_rfl) (by kernel_rfl) (fun _ _ _ h => h) (Or.inl ⟨by rfl, ?_⟩) ?_
                    rotate_left
                    · (intro w0; go_simp; (try with_reducible rfl))
                    (try simp only [Act.put, List.setIfInBounds_toArray, List.set_cons_zero, List.set_cons_succ])
                    refine wpAny_take (i := 2) (oi := { dst := some 133, op := Op.fieldAddr 24 (Operand.tmp 4) 2, type := 0, pos := "outright.go:144", after := #[], guard := none }) (v := ?_) rfl (by kernel_rfl) (by kernel_rfl) (by kernel_rfl) (fun _ _ _ h => h) (Or.inl ⟨by rfl, ?_⟩) ?_
                    rotate_left
                    · (intro w0; go_simp; (try with_reducible rfl))
                    (try simp only [Act.put, List.setIfInBounds_toArray, List.set_cons_zero, List.set_cons_succ])
                    refine wpAny_take (i := 4) (oi := { dst := some 135, op := Op.move (Operand.tmp 18), type := 3, pos := "outright.go:144", after := #[], guard := none }) (v := ?_) rfl (by kernel_rfl) (by kernel_rfl) (by kernel_rfl) (fun _ _ _ h => h) (Or.inl ⟨by rfl, ?_⟩) ?_
                    rotate_left
                    · (intro w0; go_simp; (try with_reducible rfl))
                    (try simp only [Act.put, List.setIfInBounds_toArray, List.set_cons_zero, List.set_cons_succ])
                    refine wpAny_take (i := 5) (oi := { dst := some 136, op := Op.move (Operand.tmp 5), type := 3, pos := "outright.go:144", after := #[], guard := none }) (v := ?_) rfl (by kernel_rfl) (by kernel_rfl) (by kernel_rfl) (fun _ _ _ h => h) (Or.inl ⟨by rfl, ?_⟩) ?_
                    rotate_left
                    · (intro w0; go_simp; (try with_reducible rfl))
                    (try simp only [Act.put, List.setIfInBounds_toArray, List.set_cons_zero, List.set_cons_succ])
                    refine wpAny_take (i := 6) (oi := { dst := some 137, op := Op.binOp BinOp.mul 3 (Operand.tmp 135) (Operand.tmp 136) 3, type := 3, pos := "outright.go:144", after := #[{ on := 4, ground := Ground.data }, { on := 5, ground := Ground.data }], guard := none }) (v := ?_) rfl (by kernel_rfl) (by kernel_rfl) (by kernel_rfl) (fun _ _ _ h => h) (Or.inl ⟨by rfl, ?_⟩) ?_
                    rotate_left
                    · (intro w0; go_simp; (try with_reducible rfl))
                    (try simp only [Act.put, List.setIfInBounds_toArray, List.set_cons_zero, List.set_cons_succ])
                    refine wpAny_take (i := 7) (oi := { dst := some 138, op := Op.move (Operand.tmp 17), type := 3, pos := "outright.go:144", after := #[], guard := none }) (v := ?_) rfl (by kernel_rfl) (by kernel_rfl) (by kernel_rfl) (fun _ _ _ h => h) (Or.inl ⟨by rfl, ?_⟩) ?_
                    rotate_left
                    · (intro w0; go_simp; (try with_reducible rfl))
                    (try simp only [Act.put, List.setIfInBounds_toArray, List.set_cons_zero, List.set_cons_succ])
                    refine wpAny_take (i := 8) (oi := { dst := some 139, op := Op.binOp BinOp.add 3 (Operand.tmp 137) (Operand.tmp 138) 3, type := 3, pos := "outright.go:144", after := #[{ on := 6, ground := Ground.data }, { on := 7, ground := Ground.data }], guard := none }) (v := ?_) rfl (by kernel_rfl) (by kernel_rfl) (by kernel_rfl) (fun _ _ _ h => h) (Or.inl ⟨by rfl, ?_⟩) ?_
                    rotate_left
                    · (intro w0; go_simp; (try with_reducible rfl))
                    (try simp only [Act.put, List.setIfInBounds_toArray, List.set_cons_zero, List.set_cons_succ])
                    refine wpAny_ready (rs := [1, 3]) (by kernel_rfl) (by simp) ?_
                    refine AllReady.cons (o := { dst := some 132, op := Op.load 22 (Operand.tmp 131), type := 22, pos := "outright.go:144", after := #[{ on := 0, ground := Ground.data }], guard := none }) rfl (fun K hK => ?_) ?_
                    · go_simp
                      refine hK _ _ ?_
                      clear hK K
                      (try simp only [Act.put, List.setIfInBounds_toArray, List.set_cons_zero, List.set_cons_succ])
                      refine wpAny_ready (rs := [3]) (by kernel_rfl) (by simp) ?_
                      refine AllReady.cons (o := { dst := some 134, op := Op.load 22 (Operand.tmp 133), type := 22, pos := "outright.go:144", after := #[{ on := 2, ground := Ground.data }], guard := none }) rfl (fun K hK => ?_) ?_
                      rotate_left
                      · exact AllReady.nil
                      go_simp
                      refine hK _ _ ?_
                      clear hK K
                      (try simp only [Act.put, List.setIfInBounds_toArray, List.set_cons_zero, List.set_cons_succ])
                      refine wpAny_take (i := 9) (oi := { dst := some 140, op := Op.indexAddr 22 (Operand.tmp 134) (Operand.tmp 139), type := 0, pos := "outright.go:144", after := #[{ on := 3, ground := Ground.data }, { on := 8, ground := Ground.data }], guard := none }) (v := ?_) rfl (by kernel_rfl) (by kernel_rfl) (by kernel_rfl) (fun _ _ _ h => h) (Or.inl ⟨by rfl, ?_⟩) ?_
                      rotate_left
                      · (intro w0; go_simp; (try with_reducible rfl))
                      (try simp only [Act.put, List.setIfInBounds_toArray, List.set_cons_zero, List.set_cons_succ])
                      refine wpAny_ready (rs := [10]) (by kernel_rfl) (by simp) ?_
                      refine AllReady.cons (o := { dst := some 141, op := Op.load 48 (Operand.tmp 140), type := 48, pos := "outright.go:144", after := #[{ on := 9, ground := Ground.data }], guard := none }) rfl (fun K hK => ?_) ?_
                      rotate_left
                      · exact AllReady.nil
                      refine step_load48 (ad.add (t * 64)) (blC bL) rfl h64 hcs.out ?_
                      refine hK _ _ ?_
                      clear hK K
                      (try simp only [Act.put, List.setIfInBounds_toArray, List.set_cons_zero, List.set_cons_succ])
                      refine wpAny_ready (rs := [11]) (by kernel_rfl) (by simp) ?_
                      refine AllReady.cons (o := { dst := some 142, op := Op.buildSlice 22 1 #[(0, Operand.tmp 141)], type := 22, pos := "outright.go:144", after := #[{ on := 10, ground := Ground.data }], guard := none }) rfl (fun K hK => ?_) ?_
                      rotate_left
                      · exact AllReady.nil
                      refine step_build1 (blC bL) rfl h64 ?_
                      refine hK _ _ ?_
                      clear hK K
                      (try simp only [Act.put, List.setIfInBounds_toArray, List.set_cons_zero, List.set_cons_succ])
                      refine wpAny_ready (rs := [12]) (by kernel_rfl) (by simp) ?_
                      refine AllReady.cons (o := { dst := some 143, op := Op.call { callee := Callee.builtin Builtin.append, args := #[Operand.tmp 132, Operand.tmp 142], argTypes := #[22, 22] }, type := 22, pos := "outright.go:144", after := #[{ on := 1, ground := Ground.data }, { on := 11, ground := Ground.data }], guard := none }) rfl (fun K hK => ?_) ?_
                      rotate_left
                      · exact AllReady.nil
                      refine step_append_any (by rfl) (.tmp 132) (.tmp 142) _ (by rfl) wz.heap.size 48 j0 _ 64 128 Try.underlying22 hj0 hy0 hy1 hy2 hyz (by omega) (.slice A1 m c1) (m) (bsC (lst (fun j => qs.getD (Ct.sw W H j) []) (m))) rfl cL.out.own (some ⟨wd.heap.size, 0, none⟩) 1 1 (blC bL) rfl hnew.out (blC_one _) (by simp only [maxLen]; omega) (by omega) hbs.out ?_
                      intro v6 w6 hown6 hon6 hat6
                      have hb6 := cL.out.blk.only hon6 cLn.out
                      obtain ⟨A6, c6, rfl⟩ := own_slice hown6
                      have hg6 := hb6.cell 2
                      have hf6 := hb6.frozen 2
                      simp only [List.getElem?_toArray, List.getElem?_cons_zero, List.getElem?_cons_succ] at hg6
                      replace hb6 := Lib.hid hb6
                      replace hown6 := Lib.hid hown6
                      replace hon6 := Lib.hid hon6
                      replace hat6 := Lib.hid hat6
                      refine hK _ _ ?_
                      clear hK K
                      (try simp only [Act.put, List.setIfInBounds_toArray, List.set_cons_zero, List.set_cons_succ])
                      refine wpAny_take (i := 13) (oi := { dst := some 144, op := Op.fieldAddr 24 (Operand.tmp 10) 2, type := 0, pos := "outright.go:144", after := #[{ on := 0, ground := Ground.phase }, { on := 1, ground := Ground.phase }, { on := 2, ground := Ground.phase }, { on := 3, ground := Ground.phase }, { on := 4, ground := Ground.phase }, { on := 5, ground := Ground.phase }, { on := 6, ground := Ground.phase }, { on := 7, ground := Ground.phase }, { on := 8, ground := Ground.phase }, { on := 9, ground := Ground.phase }, { on := 10, ground := Ground.phase }, { on := 11, ground := Ground.phase }, { on := 12, ground := Ground.phase }], guard := none }) (v := ?_) rfl (by kernel_rfl) (by kernel_rfl) (by kernel_rfl) (fun _ _ _ h => h) (Or.inl ⟨by rfl, ?_⟩) ?_
                      rotate_left
                      · (intro w0; go_simp; (try with_reducible rfl))
                      (try simp only [Act.put, List.setIfInBounds_toArray, List.set_cons_zero, List.set_cons_succ])
                      refine wpAny_ready (rs := [14]) (by kernel_rfl) (by simp) ?_
                      refine AllReady.cons (o := { dst := none, op := Op.store 22 (Operand.tmp 144) (Operand.tmp 143), type := 0, pos := "outright.go:144", after := #[{ on := 13, ground := Ground.data }, { on := 12, ground := Ground.data }, { on := 12, ground := Ground.chain }, { on := 0, ground := Ground.phase }, { on := 1, ground := Ground.phase }, { on := 2, ground := Ground.phase }, { on := 3, ground := Ground.phase }, { on := 4, ground := Ground.phase }, { on := 5, ground := Ground.phase }, { on := 6, ground := Ground.phase }, { on := 7, ground := Ground.phase }, { on := 8, ground := Ground.phase }, { on := 9, ground := Ground.phase }, { on := 10, ground := Ground.phase }, { on := 11, ground := Ground.phase }, { on := 12, ground := Ground.phase }], guard := none }) rfl (fun K hK => ?_) ?_
                      rotate_left
                      · exact AllReady.nil
                      go_simp
                      refine hK _ _ ?_
                      clear hK K
                      (try simp only [Act.put, List.setIfInBounds_toArray, List.set_cons_zero, List.set_cons_succ])
                      refine wpAny_done (by kernel_rfl) ?_ _
                      go_wp2_with fail
                      go_meet
                      exact ⟨trivial, Lib.hid ⟨_, step_alone hL'.out hB'.out ho'.out (Nat.le_refl _) Od.out hon6.out (by have := hown6.out; simp only [hsw.out]; rw [← hbL.out]; exact this)⟩⟩
                    refine AllReady.cons (o := { dst := some 134, op := Op.load 22 (Operand.tmp 133), type := 22, pos := "outright.go:144", after := #[{ on := 2, ground := Ground.data }], guard := none }) rfl (fun K hK => ?_) ?_
                    rotate_left
                    · exact AllReady.nil
                    go_simp
                    refine hK _ _ ?_
                    clear hK K
                    (try simp only [Act.put, List.setIfInBounds_toArray, List.set_cons_zero, List.set_cons_succ])
                    refine wpAny_take (i := 9) (oi := { dst := some 140, op := Op.indexAddr 22 (Operand.tmp 134) (Operand.tmp 139), type := 0, pos := "outright.go:144", after := #[{ on := 3, ground := Ground.data }, { on := 8, ground := Ground.data }], guard := none }) (v := ?_) rfl (by kernel_rfl) (by kernel_rfl) (by kernel_rfl) (fun _ _ _ h => h) (Or.inl ⟨by rfl, ?_⟩) ?_
                    rotate_left
                    · (intro w0; go_simp; (try with_reducible rfl))
                    (try simp only [Act.put, List.setIfInBounds_toArray, List.set_cons_zero, List.set_cons_succ])
                    refine wpAny_ready (rs := [1, 10]) (by kernel_rfl) (by simp) ?_
                    refine AllReady.cons (o := { dst := some 132, op := Op.load 22 (Operand.tmp 131), type := 22, pos := "outright.go:144", after := #[{ on := 0, ground := Ground.data }], guard := none }) rfl (fun K hK => ?_) ?_
                    · go_simp
                      refine hK _ _ ?_
                      clear hK K
                      (try simp only [Act.put, List.setIfInBounds_toArray, List.set_cons_zero, List.set_cons_succ])
                      refine wpAny_ready (rs := [10]) (by kernel_rfl) (by simp) ?_
                      refine AllReady.cons (o := { dst := some 141, op := Op.load 48 (Operand.tmp 140), type := 48, pos := "outright.go:144", after := #[{ on := 9, ground := Ground.data }], guard := none }) rfl (fun K hK => ?_) ?_
                      rotate_left
                      · exact AllReady.nil
                      refine step_load48 (ad.add (t * 64)) (blC bL) rfl h64 hcs.out ?_
                      refine hK _ _ ?_
                      clear hK K
                      (try simp only [Act.put, List.setIfInBounds_toArray, List.set_cons_zero, List.set_cons_succ])
                      refine wpAny_ready (rs := [11]) (by kernel_rfl) (by simp) ?_
                      refine AllReady.cons (o := { dst := some 142, op := Op.buildSlice 22 1 #[(0, Operand.tmp 141)], type := 22, pos := "outright.go:144", after := #[{ on := 10, ground := Ground.data }], guard := none }) rfl (fun K hK => ?_) ?_
                      rotate_left
                      · exact AllReady.nil
                      refine step_build1 (blC bL) rfl h64 ?_
                      refine hK _ _ ?_
                      clear hK K
                      (try simp only [Act.put, List.setIfInBounds_toArray, List.set_cons_zero, List.set_cons_succ])
                      refine wpAny_ready (rs := [12]) (by kernel_rfl) (by simp) ?_
                      refine AllReady.cons (o := { dst := some 143, op := Op.call { callee := Callee.builtin Builtin.append, args := #[Operand.tmp 132, Operand.tmp 142], argTypes := #[22, 22] }, type := 22, pos := "outright.go:144", after := #[{ on := 1, ground := Ground.data }, { on := 11, ground := Ground.data }], guard := none }) rfl (fun K hK => ?_) ?_
                      rotate_left
                      · exact AllReady.nil
                      refine step_append_any (by rfl) (.tmp 132) (.tmp 142) _ (by rfl) wz.heap.size 48 j0 _ 64 128 Try.underlying22 hj0 hy0 hy1 hy2 hyz (by omega) (.slice A1 m c1) (m) (bsC (lst (fun j => qs.getD (Ct.sw W H j) []) (m))) rfl cL.out.own (some ⟨wd.heap.size, 0, none⟩) 1 1 (blC bL) rfl hnew.out (blC_one _) (by simp only [maxLen]; omega) (by omega) hbs.out ?_
                      intro v6 w6 hown6 hon6 hat6
                      have hb6 := cL.out.blk.only hon6 cLn.out
                      obtain ⟨A6, c6, rfl⟩ := own_slice hown6
                      have hg6 := hb6.cell 2
                      have hf6 := hb6.frozen 2
                      simp only [List.getElem?_toArray, List.getElem?_cons_zero, List.getElem?_cons_succ] at hg6
                      replace hb6 := Lib.hid hb6
                      replace hown6 := Lib.hid hown6
                      replace hon6 := Lib.hid hon6
                      replace hat6 := Lib.hid hat6
                      refine hK _ _ ?_
                      clear hK K
                      (try simp only [Act.put, List.setIfInBounds_toArray, List.set_cons_zero, List.set_cons_succ])
                      refine wpAny_take (i := 13) (oi := { dst := some 144, op := Op.fieldAddr 24 (Operand.tmp 10) 2, type := 0, pos := "outright.go:144", after := #[{ on := 0, ground := Ground.phase }, { on := 1, ground := Ground.phase }, { on := 2, ground := Ground.phase }, { on := 3, ground := Ground.phase }, { on := 4, ground := Ground.phase }, { on := 5, ground := Ground.phase }, { on := 6, ground := Ground.phase }, { on := 7, ground := Ground.phase }, { on := 8, ground := Ground.phase }, { on := 9, ground := Ground.phase }, { on := 10, ground := Ground.phase }, { on := 11, ground := Ground.phase }, { on := 12, ground := Ground.phase }], guard := none }) (v := ?_) rfl (by kernel_rfl) (by kernel_rfl) (by kernel_rfl) (fun _ _ _ h => h) (Or.inl ⟨by rfl, ?_⟩) ?_
                      rotate_left
                      · (intro w0; go_simp; (try with_reducible rfl))
                      (try simp only [Act.put, List.setIfInBounds_toArray, List.set_cons_zero, List.set_cons_succ])
                      refine wpAny_ready (rs := [14]) (by kernel_rfl) (by simp) ?_
                      refine AllReady.cons (o := { dst := none, op := Op.store 22 (Operand.tmp 144) (Operand.tmp 143), type := 0, pos := "outright.go:144", after := #[{ on := 13, ground := Ground.data }, { on := 12, ground := Ground.data }, { on := 12, ground := Ground.chain }, { on := 0, ground := Ground.phase }, { on := 1, ground := Ground.phase }, { on := 2, ground := Ground.phase }, { on := 3, ground := Ground.phase }, { on := 4, ground := Ground.phase }, { on := 5, ground := Ground.phase }, { on := 6, ground := Ground.phase }, { on := 7, ground := Ground.phase }, { on := 8, ground := Ground.phase }, { on := 9, ground := Ground.phase }, { on := 10, ground := Ground.phase }, { on := 11, ground := Ground.phase }, { on := 12, ground := Ground.phase }], guard := none }) rfl (fun K hK => ?_) ?_
                      rotate_left
                      · exact AllReady.nil
                      go_simp
                      refine hK _ _ ?_
                      clear hK K
                      (try simp only [Act.put, List.setIfInBounds_toArray, List.set_cons_zero, List.set_cons_succ])
                      refine wpAny_done (by kernel_rfl) ?_ _
                      go_wp2_with fail
                      go_meet
                      exact ⟨trivial, Lib.hid ⟨_, step_alone hL'.out hB'.out ho'.out (Nat.le_refl _) Od.out hon6.out (by have := hown6.out; simp only [hsw.out]; rw [← hbL.out]; exact this)⟩⟩
                    refine AllReady.cons (o := { dst := some 141, op := Op.load 48 (Operand.tmp 140), type := 48, pos := "outright.go:144", after := #[{ on := 9, ground := Ground.data }], guard := none }) rfl (fun K hK => ?_) ?_
                    rotate_left
                    · exact AllReady.nil
                    refine step_load48 (ad.add (t * 64)) (blC bL) rfl h64 hcs.out ?_
                    refine hK _ _ ?_
                    clear hK K
                    (try simp only [Act.put, List.setIfInBounds_toArray, List.set_cons_zero, List.set_cons_succ])
                    refine wpAny_ready (rs := [1, 11]) (by kernel_rfl) (by simp) ?_
                    refine AllReady.cons (o := { dst := some 132, op := Op.load 22 (Operand.tmp 131), type := 22, pos := "outright.go:144", after := #[{ on := 0, ground := Ground.data }], guard := none }) rfl (fun K hK => ?_) ?_
                    · go_simp
                      refine hK _ _ ?_
                      clear hK K
                      (try simp only [Act.put, List.setIfInBounds_toArray, List.set_cons_zero, List.set_cons_succ])
                      refine wpAny_ready (rs := [11]) (by kernel_rfl) (by simp) ?_
                      refine AllReady.cons (o := { dst := some 142, op := Op.buildSlice 22 1 #[(0, Operand.tmp 141)], type := 22, pos := "outright.go:144", after := #[{ on := 10, ground := Ground.data }], guard := none }) rfl (fun K hK => ?_) ?_
                      rotate_left
                      · exact AllReady.nil
                      refine step_build1 (blC bL) rfl h64 ?_
                      refine hK _ _ ?_
                      clear hK K
                      (try simp only [Act.put, List.setIfInBounds_toArray, List.set_cons_zero, List.set_cons_succ])
                      refine wpAny_ready (rs := [12]) (by kernel_rfl) (by simp) ?_
                      refine AllReady.cons (o := { dst := some 143, op := Op.call { callee := Callee.builtin Builtin.append, args := #[Operand.tmp 132, Operand.tmp 142], argTypes := #[22, 22] }, type := 22, pos := "outright.go:144", after := #[{ on := 1, ground := Ground.data }, { on := 11, ground := Ground.data }], guard := none }) rfl (fun K hK => ?_) ?_
                      rotate_left
                      · exact AllReady.nil
                      refine step_append_any (by rfl) (.tmp 132) (.tmp 142) _ (by rfl) wz.heap.size 48 j0 _ 64 128 Try.underlying22 hj0 hy0 hy1 hy2 hyz (by omega) (.slice A1 m c1) (m) (bsC (lst (fun j => qs.getD (Ct.sw W H j) []) (m))) rfl cL.out.own (some ⟨wd.heap.size, 0, none⟩) 1 1 (blC bL) rfl hnew.out (blC_one _) (by simp only [maxLen]; omega) (by omega) hbs.out ?_
                      intro v6 w6 hown6 hon6 hat6
                      have hb6 := cL.out.blk.only hon6 cLn.out
                      obtain ⟨A6, c6, rfl⟩ := own_slice hown6
                      have hg6 := hb6.cell 2
                      have hf6 := hb6.frozen 2
                      simp only [List.getElem?_toArray, List.getElem?_cons_zero, List.getElem?_cons_succ] at hg6
                      replace hb6 := Lib.hid hb6
                      replace hown6 := Lib.hid hown6
                      replace hon6 := Lib.hid hon6
                      replace hat6 := Lib.hid hat6
                      refine hK _ _ ?_
                      clear hK K
                      (try simp only [Act.put, List.setIfInBounds_toArray, List.set_cons_zero, List.set_cons_succ])
                      refine wpAny_take (i := 13) (oi := { dst := some 144, op := Op.fieldAddr 24 (Operand.tmp 10) 2, type := 0, pos := "outright.go:144", after := #[{ on := 0, ground := Ground.phase }, { on := 1, ground := Ground.phase }, { on := 2, ground := Ground.phase }, { on := 3, ground := Ground.phase }, { on := 4, ground := Ground.phase }, { on := 5, ground := Ground.phase }, { on := 6, ground := Ground.phase }, { on := 7, ground := Ground.phase }, { on := 8, ground := Ground.phase }, { on := 9, ground := Ground.phase }, { on := 10, ground := Ground.phase }, { on := 11, ground := Ground.phase }, { on := 12, ground := Ground.phase }], guard := none }) (v := ?_) rfl (by kernel_rfl) (by kernel_rfl) (by kernel_rfl) (fun _ _ _ h => h) (Or.inl ⟨by rfl, ?_⟩) ?_
                      rotate_left
                      · (intro w0; go_simp; (try with_reducible rfl))
                      (try simp only [Act.put, List.setIfInBounds_toArray, List.set_cons_zero, List.set_cons_succ])
                      refine wpAny_ready (rs := [14]) (by kernel_rfl) (by simp) ?_
                      refine AllReady.cons (o := { dst := none, op := Op.store 22 (Operand.tmp 144) (Operand.tmp 143), type := 0, pos := "outright.go:144", after := #[{ on := 13, ground := Ground.data }, { on := 12, ground := Ground.data }, { on := 12, ground := Ground.chain }, { on := 0, ground := Ground.phase }, { on := 1, ground := Ground.phase }, { on := 2, ground := Ground.phase }, { on := 3, ground := Ground.phase }, { on := 4, ground := Ground.phase }, { on := 5, ground := Ground.phase }, { on := 6, ground := Ground.phase }, { on := 7, ground := Ground.phase }, { on := 8, ground := Ground.phase }, { on := 9, ground := Ground.phase }, { on := 10, ground := Ground.phase }, { on := 11, ground := Ground.phase }, { on := 12, ground := Ground.phase }], guard := none }) rfl (fun K hK => ?_) ?_
                      rotate_left
                      · exact AllReady.nil
                      go_simp
                      refine hK _ _ ?_
                      clear hK K
                      (try simp only [Act.put, List.setIfInBounds_toArray, List.set_cons_zero, List.set_cons_succ])
                      refine wpAny_done (by kernel_rfl) ?_ _
                      go_wp2_with fail
                      go_meet
                      exact ⟨trivial, Lib.hid ⟨_, step_alone hL'.out hB'.out ho'.out (Nat.le_refl _) Od.out hon6.out (by have := hown6.out; simp only [hsw.out]; rw [← hbL.out]; exact this)⟩⟩
                    refine AllReady.cons (o := { dst := some 142, op := Op.buildSlice 22 1 #[(0, Operand.tmp 141)], type := 22, pos := "outright.go:144", after := #[{ on := 10, ground := Ground.data }], guard := none }) rfl (fun K hK => ?_) ?_
                    rotate_left
                    · exact AllReady.nil
                    refine step_build1 (blC bL) rfl h64 ?_
                    refine hK _ _ ?_
                    clear hK K
                    (try simp only [Act.put, List.setIfInBounds_toArray, List.set_cons_zero, List.set_cons_succ])
                    refine wpAny_ready (rs := [1]) (by kernel_rfl) (by simp) ?_
                    refine AllReady.cons (o := { dst := some 132, op := Op.load 22 (Operand.tmp 131), type := 22, pos := "outright.go:144", after := #[{ on := 0, ground := Ground.data }], guard := none }) rfl (fun K hK => ?_) ?_
                    rotate_left
                    · exact AllReady.nil
                    go_simp
                    refine hK _ _ ?_
                    clear hK K
                    (try simp only [Act.put, List.setIfInBounds_toArray, List.set_cons_zero, List.set_cons_succ])
                    refine wpAny_ready (rs := [12]) (by kernel_rfl) (by simp) ?_
                    refine AllReady.cons (o := { dst := some 143, op := Op.call { callee := Callee.builtin Builtin.append, args := #[Operand.tmp 132, Operand.tmp 142], argTypes := #[22, 22] }, type := 22, pos := "outright.go:144", after := #[{ on := 1, ground := Ground.data }, { on := 11, ground := Ground.data }], guard := none }) rfl (fun K hK => ?_) ?_
                    rotate_left
                    · exact AllReady.nil
                    refine step_append_any (by rfl) (.tmp 132) (.tmp 142) _ (by rfl) wz.heap.size 48 j0 _ 64 128 Try.underlying22 hj0 hy0 hy1 hy2 hyz (by omega) (.slice A1 m c1) (m) (bsC (lst (fun j => qs.getD (Ct.sw W H j) []) (m))) rfl cL.out.own (some ⟨wd.heap.size, 0, none⟩) 1 1 (blC bL) rfl hnew.out (blC_one _) (by simp only [maxLen]; omega) (by omega) hbs.out ?_
                    intro v6 w6 hown6 hon6 hat6
                    have hb6 := cL.out.blk.only hon6 cLn.out
                    obtain ⟨A6, c6, rfl⟩ := own_slice hown6
                    have hg6 := hb6.cell 2
                    have hf6 := hb6.frozen 2
                    simp only [List.getElem?_toArray, List.getElem?_cons_zero, List.getElem?_cons_succ] at hg6
                    replace hb6 := Lib.hid hb6
                    replace hown6 := Lib.hid hown6
                    replace hon6 := Lib.hid hon6
                    replace hat6 := Lib.hid hat6
                    refine hK _ _ ?_
                    clear hK K
                    (try simp only [Act.put, List.setIfInBounds_toArray, List.set_cons_zero, List.set_cons_succ])
                    refine wpAny_take (i := 13) (oi := { dst := some 144, op := Op.fieldAddr 24 (Operand.tmp 10) 2, type := 0, pos := "outright.go:144", after := #[{ on := 0, ground := Ground.phase }, { on := 1, ground := Ground.phase }, { on := 2, ground := Ground.phase }, { on := 3, ground := Ground.phase }, { on := 4, ground := Ground.phase }, { on := 5, ground := Ground.phase }, { on := 6, ground := Ground.phase }, { on := 7, ground := Ground.phase }, { on := 8, ground := Ground.phase }, { on := 9, ground := Ground.phase }, { on := 10, ground := Ground.phase }, { on := 11, ground := Ground.phase }, { on := 12, ground := Ground.phase }], guard := none }) (v := ?_) rfl (by kernel_rfl) (by kernel_rfl) (by kernel_rfl) (fun _ _ _ h => h) (Or.inl ⟨by rfl, ?_⟩) ?_
                    rotate_left
                    · (intro w0; go_simp; (try with_reducible rfl))
                    (try simp only [Act.put, List.setIfInBounds_toArray, List.set_cons_zero, List.set_cons_succ])
                    refine wpAny_ready (rs := [14]) (by kernel_rfl) (by simp) ?_
                    refine AllReady.cons (o := { dst := none, op := Op.store 22 (Operand.tmp 144) (Operand.tmp 143), type := 0, pos := "outright.go:144", after := #[{ on := 13, ground := Ground.data }, { on := 12, ground := Ground.data }, { on := 12, ground := Ground.chain }, { on := 0, ground := Ground.phase }, { on := 1, ground := Ground.phase }, { on := 2, ground := Ground.phase }, { on := 3, ground := Ground.phase }, { on := 4, ground := Ground.phase }, { on := 5, ground := Ground.phase }, { on := 6, ground := Ground.phase }, { on := 7, ground := Ground.phase }, { on := 8, ground := Ground.phase }, { on := 9, ground := Ground.phase }, { on := 10, ground := Ground.phase }, { on := 11, ground := Ground.phase }, { on := 12, ground := Ground.phase }], guard := none }) rfl (fun K hK => ?_) ?_
                    rotate_left
                    · exact AllReady.nil
                    go_simp
                    refine hK _ _ ?_
                    clear hK K
                    (try simp only [Act.put, List.setIfInBounds_toArray, List.set_cons_zero, List.set_cons_succ])
                    refine wpAny_done (by kernel_rfl) ?_ _
                    go_wp2_with fail
                    go_meet
                    exact ⟨trivial, Lib.hid ⟨_, step_alone hL'.out hB'.out ho'.out (Nat.le_refl _) Od.out hon6.out (by have := hown6.out; simp only [hsw.out]; rw [← hbL.out]; exact this)⟩⟩
                  case rest =>
                    obtain ⟨_, hc⟩ := hcut
                    obtain ⟨v6, hL6, hB6, ho6⟩ := hc.out
                    have O6 := Lib.hid (OZ.out.then ho6 (fun j h => .inr (by have h : j = k9 + 1 := h; have := hk9.out; omega)))
                    obtain ⟨adf, rfl, hcf⟩ := (FR.out.no O6.out).at_ (i := t) (u := .bool (l.getD t false)) (by omega) (by simp [boC, show t < l.length by omega])
                    obtain ⟨bf, hbf⟩ : ∃ b, b = l.getD t false := ⟨_, rfl⟩
                    rw [← hbf] at hcf
                    replace hbf := Lib.hid hbf
                    have hL6' := Lib.hid hL6
                    have hB6' := Lib.hid hB6
                    have ho6' := Lib.hid ho6
                    have oc := Lib.hid ((Only.refl No wc).alloc (.cells #[.bool bf] 4))
                    have hbs : Hid (wz.heap.size ≤ (wc.alloc (.cells #[.bool bf] 4)).heap.size) := Lib.hid (Nat.le_trans ho6.size oc.out.size)
                    clear hc hL6 hB6 ho6 hL' hB' ho' s2 r2 hcs
                    go_wp2_with (first
                      | (at_builtin
                         (refine Mm.wpList_append_any _ rfl (.tmp 145) (.tmp 154) _ rfl wz.heap.size 4 i0 _ 1 1 Try.underlying25 hi0 hz0 hz1 hz2 rfl (by omega) (.slice A5 m c5) m (boC (lst (fun j => l.getD (Ct.sw W H j) false) m)) rfl (hB6'.out.alloc _) (some ⟨wc.heap.size, 0, none⟩) 1 1 [.bool bf] rfl (Rds.fresh (Blk.new _ _ _) rfl) (by simp [Value.oneCell']) (by simp only [maxLen]; omega) (by omega) hbs.out ?_)
                         intro v7 w7 hown7 hon7 hat7
                         replace hown7 := Lib.hid hown7
                         replace hon7 := Lib.hid hon7
                         clear hat7))
                    go_roundw
                    case rel =>
                      have hL7 := step_flag hL6'.out hB6'.out oc.out hon7.out
                      have ho7 := only_own ho6'.out (Nat.le_refl _) hB6'.out oc.out hon7.out
                      have hB7 : w7.ownsRow wz.heap.size 4 1 v7 (m + 1) (boC (lst (fun j => l.getD (Ct.sw W H j) false) (m + 1))) := by
                        rw [lst_succ]
                        simp only [hsw.out]
                        rw [← hbf.out]
                        simpa [boC] using hown7.out
                      exact ⟨y + 1, by go_num, by omega, Lib.hid (by rw [← Nat.add_assoc, ← hm.out]; exact ⟨_, hL7, hB7, ho7⟩)⟩
                    case measure => simp [intOf]; omega
                · have hyl' : ¬ (y : Int) < H := by omega
                  obtain rfl : H = y := by omega
                  go_wp2_with fail
                  go_roundw
                  case rel => exact ⟨x + 1, by go_num, by omega, by rw [Nat.succ_mul]; exact hM⟩
                  case measure => simp [intOf]; omega
            · have hxl' : ¬ (x : Int) < W := by omega
              obtain rfl : W = x := by omega
              obtain ⟨vS, hL, hB, ho⟩ := hM.out
              rw [hN.out] at hL hB
              obtain ⟨AS, cS, rfl⟩ := own_slice hL.own
              obtain ⟨A5, c5, rfl⟩ := own_slice hB
              have OQ := Lib.hid (OZ.out.then ho (fun j h => .inr (by have h : j = k9 + 1 := h; have := hk9.out; omega)))
              have SR := Lib.hid (Rds.of_own hL.own)
              have SB := Lib.hid (Rds.of_own hB)
              have Y10 := Lib.hid hL.blk
              have LR' := Lib.hid (LR.out.only ho (fun _ => fL.out))
              have TR' := Lib.hid (TR.out.only ho (fun _ => fT.out))
              have BR' := Lib.hid (BR.out.only ho (fun _ => fB.out))
              have Y9 := Lib.hid (X9.out.only ho (fun h => by have h : k9 = k9 + 1 := h; omega))
              have Y11 := Lib.hid (X11.out.only ho (fun h => by have h : k9 + 1 + 1 = k9 + 1 := h; omega))
              have QR' := Lib.hid (QR.out.no OQ.out)
              have FR' := Lib.hid (FR.out.no OQ.out)
              have Yb := Lib.hid (B3.out.only OQ.out id)
              have AR : Hid (Only No w wr) := Lib.hid (AW.out.trans OQ.out)
              have hHW2 : W * H = i := hN.out
              clear hM hL hB ho LR TR BR X9 X10 X11 QR FR B3 fL fT fB OQ OZ hrel9
              have h1 := laid10n wr W H Af cf i l hll2 FR'.out (by omega) (by omega) (by rw [hll2, hHW2])
              go_upto_region 37 with (first
                | (go_at_call 10; refine h1.mono ?_; clear h1; rintro e w21 ⟨g1, rfl, o21, hg1, hm1⟩; have O21 := Lib.hid o21; have M1 := Lib.hid hm1; clear o21 hg1 hm1; have h2 := laid10n w21 W H A2 c2 i (lst (fun j => l.getD (lf W j) false) i) (lst_len _ _) (BR'.out.no O21.out) (by omega) (by omega) (by rw [lst_len, hHW2]))
                | (go_at_call 10; refine h2.mono ?_; clear h2; rintro e w22 ⟨g2, rfl, o22, hg2, hm2⟩; have O22 := Lib.hid o22; have M2 := Lib.hid hm2; clear o22 hg2 hm2; have h3 := laid10n w22 H W A5 c5 i (lst (fun j => l.getD (Ct.sw W H j) false) i) (lst_len _ _) (SB.out.no (O21.out.trans O22.out)) (by omega) (by omega) (by rw [lst_len, hHW]))
                | (go_at_call 10; refine h3.mono ?_; clear h3; rintro e w23 ⟨g3, rfl, o23, hg3, hm3⟩; have O23 := Lib.hid o23; have M3 := Lib.hid hm3; clear o23 hg3 hm3))
              have OA := Lib.hid ((O21.out.trans O22.out).trans O23.out)
              have M1' := Lib.hid ((M1.out.no (O22.out.trans O23.out)).mono (O22.out.trans O23.out).size)
              have M2' := Lib.hid ((M2.out.no O23.out).mono O23.out.size)
              have M3' := M3
              have Q4 := Lib.hid (QR'.out.no OA.out)
              have L4 := Lib.hid (LR'.out.no OA.out)
              have T4 := Lib.hid (TR'.out.no OA.out)
              have S4 := Lib.hid (SR.out.no OA.out)
              have hcs : Hid (∀ w', Only No w23 w' → (w'.cell? ⟨kb, 0, none⟩ = some (.int .i64 W) ∧ w'.cell? ⟨kb, 1, none⟩ = some (.int .i64 H) ∧ w'.cell? ⟨kb, 2, none⟩ = some (.slice Ag i cg)) ∧
                  (w'.cell? ⟨k9, 0, none⟩ = some (.int .i64 W) ∧ w'.cell? ⟨k9, 1, none⟩ = some (.int .i64 H) ∧ w'.cell? ⟨k9, 2, none⟩ = some (.slice AL i cL)) ∧
                  (w'.cell? ⟨k9 + 1, 0, none⟩ = some (.int .i64 H) ∧ w'.cell? ⟨k9 + 1, 1, none⟩ = some (.int .i64 W) ∧ w'.cell? ⟨k9 + 1, 2, none⟩ = some (.slice AS i cS)) ∧
                  (w'.cell? ⟨k9 + 1 + 1, 0, none⟩ = some (.int .i64 W) ∧ w'.cell? ⟨k9 + 1 + 1, 1, none⟩ = some (.int .i64 H) ∧ w'.cell? ⟨k9 + 1 + 1, 2, none⟩ = some (.slice AT i cT))) := Lib.hid fun w' ho => by
                have xb := (Yb.out.only OA.out id).only ho id
                have x9 := (Y9.out.only OA.out id).only ho id
                have x10 := (Y10.out.only OA.out id).only ho id
                have x11 := (Y11.out.only OA.out id).only ho id
                exact ⟨⟨xb.cell 0, xb.cell 1, xb.cell 2⟩, ⟨x9.cell 0, x9.cell 1, x9.cell 2⟩, ⟨x10.cell 0, x10.cell 1, x10.cell 2⟩, ⟨x11.cell 0, x11.cell 1, x11.cell 2⟩⟩
              have A4 : Hid (Only No w w23) := Lib.hid (AR.out.trans OA.out)
              have hC : Hid (∀ x y : Nat, x < W → y < H → ∀ w', Only No w23 w' →
                  Calls Try.prog 12 #[.agg #[.int .i64 W, .int .i64 H, .slice Ag i cg], P g1, .int .i64 (x : Int), .int .i64 (y : Int)] w' (fun e w'' => e = .returned (.int .i16 (dcP W H l (dcs qs) (x : Int) (y : Int))) ∧ Only No w' w'') ∧
                  Calls Try.prog 12 #[.agg #[.int .i64 W, .int .i64 H, .slice AL i cL], P g2, .int .i64 ((W : Int) - 1 - (x : Int)), .int .i64 (y : Int)] w' (fun e w'' => e = .returned (.int .i16 (dcP W H l (dcs qs) (x : Int) (y : Int))) ∧ Only No w' w'') ∧
                  Calls Try.prog 12 #[.agg #[.int .i64 H, .int .i64 W, .slice AS i cS], P g3, .int .i64 (y : Int), .int .i64 (x : Int)] w' (fun e w'' => e = .returned (.int .i16 (dcP W H l (dcs qs) (x : Int) (y : Int))) ∧ Only No w' w'') ∧
                  Calls Try.prog 12 #[.agg #[.int .i64 W, .int .i64 H, .slice AT i cT], P g1, .int .i64 (x : Int), .int .i64 (y : Int)] w' (fun e w'' => e = .returned (.int .i16 (-(dcP W H l (dcs qs) (x : Int) (y : Int)))) ∧ Only No w' w'')) := Lib.hid fun x y hx hy w' ho => by
                have hi0 : 0 < i := by rw [← hHW2]; have := idx_lt hx hy; omega
                have hin : inB W H (x : Int) (y : Int) = true := inB_nat hx hy
                have hqd' := dcs_bounds hqb.out
                have hbL : Bls (lst (fun j => qs.getD (lf W j) []) i) := lst_bls fun j hj => bls_get hqb.out (by rw [hql, ← hHW2]; exact lf_lt (by rw [hHW2]; exact hj))
                have hbS : Bls (lst (fun j => qs.getD (Ct.sw W H j) []) i) := lst_bls fun j hj => bls_get hqb.out (by rw [hql, ← hHW2]; exact sw_lt (by rw [hHW]; exact hj))
                have hbT : Bls (lst (fun j => ngB (qs.getD j [])) i) := lst_bls fun j hj => ngB_ok (bls_get hqb.out (by rw [hql]; exact hj)) (hqd.out j)
                have k1 := dc12k w' w23.heap.size W H l qs Ag cg g1 i hql (Q4.out.no ho) (Ct.Rds.far Q4.out hi0) hHW2.symm hqb.out (M1'.out.no ho) ho.size x y hin
                have k2 := dc12k w' w23.heap.size W H (lst (fun j => l.getD (lf W j) false) i) (lst (fun j => qs.getD (lf W j) []) i) AL cL g2 i (lst_len _ _) (L4.out.no ho) (Ct.Rds.far L4.out hi0) hHW2.symm hbL (M2'.out.no ho) ho.size ((W : Int) - 1 - x) y (by rw [inB_left]; exact hin)
                have k3 := dc12k w' w23.heap.size H W (lst (fun j => l.getD (Ct.sw W H j) false) i) (lst (fun j => qs.getD (Ct.sw W H j) []) i) AS cS g3 i (lst_len _ _) (S4.out.no ho) (Ct.Rds.far S4.out hi0) hHW.symm hbS (M3'.out.no ho) ho.size y x (by rw [inB_swap]; exact hin)
                have k4 := dc12k w' w23.heap.size W H l (lst (fun j => ngB (qs.getD j [])) i) AT cT g1 i (lst_len _ _) (T4.out.no ho) (Ct.Rds.far T4.out hi0) hHW2.symm hbT (M1'.out.no ho) ho.size x y hin
                have t2 : dcP W H (lst (fun j => l.getD (lf W j) false) i) (dcs (lst (fun j => qs.getD (lf W j) []) i)) ((W : Int) - 1 - x) y = dcP W H l (dcs qs) x y := by
                  rw [← hHW2]; exact dcP_left lefts_of hin
                have t3 : dcP H W (lst (fun j => l.getD (Ct.sw W H j) false) i) (dcs (lst (fun j => qs.getD (Ct.sw W H j) []) i)) y x = dcP W H l (dcs qs) x y := by
                  rw [← hHW]; exact dcP_swap swaps_of hin
                have t4 : dcP W H l (dcs (lst (fun j => ngB (qs.getD j [])) i)) x y = - dcP W H l (dcs qs) x y := dcP_ng (by omega) (by omega) hqd' (by rw [hHW2]; exact turns_of hqb.out hql) hin
                rw [t2] at k2
                rw [t3] at k3
                rw [t4] at k4
                exact ⟨k1, k2, k3, k4⟩
              have hdb : Hid (∀ x y : Nat, x < W → y < H → -32767 ≤ dcP W H l (dcs qs) (x : Int) (y : Int) ∧ dcP W H l (dcs qs) (x : Int) (y : Int) ≤ 32767) := Lib.hid fun x y hx hy => dcP_above (by omega) (by omega) (dcs_bounds hqb.out) hqd.out (inB_nat hx hy)
              clear O21 O22 O23 M1 M2 M3 M1' M2' M3' Q4 L4 T4 S4 OA QR' LR' TR' BR' SR SB FR' Yb Y9 Y10 Y11 hqb hqd
              go_wp2_with fail
              go_loopw [22] (fun v22 wx => ∃ y : Nat, v22 = .int .i64 y ∧ y ≤ H ∧ Hid (Only No w23 wx)) (fun v22 _ => H - (intOf v22).toNat)
              case atStart => exact ⟨0, rfl, by omega, Lib.hid (Only.refl _ _)⟩
              case round =>
                obtain ⟨y, rfl, hy, hM⟩ := hrel
                by_cases hyl : y < H
                · have hyl' : (y : Int) < H := by omega
                  go_wp2_with fail
                  go_loopw [23] (fun v23 wx => ∃ x : Nat, v23 = .int .i64 x ∧ x ≤ W ∧ Hid (Only No w23 wx)) (fun v23 _ => W - (intOf v23).toNat)
                  case atStart => exact ⟨0, rfl, by omega, hM⟩
                  case round =>
                    obtain ⟨x, rfl, hx, hM⟩ := hrel
                    by_cases hxl : x < W
                    · have hxl' : (x : Int) < W := by omega
                      have hb := hdb.out x y hxl hyl
                      obtain ⟨⟨c0, c1', c2'⟩, ⟨d0, d1, d2⟩, ⟨e0, e1, e2⟩, ⟨f0, f1, f2⟩⟩ := hcs.out wr hM.out
                      have hCx := fun w' => hC.out x y hxl hyl w'
                      obtain ⟨dv, hdv⟩ : ∃ dv, dv = dcP W H l (dcs qs) (x : Int) (y : Int) := ⟨_, rfl⟩
                      rw [← hdv] at hCx hb
                      replace hCx := Lib.hid hCx
                      replace hdv := Lib.hid hdv
                      have g1' : (dv != dv) = false := by simp
                      have g2' : (-dv != -dv) = false := by simp
                      have en : IntKind.i16.wrap (-dv) = -dv := wrap16 _ (by omega)
                      have k1 := (hCx.out wr hM.out).1
                      go_wp2_with (first
                        | (go_at_call 12; refine k1.mono ?_; clear k1; rintro e w31 ⟨rfl, o31⟩; have O31 := Lib.hid (hM.out.trans o31); clear o31; obtain ⟨⟨c0, c1', c2'⟩, ⟨d0, d1, d2⟩, ⟨e0, e1, e2⟩, ⟨f0, f1, f2⟩⟩ := hcs.out w31 O31.out; have k2 := (hCx.out w31 O31.out).2.1)
                        | (go_at_call 12; refine k2.mono ?_; clear k2; rintro e w32 ⟨rfl, o32⟩; have O32 := Lib.hid (O31.out.trans o32); clear o32; obtain ⟨⟨c0, c1', c2'⟩, ⟨d0, d1, d2⟩, ⟨e0, e1, e2⟩, ⟨f0, f1, f2⟩⟩ := hcs.out w32 O32.out; have k3 := (hCx.out w32 O32.out).2.2.1)
                        | (go_at_call 12; refine k3.mono ?_; clear k3; rintro e w33 ⟨rfl, o33⟩; have O33 := Lib.hid (O32.out.trans o33); clear o33; obtain ⟨⟨c0, c1', c2'⟩, ⟨d0, d1, d2⟩, ⟨e0, e1, e2⟩, ⟨f0, f1, f2⟩⟩ := hcs.out w33 O33.out; have k4 := (hCx.out w33 O33.out).2.2.2)
                        | (go_at_call 12; refine k4.mono ?_; clear k4; rintro e w34 ⟨rfl, o34⟩; have O34 := Lib.hid (O33.out.trans o34); clear o34))
                      go_roundw
                      case rel => exact ⟨x + 1, by go_num, by omega, O34⟩
                      case measure => simp [intOf]; omega
                    · have hxl' : ¬ (x : Int) < W := by omega
                      obtain rfl : W = x := by omega
                      go_wp2_with fail
                      go_roundw
                      case rel => exact ⟨y + 1, by go_num, by omega, hM⟩
                      case measure => simp [intOf]; omega
                · have hyl' : ¬ (y : Int) < H := by omega
                  obtain rfl : H = y := by omega
                  go_wp2_with fail
                  go_ret
                  exact ⟨rfl, A4.out.trans hM.out⟩
end Go.Proofs.Ytnepchdpgbdogaa.Ct
