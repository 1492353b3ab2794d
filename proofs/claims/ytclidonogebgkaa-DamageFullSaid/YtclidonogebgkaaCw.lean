/- DamageCover: the walk. -/
import Derived.Test.YtclidonogebgkaaCp
import Derived.Test.YtclidonogebgkaaBp
import Derived.Deep.RegionWith
import Derived.Deep.RegionHeld3
namespace Go.Proofs.Ytclidonogebgkaa.Ct
open Go.ChangeShapes Go.WideShapes Go.RowKit Mm
/-- a map of so many columns and rows, out of a list -/
theorem shape_nums (wide : Int) (l : List Bool) : ∃ W H : Nat, (W : Int) = 1 + roundP wide 40 ∧ H = min (l.length / W) 8192 ∧ 1 ≤ W ∧ W ≤ 40 ∧ H ≤ 8192 ∧ W * H ≤ l.length := by
  have r1 := roundP_bounds wide (n := 40) (by omega)
  refine ⟨(1 + roundP wide 40).toNat, _, by omega, rfl, by omega, by omega, Nat.min_le_right _ _, ?_⟩
  generalize (1 + roundP wide 40).toNat = W
  have h1 : W * (l.length / W) ≤ l.length := Nat.mul_div_le _ _
  have h2 : W * min (l.length / W) 8192 ≤ W * (l.length / W) := Nat.mul_le_mul_left _ (Nat.min_le_left _ _)
  omega
theorem info3 : (Try.prog.info? 3).map (fun i => (i.zero, i.size, i.bytes)) = some (some (.int .i64 0), 1, 8) := by kernel_rfl
def lastP (W : Nat) (bs : List Bx) : Nat → Int
  | 0 => -1
  | i + 1 => match bs[i]? with | some b => ((W * b.y + b.x : Nat) : Int) | none => -1
theorem lastP_succ {W : Nat} {bs : List Bx} {i : Nat} (h : i < bs.length) : lastP W bs (i + 1) = ((W * bs[i].y + bs[i].x : Nat) : Int) := by simp [lastP, h]
theorem lastP_lt {W : Nat} {bs : List Bx} (ho : bs.Pairwise (fun p q => W * p.y + p.x < W * q.y + q.x)) {i : Nat} (h : i < bs.length) : lastP W bs i < ((W * bs[i].y + bs[i].x : Nat) : Int) ∧ -1 ≤ lastP W bs i := by
  cases i with
  | zero => simp only [lastP]; omega
  | succ i =>
    rw [lastP_succ (by omega)]
    have := (List.pairwise_iff_getElem.1 ho) i (i + 1) (by omega) h (by omega)
    omega
set_option maxRecDepth 100000 in
set_option maxHeartbeats 1000000 in
theorem cover3 (w : World) (wide : Int) (A : Option Addr) (c : Nat) (l : List Bool) (h : Rds w 1 A l.length (boC l)) (hc : l.length ≤ c) (hl : l.length ≤ 140737488351232) (hA : A = none → l.length = 0) :
    Calls Try.prog 3 #[.int .i64 wide, .slice A l.length c] w fun e w' => e = .returned (.bool true) ∧ Only No w w' := by
  obtain ⟨W, H, hW, hH, hW1, hW40, hH8, hWH⟩ := shape_nums wide l
  have hsh := Lib.hid (fun w' (o : Only No w w') => shape8 w' wide A c l (h.no o) hc hl hA W H hW hH)
  have haw := Lib.hid awake7
  have h0 := Lib.hid h
  have hWHs : W * H ≤ 327680 := by
    have := Nat.mul_le_mul hW40 hH8
    omega
  have hfl : (l.take (W * H)).length = W * H := by rw [List.length_take]; omega
  have hge : Hid (∀ i, i < W * H → (l.take (W * H)).getD i false = l.getD i false) := Lib.hid fun i hi => by simp [hi]
  obtain ⟨hbox, hord, hsum⟩ := cover hfl
  have hblen := bxs_len W H (l.take (W * H)) ((upF (l.take (W * H)) (l.take (W * H)).length).map (·.1))
  have hbl2 := upF_len (l.take (W * H)) (l.take (W * H)).length
  rw [List.length_map] at hblen
  generalize hF : l.take (W * H) = F at *
  have hbx := Lib.hid (fun w' G A' c' (hm : MapAt w' G A' c' W H F) => boxes9 hm)
  generalize (bxs W H F ((upF F F.length).map (·.1))).2 = bs at *
  have hbn : bs.length ≤ 327680 := by omega
  clear hblen hbl2
  obtain ⟨i0, hi0, hz0, hz1, hz2⟩ := info_parts info3
  have e0 : IntKind.i64.wrap ((W : Int) * (H : Int)) = ((W * H : Nat) : Int) := by rw [IntWalk.i64_in _ (by rw [← Int.natCast_mul]; omega), ← Int.natCast_mul]
  have hmk0 := Lib.hid (fun w' => run_make_full (P := Try.prog) w' w'.heap.size 27 3 i0 (.int .i64 0) 1 Try.underlying27 hi0 hz0 hz1 .i64 .i64 (W * H) (by rw [hz2]; omega) (by unfold maxLen; omega) (Nat.le_refl _))
  replace hF := Lib.hid hF
  replace hfl := Lib.hid hfl
  replace hbox := Lib.hid hbox
  replace hord := Lib.hid hord
  replace hsum := Lib.hid hsum
  clear h hW hH
  have hpl : Hid (∀ y x, y < H → x < W → W * y + x < W * H) := Lib.hid fun y x hy hx => by
    have : W * (y + 1) ≤ W * H := Nat.mul_le_mul_left _ hy
    rw [Nat.mul_succ] at this
    omega
  generalize hM : W * H = M at *
  replace hM := Lib.hid hM
  go_enter Try.func3, Try.ntmps3
  go_wp2_with fail
  refine (haw.out _).mono ?_
  rintro e w1 ⟨rfl, o1⟩
  replace o1 := Lib.hid o1
  have hs1 := Lib.hid (hsh.out w1 o1.out)
  go_wp2_with fail
  refine hs1.out.mono ?_
  rintro e w2 ⟨G, A1, c1, rfl, o2, hgeG, hm⟩
  replace o2 := Lib.hid o2
  obtain ⟨w3, hmk, own3, gr3⟩ := hmk0.out w2
  rw [← hM.out, madeT, hM.out] at own3
  have o3 : Hid (Only No w2 w3) := Lib.hid ((Only.of_grown gr3).mono (fun i h => by cases h))
  replace own3 := Lib.hid own3
  have hb3 := Lib.hid (hbx.out w3 G A1 c1 (hm.no o3.out))
  clear hs1 hgeG gr3 hmk0 hbx hm hsh haw
  go_wp2_with fail
  refine hb3.out.mono ?_
  rintro e w4 ⟨Lv, rfl, own4, o4⟩
  obtain ⟨A4, c4, rfl⟩ := own_slice own4
  have hA4 : Hid (∀ ad, A4 = some ad → ad.block ≠ w2.heap.size) := Lib.hid fun ad e => by
    subst e
    rcases own4.2 with ⟨hv, _⟩ | ⟨g', cap, cur, hv, _⟩
    · simp at hv
    · injection hv with hv
      injection hv with hv
      subst hv
      have h1 := own_ge own4 g' (by simp [Value.ownBlock])
      have h2 := own_lt own3.out w2.heap.size (by simp [Value.ownBlock])
      show g' ≠ _
      omega
  have hr4 := Lib.hid (Rds.of_own own4)
  have hT4 := Lib.hid (own_only own3.out o4 fun _ _ => id)
  obtain ⟨T, hT⟩ : ∃ T, T = w2.heap.size := ⟨_, rfl⟩
  have hTw : w.heap.size ≤ T := by rw [hT]; exact Nat.le_trans o1.out.size o2.out.size
  have oA : Hid (Only No w w4) := Lib.hid (o1.out.trans (o2.out.trans (o3.out.trans o4)))
  rw [← hT] at hA4 hT4
  clear own4 hb3 own3 hmk o1 o2 o3 o4
  go_wp2_with fail
  rw [← hT]
  clear hT
  go_loopw [10, 12] (fun v10 v12 wr => ∃ i : Nat, v12 = .int .i64 i ∧ i ≤ bs.length ∧ v10 = .int .i64 (lastP W bs i) ∧ Hid (wr.ownsRow T 3 1 (.slice (some ⟨T, 0, none⟩) M M) M (tmC M (tms W (bs.take i))) ∧ Only (One T) w4 wr)) (fun _ v12 _ => bs.length - (intOf v12).toNat)
  case atStart => exact ⟨0, rfl, by omega, rfl, Lib.hid ⟨hT4.out, Only.refl _ _⟩⟩
  case round =>
    obtain ⟨i, rfl, hi, rfl, hO⟩ := hrel
    by_cases hlt : i < bs.length
    · have hlt' : (i : Int) < bs.length := by omega
      obtain ⟨ad, rfl, a0, a1, a2, a3⟩ := bxR (hr4.out.only hO.out.2 fun _ ad e h => hA4.out ad e h) hlt
      obtain ⟨f1, f2, f3, f4⟩ := hbox.out _ (List.getElem_mem hlt)
      obtain ⟨g1, g2⟩ := lastP_lt hord.out hlt
      have hts := Lib.hid (take_succ' hlt)
      have hls := Lib.hid (lastP_succ (W := W) hlt)
      have hle := Lib.hid (fun p => tms_le W (bs.take i) p)
      rw [List.length_take] at hle
      generalize bs[i] = q at *
      generalize lastP W bs i = la at *
      have hq := hpl.out q.y q.x (by omega) (by omega)
      have hMs := hM.out
      have e1 : IntKind.i64.wrap ((W : Int) - (q.a : Int)) = ((W - q.a : Nat) : Int) := by rw [IntWalk.i64_in _ (by omega)]; omega
      have e2 : IntKind.i64.wrap ((H : Int) - (q.b : Int)) = ((H - q.b : Nat) : Int) := by rw [IntWalk.i64_in _ (by omega)]; omega
      have e3 : IntKind.i64.wrap ((W : Int) * (q.y : Int)) = ((W * q.y : Nat) : Int) := by rw [IntWalk.i64_in _ (by rw [← Int.natCast_mul]; omega), ← Int.natCast_mul]
      generalize hWY : W * q.y = WY at *
      replace hWY := Lib.hid hWY
      have e4 : IntKind.i64.wrap ((WY : Int) + (q.x : Int)) = ((WY + q.x : Nat) : Int) := by rw [IntWalk.i64_in _ (by omega)]; omega
      have e5 : IntKind.i64.wrap ((q.x : Int) + (q.a : Int)) = ((q.x + q.a : Nat) : Int) := by rw [IntWalk.i64_in _ (by omega)]; omega
      have e6 : IntKind.i64.wrap ((q.y : Int) + (q.b : Int)) = ((q.y + q.b : Nat) : Int) := by rw [IntWalk.i64_in _ (by omega)]; omega
      generalize hXY : WY + q.x = XY at *
      generalize hWa : W - q.a = Wa at *
      generalize hHb : H - q.b = Hb at *
      have n1 : ¬ (q.x : Int) < 0 := by omega
      have n2 : ¬ (q.y : Int) < 0 := by omega
      have n3 : ¬ (q.a : Int) < 1 := by omega
      have n4 : ¬ (q.b : Int) < 1 := by omega
      have n5 : ¬ W < q.a := by omega
      have n6 : ¬ H < q.b := by omega
      have n7 : ¬ Wa < q.x := by omega
      have n8 : ¬ Hb < q.y := by omega
      have n9 : ¬ (XY : Int) ≤ la := by omega
      have f5 := Lib.hid f3
      have f6 := Lib.hid f4
      replace hXY := Lib.hid hXY
      replace hMs := Lib.hid hMs
      clear f3 f4 g1 hWa hHb
      go_wp2_with fail
      generalize hw5 : (wr.alloc (Obj.cells #[.int .i64 q.x, .int .i64 q.y, .int .i64 q.a, .int .i64 q.b] 31)) = w5
      have b5 : Hid (Blk w5 wr.heap.size 31 #[.int .i64 q.x, .int .i64 q.y, .int .i64 q.a, .int .i64 q.b]) := Lib.hid (by rw [← hw5]; exact Blk.new _ _ _)
      have o5 : Hid (Only (One T) w4 w5) := Lib.hid (by rw [← hw5]; exact hO.out.2.alloc _)
      have own5 : Hid (w5.ownsRow T 3 1 (.slice (some ⟨T, 0, none⟩) M M) M (tmC M (tms W (bs.take i)))) := Lib.hid (by rw [← hw5]; exact own_only hO.out.1 ((Only.refl No wr).alloc _) fun _ _ => id)
      have hgT : wr.heap.size ≠ T := fun e => by
        have := own_lt hO.out.1 T (by simp [Value.ownBlock])
        omega
      obtain ⟨g5, hg5⟩ : ∃ g, g = wr.heap.size := ⟨_, rfl⟩
      rw [← hg5] at b5 hgT ⊢
      clear hw5 hg5 a0 a1 a2 a3 hO hq e1 e2 e3 e4 n1 n2 n3 n4 n5 n6 n7 n8 n9
      go_loopw [14] (fun v14 wr => ∃ y : Nat, v14 = .int .i64 y ∧ q.y ≤ y ∧ y ≤ q.y + q.b ∧ Hid (wr.ownsRow T 3 1 (.slice (some ⟨T, 0, none⟩) M M) M (tmC M (cf W (bs.take i) q y q.x)) ∧ Only (One T) w5 wr)) (fun v14 _ => q.y + q.b - (intOf v14).toNat)
      case atStart => exact ⟨q.y, rfl, Nat.le_refl _, by omega, Lib.hid ⟨by rw [tmC_congr (g := tms W (bs.take i)) fun p _ => cf_start W (bs.take i) q p]; exact own5.out, Only.refl _ _⟩⟩
      case round =>
        obtain ⟨y, rfl, hy1, hy2, hP⟩ := hrel
        have b6 := b5.out.only hP.out.2 hgT
        have y0 := b6.cell 0
        have y1 := b6.cell 1
        have y3 := b6.cell 3
        simp only [List.getElem?_toArray, List.getElem?_cons_zero, List.getElem?_cons_succ] at y0 y1 y3
        clear b6
        have hyb : y ≤ 8192 := by have := f6.out; omega
        by_cases hyt : y < q.y + q.b
        · have hyt' : (y : Int) < ((q.y + q.b : Nat) : Int) := by omega
          go_wp2_with fail
          clear y0 y1 y3
          go_loopw [15] (fun v15 wr => ∃ x : Nat, v15 = .int .i64 x ∧ q.x ≤ x ∧ x ≤ q.x + q.a ∧ Hid (wr.ownsRow T 3 1 (.slice (some ⟨T, 0, none⟩) M M) M (tmC M (cf W (bs.take i) q y x)) ∧ Only (One T) w5 wr)) (fun v15 _ => q.x + q.a - (intOf v15).toNat)
          case atStart => exact ⟨q.x, rfl, Nat.le_refl _, by omega, hP⟩
          case round =>
            clear hP
            obtain ⟨x, rfl, hx1, hx2, hP⟩ := hrel
            have b6 := b5.out.only hP.out.2 hgT
            have y0 := b6.cell 0
            have y2 := b6.cell 2
            simp only [List.getElem?_toArray, List.getElem?_cons_zero, List.getElem?_cons_succ] at y0 y2
            clear b6
            by_cases hxt : x < q.x + q.a
            · have hxt' : (x : Int) < ((q.x + q.a : Nat) : Int) := by omega
              have hxW : x < W := by have := f5.out; omega
              have hp := hpl.out y x (by have := f6.out; omega) hxW
              have hcell := hP.out.1.cellAt (W * y + x) (by omega)
              rw [tmC_get _ hp, cf_at _ _ hxW] at hcell
              have hfr := hP.out.1.frozenAt (W * y + x)
              have hv := hle.out (W * y + x)
              have hst := Lib.hid ((hP.out.1.stored (W * y + x) (.int .i64 ((tms W (bs.take i) (W * y + x) + 1 : Nat) : Int))))
              rw [← cf_at (y := y) (bs.take i) q hxW, tmC_set (g := cf W (bs.take i) q y (x + 1)) (cf_next _ _ hxW hx1) (fun p _ hpn => cf_else _ _ p hpn), cf_at _ _ hxW] at hst
              have e3 : IntKind.i64.wrap ((W : Int) * (y : Int)) = ((W * y : Nat) : Int) := by rw [IntWalk.i64_in _ (by rw [← Int.natCast_mul]; omega), ← Int.natCast_mul]
              generalize W * y = WY at *
              have e4 : IntKind.i64.wrap ((WY : Int) + (x : Int)) = ((WY + x : Nat) : Int) := by rw [IntWalk.i64_in _ (by omega)]; omega
              generalize tms W (bs.take i) (WY + x) = tv at *
              generalize WY + x = pp at *
              have e7 : IntKind.i64.wrap ((tv : Int) + 1) = ((tv + 1 : Nat) : Int) := by rw [IntWalk.i64_in _ (by omega)]; omega
              go_wp2_with fail
              go_roundw
              case rel => exact ⟨x + 1, by go_num, by omega, by omega, Lib.hid ⟨hst.out.1, hP.out.2.trans (Only.of_grown hst.out.2 |>.mono fun k hk => by injection hk with hk; exact hk.symm)⟩⟩
              case measure => simp [intOf]; omega
            · have hxt' : ¬ (x : Int) < ((q.x + q.a : Nat) : Int) := by omega
              obtain rfl : x = q.x + q.a := by omega
              go_wp2_with fail
              go_roundw
              case rel => exact ⟨y + 1, by go_num, by omega, by omega, Lib.hid ⟨by rw [← tmC_congr fun p _ => cf_row (bs.take i) q hy1 p]; exact hP.out.1, hP.out.2⟩⟩
              case measure => simp [intOf]; omega
        · have hyt' : ¬ (y : Int) < ((q.y + q.b : Nat) : Int) := by omega
          obtain rfl : y = q.y + q.b := by omega
          go_wp2_with fail
          go_roundw
          case rel => exact ⟨i + 1, by go_num, by omega, by rw [hls.out], Lib.hid ⟨by rw [hts.out, ← tmC_congr fun p _ => cf_end (bs.take i) q p]; exact hP.out.1, o5.out.trans hP.out.2⟩⟩
          case measure => simp [intOf]; omega
    · obtain rfl : i = bs.length := by omega
      rw [List.take_length] at hO
      go_wp2_with fail
      obtain ⟨wx, hwx⟩ : ∃ x, x = wr := ⟨_, rfl⟩
      rw [← hwx] at hO ⊢
      clear hwx
      go_loopw [16] (fun v16 wq => ∃ k : Nat, v16 = .int .i64 k ∧ k ≤ M ∧ Hid (∃ n, wq = wx.drewN n)) (fun v16 _ => M - (intOf v16).toNat)
      case atStart => exact ⟨0, rfl, by omega, Lib.hid ⟨0, rfl⟩⟩
      case round =>
        obtain ⟨k, rfl, hk, hq⟩ := hrel
        have oq : Only No wx wr := by
          obtain ⟨n, rfl⟩ := hq.out
          exact (Only.refl No wx).drewN n
        by_cases hkt : k < M
        · have hkt' : (k : Int) < M := by omega
          have oo : Only (One T) w wr := ((oA.out.mono fun _ h => h.elim).trans hO.out.2).trans (oq.mono fun _ h => h.elim)
          obtain ⟨ad, rfl, hab, hac⟩ := h0.out.2 (by omega)
          have hx := (oo.cell (a := ad.add k) (by rw [block_add]; exact hab) (by rw [block_add]; intro e; have : ad.block = T := e; omega)).trans (hac k _ (boC_get (by omega)))
          have hcell := (own_only hO.out.1 oq fun _ _ => id).cellAt k (by omega)
          rw [tmC_get _ hkt, hsum.out k hkt, hge.out k hkt] at hcell
          generalize l.getD k false = bb at *
          have hkl : k < l.length := by omega
          clear oo oq hac hab
          cases bb
          · go_wp2_with fail
            go_quiet (fail)
            go_wp2_with fail
            go_roundw
            case rel => exact ⟨k + 1, by go_num, by omega, Lib.hid (by obtain ⟨n, rfl⟩ := hq.out; exact ⟨n + nq, World.drewN_drewN _ _ _⟩)⟩
            case measure => simp [intOf]; omega
          · go_wp2_with fail
            go_quiet (fail)
            go_wp2_with fail
            go_roundw
            case rel => exact ⟨k + 1, by go_num, by omega, Lib.hid (by obtain ⟨n, rfl⟩ := hq.out; exact ⟨n + nq, World.drewN_drewN _ _ _⟩)⟩
            case measure => simp [intOf]; omega
        · obtain rfl : k = M := by omega
          go_wp2_with fail
          go_ret
          exact ⟨rfl, (oA.out.then hO.out.2 fun i hi => .inr (by have : i = T := hi; omega)).trans oq⟩
end Go.Proofs.Ytclidonogebgkaa.Ct
