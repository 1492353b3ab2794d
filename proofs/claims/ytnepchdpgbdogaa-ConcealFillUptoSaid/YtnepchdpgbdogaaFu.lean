/- Fill, of whatever grid, and the reference's: answers as rows of their own. -/
import Derived.Test.YtnepchdpgbdogaaRt
import Derived.Test.YtnepchdpgbdogaaFw
import Derived.Test.YtnepchdpgbdogaaCr
import Derived.Deep.RegionHeld3
import Derived.Deep.CutRange
namespace Go.Proofs.Ytnepchdpgbdogaa.Ct
open Go.ChangeShapes Go.WideShapes Go.RowKit Mm
theorem blk_own {w : World} {base g n : Nat} {cs : List Value} (h : Blk w g 48 cs.toArray) (hl : cs.length = n * 64) (hb : base ≤ g) (hn : n ≤ maxLen) : w.ownsRow base 48 64 (.slice (some ⟨g, 0, none⟩) n n) n cs :=
  ⟨hl, .inr ⟨g, n, cs.toArray, rfl, hb, h, Nat.le_refl _, hn, by simpa using hl, by rw [← hl]; simp⟩⟩
theorem fill17_nil (w : World) (gw gh : Int) (A : Option Addr) (n c : Nat) :
    Calls Try.prog 17 #[.agg #[.int .i64 gw, .int .i64 gh, .slice A n c], .pointer none] w fun e w' => e = .returned (.tuple #[.agg #[.int .i64 0, .int .i64 0, .slice none 0 0], .int .i64 2]) ∧ Only No w w' := by
  go_enter Try.func17, Try.ntmps17
  go_wp2_with fail
  (try simp only [Exit.inBlock, Exit.then])
  refine bodyPost_ret (v := .tuple #[.agg #[.int .i64 0, .int .i64 0, .slice none 0 0], .int .i64 2]) ?_ rfl ⟨rfl, ?_⟩
  · rw [results_cell_tmp rfl]
    go_simp
  · exact (((Only.refl No w).alloc _).alloc _).alloc _
theorem fill17_unfit (w : World) (B W H : Nat) (l : List Bool) (gw gh : Int) (A : Option Addr) (n c g : Nat) (hm : MapAt w B g W H l) (hn : ¬ (gw = W ∧ gh = H ∧ n = W * H)) (hB : B ≤ w.heap.size) :
    Calls Try.prog 17 #[.agg #[.int .i64 gw, .int .i64 gh, .slice A n c], P g] w fun e w' => e = .returned (.tuple #[.agg #[.int .i64 0, .int .i64 0, .slice none 0 0], .int .i64 120]) ∧ Only No w w' := by
  have hm1 := Lib.hid (hm.mono hB)
  replace hm := Lib.hid hm
  replace hn := Lib.hid hn
  go_enter Try.func17, Try.ntmps17
  go_wp2_with fail
  generalize hw1 : (((w.alloc (Obj.cells #[.int .i64 gw, .int .i64 gh, .slice A n c] 24)).alloc (Obj.cells #[P g] 31)).alloc (Obj.cells #[.int .i64 0, .int .i64 0, .slice none 0 0] 24)) = w1
  have o1 : Only No w w1 := by rw [← hw1]; exact (((Only.refl No w).alloc _).alloc _).alloc _
  have b3 : Blk w1 (w.heap.size + 1 + 1) 24 #[.int .i64 0, .int .i64 0, .slice none 0 0] := by rw [← hw1]; exact blk_new2 _ _ _ _ _
  have h24 := fits24_no w1 _ W H l gw gh A n c g (hm1.out.no o1) hn.out o1.size
  unfold gridI at h24
  refine h24.mono ?_
  rintro e w2 ⟨rfl, o2⟩
  have B3 := b3.only o2 id
  have O2 := Lib.hid (o1.trans o2)
  have d0 := B3.cell 0
  have d1 := B3.cell 1
  have d2 := B3.cell 2
  have r0 := B3.frozen 0
  have r1 := B3.frozen 1
  have r2 := B3.frozen 2
  simp only [List.getElem?_toArray, List.getElem?_cons_zero, List.getElem?_cons_succ] at d0 d1 d2
  obtain ⟨K, hK⟩ : ∃ K, K = w.heap.size + 1 + 1 := ⟨_, rfl⟩
  rw [← hK] at d0 d1 d2 r0 r1 r2 B3 ⊢
  have hKw : w.heap.size ≤ K := by omega
  replace B3 := Lib.hid B3
  replace hK := Lib.hid hK
  clear hw1 o2 o1 b3 h24
  go_wp2_with fail
  (try simp only [Exit.inBlock, Exit.then])
  refine bodyPost_ret (v := .tuple #[.agg #[.int .i64 0, .int .i64 0, .slice none 0 0], .int .i64 120]) ?_ rfl ⟨rfl, ?_⟩
  · rw [results_cell_tmp rfl]
    go_simp
  · exact ((O2.out.setCell (p := ⟨K, 0, none⟩) (.inr hKw) _).setCell (p := ⟨K, 1, none⟩) (.inr hKw) _).setCell (p := ⟨K, 2, none⟩) (.inr hKw) _
/-! ### what Fill answers -/
def fitB (gw gh : Int) (W H n : Nat) : Bool := decide (gw = W ∧ gh = H ∧ n = W * H)
def rI (f : Bool) (W : Nat) : Int := if f then W else 0
def rL (f : Bool) (W H : Nat) (l : List Bool) (bs : List (List Int)) : List (List Int) := if f then flL W H l bs else []
def rE (f : Bool) : Int := if f then 0 else 120
def FillR (e : Ending) (w w' : World) (gw gh : Int) (W H : Nat) (l : List Bool) (bs : List (List Int)) : Prop :=
  ∃ v, e = .returned (.tuple #[.agg #[.int .i64 (rI (fitB gw gh W H bs.length) W), .int .i64 (rI (fitB gw gh W H bs.length) H), v], .int .i64 (rE (fitB gw gh W H bs.length))]) ∧ Only No w w' ∧
    w'.ownsRow w.heap.size 48 64 v (rL (fitB gw gh W H bs.length) W H l bs).length (bsC (rL (fitB gw gh W H bs.length) W H l bs))
theorem rL_bls (f : Bool) {W H : Nat} (hW : W ≤ 8192) (hH : H ≤ 8192) (l : List Bool) {bs : List (List Int)} (hb : Bls bs) (hf : f = true → bs.length = W * H) : Bls (rL f W H l bs) := by
  cases f
  · intro b hb; cases hb
  · exact flL_bls hW hH hb (hf rfl)
theorem fill17R (w : World) (B W H : Nat) (l : List Bool) (bs : List (List Int)) (gw gh : Int) (A : Option Addr) (c g n : Nat) (hl : bs.length = n) (hr : Rds w 64 A n (bsC bs)) (hf : ∀ ad, A = some ad → ad.block < B) (hb : Bls bs) (hm : MapAt w B g W H l) (hB : B ≤ w.heap.size) :
    Calls Try.prog 17 #[.agg #[.int .i64 gw, .int .i64 gh, .slice A n c], P g] w fun e w' => FillR e w w' gw gh W H l bs := by
  subst hl
  by_cases h : gw = W ∧ gh = H ∧ bs.length = W * H
  · have e : fitB gw gh W H bs.length = true := decide_eq_true h
    obtain ⟨rfl, rfl, hn⟩ := h
    refine (fill17_yes w B W H l bs A c g ⟨hr, hf, hn, hb⟩ hm hB).mono ?_
    rintro e w' ⟨G, rfl, ho, hG, hblk⟩
    unfold FillR
    rw [e]
    have h8 := hm.w8
    have h9 := hm.h8
    have hmul : W * H ≤ 8192 * 8192 := Nat.mul_le_mul h8 h9
    refine ⟨_, rfl, ho, ?_⟩
    have := blk_own (n := bs.length) hblk (by rw [bsC_length (flL_bls h8 h9 hb hn), flL_len]) hG (by simp only [maxLen]; omega)
    simpa [rL, flL_len] using this
  · have e : fitB gw gh W H bs.length = false := decide_eq_false h
    refine (fill17_unfit w B W H l gw gh A bs.length c g hm h hB).mono ?_
    rintro e w' ⟨rfl, ho⟩
    unfold FillR
    rw [e]
    exact ⟨_, rfl, ho, World.ownsRow_nil _ _ _ _⟩
set_option maxRecDepth 100000 in
set_option maxHeartbeats 3200000 in
theorem fill16R (w : World) (W H : Nat) (l : List Bool) (bs : List (List Int)) (gw gh : Int) (A F : Option Addr) (c n m fc : Nat) (hl : l.length = m) (hbl : bs.length = n) (hm : m = W * H) (hA : Rds w 64 A n (bsC bs)) (hb : Bls bs) (hF : Rds w 1 F m (boC l)) (hW : W ≤ 8192) (hH : H ≤ 8192) :
    Calls Try.prog 16 #[.agg #[.int .i64 gw, .int .i64 gh, .slice A n c], .int .i64 W, .int .i64 H, .slice F m fc] w fun e w' => FillR e w w' gw gh W H l bs := by
  have hmul : W * H ≤ 8192 * 8192 := Nat.mul_le_mul hW hH
  obtain ⟨j0, y0, hj0, hy0, hyz, hy1, hy2⟩ := info48c
  replace hA := Lib.hid hA
  replace hb := Lib.hid hb
  replace hF := Lib.hid hF
  replace hm := Lib.hid hm
  go_enter Try.func16, Try.ntmps16
  go_upto_region 1 with (fail)
  generalize hw1 : ((w.alloc (Obj.cells #[.int .i64 gw, .int .i64 gh, .slice A n c] 24)).alloc (Obj.cells #[.int .i64 0, .int .i64 0, .slice none 0 0] 24)) = w1
  have o1 : Hid (Only No w w1) := Lib.hid (by rw [← hw1]; exact ((Only.refl No w).alloc _).alloc _)
  have b1 : Hid (Blk w1 w.heap.size 24 #[.int .i64 gw, .int .i64 gh, .slice A n c]) := Lib.hid (by rw [← hw1]; exact (Blk.new _ _ _).alloc _)
  have b2 : Hid (Blk w1 (w.heap.size + 1) 24 #[.int .i64 0, .int .i64 0, .slice none 0 0]) := Lib.hid (by rw [← hw1]; exact blk_new1' _ _ _ _)
  obtain ⟨gb, hgb⟩ : ∃ g, g = w.heap.size := ⟨_, rfl⟩
  rw [← hgb] at b1 b2 ⊢
  have hgbw : w.heap.size ≤ gb + 1 := by omega
  replace hgb := Lib.hid hgb
  clear hw1
  have c0 := b1.out.cell 0
  have c1 := b1.out.cell 1
  have c2 := b1.out.cell 2
  simp only [List.getElem?_toArray, List.getElem?_cons_zero, List.getElem?_cons_succ] at c0 c1 c2
  have h29 := fits29 w1 W H gw gh A F n c m fc hm.out hW hH
  unfold gridI at h29
  obtain ⟨fb, hfb⟩ : ∃ fb, fb = decide (gw = (W : Int) ∧ gh = (H : Int) ∧ n = W * H) := ⟨_, rfl⟩
  rw [← hfb] at h29
  replace hfb := Lib.hid hfb
  go_upto_region 2 with (go_at_call 29; refine h29.mono ?_; clear h29; rintro e w2 ⟨rfl, o2⟩; have O2 := Lib.hid (o1.out.trans o2); have B1 := Lib.hid (b1.out.only o2 id); have B2 := Lib.hid (b2.out.only o2 id); clear o2)
  clear c0 c1 c2
  by_cases hf : gw = W ∧ gh = H ∧ n = W * H
  · obtain rfl : fb = true := by rw [hfb.out]; exact decide_eq_true hf
    obtain ⟨rfl, rfl, hn⟩ := hf
    obtain rfl : n = m := by have := hm.out; omega
    replace hn := Lib.hid hn
    have hnb : n ≤ 67108864 := by have := hn.out; omega
    go_upto_region 5 with (fail)
    generalize hw3 : (w2.alloc (Obj.cells #[.int .i64 W, .int .i64 H, .slice none 0 0] 24)) = w3
    have o3 : Hid (Only No w2 w3) := Lib.hid (by rw [← hw3]; exact (Only.refl No w2).alloc _)
    have b3 : Hid (Blk w3 w2.heap.size 24 #[.int .i64 W, .int .i64 H, .slice none 0 0]) := Lib.hid (by rw [← hw3]; exact Blk.new _ _ _)
    obtain ⟨K, hK⟩ : ∃ K, K = w2.heap.size := ⟨_, rfl⟩
    rw [← hK] at b3 ⊢
    have hKg : gb + 1 < K := by rw [hK]; exact B2.out.lt
    have hKw : w.heap.size ≤ K := by omega
    have hK3 : K < w3.heap.size := b3.out.lt
    replace hK := Lib.hid hK
    clear hw3
    have C1 := Lib.hid (B1.out.only o3.out id)
    have C2 := Lib.hid (B2.out.only o3.out id)
    have O3 := Lib.hid (O2.out.trans o3.out)
    go_wp2_with fail
    go_loopw [12] (fun v12 wx => ∃ i : Nat, v12 = .int .i64 i ∧ i ≤ n ∧ Hid (∃ v, CR wx K W H w3.heap.size (flB W H l bs) i v ∧ Only (One K) w3 wx)) (fun v12 _ => n - (intOf v12).toNat)
    case atStart => exact ⟨0, rfl, by omega, Lib.hid ⟨.slice none 0 0, ⟨b3.out, World.ownsRow_nil _ _ _ _⟩, Only.refl _ _⟩⟩
    case round =>
      obtain ⟨i, rfl, hi, hI⟩ := hrel
      obtain ⟨v, hv, hvo⟩ := hI.out
      have OW : Hid (Only No w wr) := Lib.hid (O3.out.then hvo (fun j h => .inr (by have h : j = K := h; omega)))
      by_cases hlt : i < n
      · have hlt' : (i : Int) < n := by omega
        have hib : i < W * H := by rw [← hn.out]; exact hlt
        obtain ⟨k1, k2, k3, k4⟩ := idx_of hib
        have D1 := Lib.hid (C1.out.only hvo (fun h => by have h : gb = K := h; omega))
        have c2 := D1.out.cell 2
        simp only [List.getElem?_toArray, List.getElem?_cons_zero, List.getElem?_cons_succ] at c2
        obtain ⟨ad, rfl, hcs⟩ := bl_cells hb.out (show Rds wr 64 A bs.length (bsC bs) by rw [hbl]; exact hA.out.no OW.out) i (by omega)
        have h64 := bl_len hb.out i (by omega)
        have hfl := (flB_ok hW hH (l := l) hb.out (by rw [hbl, hn.out]) (i := i) (by omega)).1
        obtain ⟨adf, rfl, hcf⟩ := (hF.out.no OW.out).at_ (i := i) (u := .bool (l.getD i false)) (by omega) (by simp [boC, show i < l.length by omega])
        obtain ⟨A1, c1, rfl⟩ := own_slice hv.own
        obtain ⟨b, hbb⟩ : ∃ b, b = bs.getD i [] := ⟨_, rfl⟩
        rw [← hbb] at hcs h64
        replace hcs := Lib.hid hcs
        replace hbb := Lib.hid hbb
        replace hI := Lib.hid True.intro
        replace hv := Lib.hid hv
        replace hvo := Lib.hid hvo
        replace hib := Lib.hid hib
        replace hcf := Lib.hid hcf
        go_upto_region 9 with (first
          | ((with_reducible refine wl_load48 (ad.add (i * 64)) (blC b) ?_ h64 hcs.out ?_)
             · rfl)
          | ((with_reducible refine wl_store48 wr.heap.size _ (blC b) ?_ ?_ (Blk.new wr 48 _) ?_ h64 (blC_one b) ?_)
             · rfl
             · rfl
             · rfl
             intro w5 b5 o5
             have B5 := Lib.hid b5
             have O5 : Hid (Only No wr w5) := Lib.hid (((Only.refl No wr).alloc _).then o5 (fun j h => .inr (by have h : j = wr.heap.size := h; omega)))
             clear b5 o5))
        obtain ⟨G, hG⟩ : ∃ G, G = wr.heap.size := ⟨_, rfl⟩
        rw [← hG] at B5 ⊢
        have hGK : K < G := by rw [hG]; exact hv.out.blk.lt
        have hGw : wr.heap.size ≤ G := by omega
        have hG5 : G < w5.heap.size := B5.out.lt
        replace hG := Lib.hid hG
        have hcf5 : w5.cell? (adf.add i) = some (.bool (l.getD i false)) := by
          have hb' := (hF.out.no OW.out)
          obtain ⟨ad', e', hlt2, _⟩ := hb'.2 (by omega)
          cases e'
          exact (O5.out.cell (by rw [block_add]; exact hlt2) id).trans hcf.out
        have hv5 := Lib.hid (hv.out.no O5.out)
        have hvo5 : Hid (Only (One K) w3 w5) := Lib.hid (hvo.out.trans (O5.out.mono fun _ h => h.elim))
        cases hh : l.getD i false
        · have hfx : Hid (flB W H l bs i = b) := Lib.hid (by rw [flB_not hh, hbb.out])
          rw [hh] at hcf5
          have h6 := h64
          have B6 := B5
          have hv6 := hv5
          have hvo6 := hvo5
          have Od6 := Lib.hid ((Only.refl No w5).alloc (.cells (blC b).toArray 48))
          have hbs6 : Hid (w3.heap.size ≤ (w5.alloc (.cells (blC b).toArray 48)).heap.size) := Lib.hid (Nat.le_trans hvo6.out.size Od6.out.size)
          have cT := Lib.hid (hv6.out.no Od6.out)
          have cTn := Lib.hid hv6.out.notK
          have t2 := hv6.out.blk.cell 2
          simp only [List.getElem?_toArray, List.getElem?_cons_zero, List.getElem?_cons_succ] at t2
          have hnew6 : Hid (Rds (w5.alloc (.cells (blC b).toArray 48)) 64 (some ⟨w5.heap.size, 0, none⟩) 1 (blC b)) := Lib.hid (by have := Rds.fresh (n := 1) (size := 64) (Blk.new w5 48 (blC b).toArray) (by simp [h6]); simpa using this)
          have hone6 := blC_one (b)
          go_wp2_with (first
            | ((with_reducible refine wl_load48 ⟨G, 0, none⟩ (blC b) ?_ h6 (fun j v hv => ?_) ?_)
               · rfl
               · rw [Mm.add_plain]
                 exact (B6.out.cell j).trans (by simpa using hv))
            | ((with_reducible refine wl_build1 (blC b) ?_ h6 ?_)
               · rfl)
            | (at_builtin
               (refine Mm.wpList_append_any _ rfl (.tmp 53) (.tmp 55) _ rfl w3.heap.size 48 j0 _ 64 128 Try.underlying22 hj0 hy0 hy1 hy2 hyz (by omega) (.slice A1 i c1) i (bsC (lst (flB W H l bs) i)) rfl cT.out.own (some ⟨w5.heap.size, 0, none⟩) 1 1 (blC b) rfl hnew6.out hone6 (by simp only [maxLen]; omega) (by omega) hbs6.out ?_)
               intro v10 w10 hown10 hon10 hat10
               have hb10 := cT.out.blk.only hon10 cTn.out
               obtain ⟨A10, c10, rfl⟩ := own_slice hown10
               have hg10 := hb10.cell 2
               have hf10 := hb10.frozen 2
               simp only [List.getElem?_toArray, List.getElem?_cons_zero, List.getElem?_cons_succ] at hg10
               have OW10 := Lib.hid hown10
               have ON10 := Lib.hid hon10
               clear hown10 hon10 hat10 hb10))
          go_roundw
          case rel =>
            have f1 := hv6.out.app Od6.out ON10.out (by rw [hfx.out]; exact OW10.out)
            have f2 : Only (One K) w3 (w10.setCell ⟨K, 2, none⟩ (.slice A10 (i + 1) c10)) := ((hvo6.out.trans (Od6.out.mono fun _ h => h.elim)).then ON10.out (fun j h => .inr (own_ge hv6.out.own j h))).setCell (p := ⟨K, 2, none⟩) (.inl rfl) _
            exact ⟨i + 1, by go_num, by omega, Lib.hid ⟨_, f1, f2⟩⟩
          case measure => simp [intOf]; omega
        · have hz64 : (blC (List.replicate 64 0)).length = 64 := rfl
          rw [hh] at hcf5
          have hll : (blC b).toArray.size = 64 := by simpa using h64
          go_wp2_with (first
            | ((with_reducible refine wl_store48 G (blC b).toArray (blC (List.replicate 64 0)) ?_ ?_ B5.out hll hz64 (blC_one _) ?_)
               · rfl
               · rfl
               intro w6 b6 o6
               have B6 := Lib.hid b6
               have O6 := Lib.hid o6
               clear b6 o6))
          have hW1 : ¬ W = 0 := by omega
          obtain ⟨qx, hqx⟩ : ∃ q, q = i % W := ⟨_, rfl⟩
          obtain ⟨qy, hqy⟩ : ∃ q, q = i / W := ⟨_, rfl⟩
          have t1 : (i : Int).tmod (W : Int) = (qx : Int) := by rw [hqx, Int.tmod_eq_emod_of_nonneg (by omega)]; rfl
          have t2 : (i : Int).tdiv (W : Int) = (qy : Int) := by rw [hqy, Int.tdiv_eq_ediv_of_nonneg (by omega)]; rfl
          have hfx0 := flB_yes (W := W) (H := H) (bs := bs) hh
          rw [← hqx, ← hqy] at hfx0
          rw [← hqx] at k2
          rw [← hqy] at k3
          have px : 0 ≤ (qx : Int) ∧ (qx : Int) < W := ⟨by omega, by omega⟩
          have py : 0 ≤ (qy : Int) ∧ (qy : Int) < H := ⟨by omega, by omega⟩
          obtain ⟨sv, hsv⟩ : ∃ s, s = stP W H l (dcs bs) (qx : Int) (qy : Int) := ⟨_, rfl⟩
          have hfx : Hid (flB W H l bs i = sv :: List.replicate 63 0) := Lib.hid (by rw [hfx0, hsv])
          have hsb : -32768 ≤ sv ∧ sv ≤ 32767 := by rw [hsv]; exact stP_bounds hW hH (dcs_bounds hb.out) px py
          have ew : IntKind.i16.wrap sv = sv := wrap16 _ hsb
          have OW6 : Hid (Only No w w6) := Lib.hid ((OW.out.trans O5.out).then O6.out (fun j h => .inr (by have h : j = G := h; have := OW.out.size; omega)))
          have h30 := standIn30 w6.drew W H (some ad) (some adf) n c fc l bs hl hbl hn.out (hA.out.no (OW6.out.drew)) hb.out (hF.out.no (OW6.out.drew)) hW hH (qx : Int) (qy : Int) px py
          rw [← hsv] at h30
          unfold gridI at h30
          replace k2 := Lib.hid k2
          replace k3 := Lib.hid k3
          replace k4 := Lib.hid k4
          replace px := Lib.hid px
          replace py := Lib.hid py
          clear hfx0
          have qxb : qx ≤ 8192 := by have := k2.out; omega
          have qyb : qy ≤ 8192 := by have := k3.out; omega
          have s3 : IntKind.i64.wrap (qx : Int) = (qx : Int) := IntWalk.i64_in _ (by omega)
          have s4 : IntKind.i64.wrap (qy : Int) = (qy : Int) := IntWalk.i64_in _ (by omega)
          replace hsv := Lib.hid hsv
          replace hqx := Lib.hid hqx
          replace hqy := Lib.hid hqy
          have hgG : gb ≠ G := by omega
          have hS : ∀ w', Only (One G) w6 w' → w'.cell? ⟨gb, 0, none⟩ = some (.int .i64 W) ∧ w'.cell? ⟨gb, 1, none⟩ = some (.int .i64 H) ∧ w'.cell? ⟨gb, 2, none⟩ = some (.slice (some ad) n c) := fun w' ho => by
            have x1 := ((D1.out.only O5.out id).only O6.out (fun h => hgG h)).only ho (fun h => hgG h)
            exact ⟨x1.cell 0, x1.cell 1, x1.cell 2⟩
          have q0 : Only (One G) w6 w6 := Only.refl _ _
          simp only [Act.put]
          go_cut [51] from 41 to 50 (fun s51 wx => s51 = s51 ∧ Hid (Blk wx G 48 (blC (sv :: List.replicate 63 0)).toArray ∧ Only (One G) w6 wx))
          case first =>
            go_region_held3 (fun w' => Only (One G) w6 w' ∧ w'.cell? ⟨gb, 0, none⟩ = some (.int .i64 W) ∧ w'.cell? ⟨gb, 1, none⟩ = some (.int .i64 H) ∧ w'.cell? ⟨gb, 2, none⟩ = some (.slice (some ad) n c))
              (first
                | (refine ⟨?_, hS _ ?_⟩ <;> first | exact q0.drew | exact q10 | exact q10.drew | exact (q10.setCell (p := ⟨G, 0, none⟩) (.inl rfl) _)))
              (first
                | (go_at_call 30; refine h30.mono ?_; clear h30; rintro e w7 ⟨rfl, o7⟩; have q10 : Only (One G) w6 w7 := (q0.drew).trans (o7.mono fun _ h => h.elim); have B7 : Hid (Blk w7 G 48 (blC (List.replicate 64 0)).toArray) := Lib.hid ((B6.out.only (Only.refl No w6).drew id).only o7 id); have z0 := B7.out.cell 0; have zf := B7.out.frozen 0; have hz1 : (blC (List.replicate 64 0)).toArray[0]? = some (.int .i16 0) := rfl; rw [hz1] at z0; clear hz1 o7))
            all_goals go_wp2_with fail
            all_goals go_meet
            all_goals exact ⟨trivial, Lib.hid ⟨B7.out.set 0 _, q10.setCell (p := ⟨G, 0, none⟩) (.inl rfl) _⟩⟩
          case rest =>
            obtain ⟨_, hc⟩ := hcut
            have B6' := hc.out.1
            have O7 := hc.out.2
            clear B6 hc t1 t2
            have B6 := Lib.hid B6'
            have h6 : (blC (sv :: List.replicate 63 0)).length = 64 := by rw [blC_length]; rfl
            have OO : Only (One G) w5 wc := O6.out.trans O7
            have hv6 : Hid (CR wc K W H w3.heap.size (flB W H l bs) i (.slice A1 i c1)) := Lib.hid ⟨hv5.out.blk.only OO (fun h => by have h : K = G := h; omega), own_only hv5.out.own OO (fun j hj h => by have h : j = G := h; have := hv.out.lt j hj; omega)⟩
            have hvo6 : Hid (Only (One K) w3 wc) := Lib.hid (hvo5.out.then OO (fun j h => .inr (by have h : j = G := h; have := hvo.out.size; omega)))
            clear B6' O7 OO
            generalize hxx : (sv :: List.replicate 63 0 : List Int) = x at *
            replace hxx := Lib.hid hxx
            have Od6 := Lib.hid ((Only.refl No wc).alloc (.cells (blC x).toArray 48))
            have hbs6 : Hid (w3.heap.size ≤ (wc.alloc (.cells (blC x).toArray 48)).heap.size) := Lib.hid (Nat.le_trans hvo6.out.size Od6.out.size)
            have cT := Lib.hid (hv6.out.no Od6.out)
            have cTn := Lib.hid hv6.out.notK
            have t2 := hv6.out.blk.cell 2
            simp only [List.getElem?_toArray, List.getElem?_cons_zero, List.getElem?_cons_succ] at t2
            have hnew6 : Hid (Rds (wc.alloc (.cells (blC x).toArray 48)) 64 (some ⟨wc.heap.size, 0, none⟩) 1 (blC x)) := Lib.hid (by have := Rds.fresh (n := 1) (size := 64) (Blk.new wc 48 (blC x).toArray) (by simp [h6]); simpa using this)
            have hone6 := blC_one (x)
            go_wp2_with (first
              | ((with_reducible refine wl_load48 ⟨G, 0, none⟩ (blC x) ?_ h6 (fun j v hv => ?_) ?_)
                 · rfl
                 · rw [Mm.add_plain]
                   exact (B6.out.cell j).trans (by simpa using hv))
              | ((with_reducible refine wl_build1 (blC x) ?_ h6 ?_)
                 · rfl)
              | (at_builtin
                 (refine Mm.wpList_append_any _ rfl (.tmp 53) (.tmp 55) _ rfl w3.heap.size 48 j0 _ 64 128 Try.underlying22 hj0 hy0 hy1 hy2 hyz (by omega) (.slice A1 i c1) i (bsC (lst (flB W H l bs) i)) rfl cT.out.own (some ⟨wc.heap.size, 0, none⟩) 1 1 (blC x) rfl hnew6.out hone6 (by simp only [maxLen]; omega) (by omega) hbs6.out ?_)
                 intro v10 w10 hown10 hon10 hat10
                 have hb10 := cT.out.blk.only hon10 cTn.out
                 obtain ⟨A10, c10, rfl⟩ := own_slice hown10
                 have hg10 := hb10.cell 2
                 have hf10 := hb10.frozen 2
                 simp only [List.getElem?_toArray, List.getElem?_cons_zero, List.getElem?_cons_succ] at hg10
                 have OW10 := Lib.hid hown10
                 have ON10 := Lib.hid hon10
                 clear hown10 hon10 hat10 hb10))
            go_roundw
            case rel =>
              have f1 := hv6.out.app Od6.out ON10.out (by rw [hfx.out]; exact OW10.out)
              have f2 : Only (One K) w3 (w10.setCell ⟨K, 2, none⟩ (.slice A10 (i + 1) c10)) := ((hvo6.out.trans (Od6.out.mono fun _ h => h.elim)).then ON10.out (fun j h => .inr (own_ge hv6.out.own j h))).setCell (p := ⟨K, 2, none⟩) (.inl rfl) _
              exact ⟨i + 1, by go_num, by omega, Lib.hid ⟨_, f1, f2⟩⟩
            case measure => simp [intOf]; omega
      · have hlt' : ¬ (i : Int) < n := by omega
        obtain rfl : n = i := by omega
        obtain ⟨A1, c1, rfl⟩ := own_slice hv.own
        have hfit : Hid (fitB W H W H bs.length = true) := Lib.hid (by unfold fitB; rw [hbl]; exact decide_eq_true ⟨rfl, rfl, hn.out⟩)
        have D2 := C2.out.only hvo (fun h => by have h : gb + 1 = K := h; omega)
        have d0 := D2.cell 0
        have d1 := D2.cell 1
        have d2 := D2.cell 2
        have r0 := D2.frozen 0
        have r1 := D2.frozen 1
        have r2 := D2.frozen 2
        have k0 := hv.blk.cell 0
        have k1 := hv.blk.cell 1
        have k2 := hv.blk.cell 2
        simp only [List.getElem?_toArray, List.getElem?_cons_zero, List.getElem?_cons_succ] at d0 d1 d2 k0 k1 k2
        have hvw := own_base hv.own (b' := w.heap.size) (fun j h => by have := own_ge hv.own j h; have := O3.out.size; omega)
        have hnb1 : ¬ (Value.slice A1 n c1).ownBlock = some (gb + 1) := own_blk hv.own D2 (by decide)
        replace D2 := Lib.hid D2
        replace hv := Lib.hid hv
        replace hvw := Lib.hid hvw
        replace hvo := Lib.hid hvo
        go_wp2_with fail
        (try simp only [Exit.inBlock, Exit.then])
        refine bodyPost_ret (v := .tuple #[.agg #[.int .i64 W, .int .i64 H, .slice A1 n c1], .int .i64 0]) ?_ rfl ?_
        · rw [results_cell_tmp rfl]
          go_simp
        · unfold FillR
          rw [hfit.out]
          refine ⟨.slice A1 n c1, rfl, ((OW.out.setCell (p := ⟨gb + 1, 0, none⟩) (.inr hgbw) _).setCell (p := ⟨gb + 1, 1, none⟩) (.inr hgbw) _).setCell (p := ⟨gb + 1, 2, none⟩) (.inr hgbw) _, ?_⟩
          have e1 : rL true W H l bs = lst (flB W H l bs) n := by show flL W H l bs = _; unfold flL lst; rw [hbl]
          rw [e1, lst_len]
          refine own_only hvw.out ((((Only.refl (One (gb + 1)) wr).setCell (p := ⟨gb + 1, 0, none⟩) (.inl rfl) _).setCell (p := ⟨gb + 1, 1, none⟩) (.inl rfl) _).setCell (p := ⟨gb + 1, 2, none⟩) (.inl rfl) _) (fun j hj h => hnb1 (by have h : j = gb + 1 := h; rw [← h]; exact hj))
  · obtain rfl : fb = false := by rw [hfb.out]; exact decide_eq_false hf
    have hfit : Hid (fitB gw gh W H bs.length = false) := Lib.hid (by unfold fitB; rw [hbl]; exact decide_eq_false hf)
    replace hf := Lib.hid hf
    have d0 := B2.out.cell 0
    have d1 := B2.out.cell 1
    have d2 := B2.out.cell 2
    have r0 := B2.out.frozen 0
    have r1 := B2.out.frozen 1
    have r2 := B2.out.frozen 2
    simp only [List.getElem?_toArray, List.getElem?_cons_zero, List.getElem?_cons_succ] at d0 d1 d2
    go_wp2_with fail
    (try simp only [Exit.inBlock, Exit.then])
    refine bodyPost_ret (v := .tuple #[.agg #[.int .i64 0, .int .i64 0, .slice none 0 0], .int .i64 120]) ?_ rfl ?_
    · rw [results_cell_tmp rfl]
      go_simp
    · unfold FillR
      rw [hfit.out]
      exact ⟨_, rfl, ((O2.out.setCell (p := ⟨gb + 1, 0, none⟩) (.inr hgbw) _).setCell (p := ⟨gb + 1, 1, none⟩) (.inr hgbw) _).setCell (p := ⟨gb + 1, 2, none⟩) (.inr hgbw) _, World.ownsRow_nil _ _ _ _⟩
end Go.Proofs.Ytnepchdpgbdogaa.Ct
