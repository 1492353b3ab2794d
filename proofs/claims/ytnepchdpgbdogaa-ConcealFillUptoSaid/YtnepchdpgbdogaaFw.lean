/- Fill: the walk. -/
import Derived.Test.YtnepchdpgbdogaaFl
import Derived.Deep.RegionHeld3
import Derived.Deep.DeepCutAuto
import Derived.Deep.CutRange
namespace Go.Proofs.Ytnepchdpgbdogaa.Ct
open Go.ChangeShapes Go.WideShapes Go.RowKit Mm
set_option maxHeartbeats 3200000 in
theorem fill17_yes (w : World) (B W H : Nat) (l : List Bool) (bs : List (List Int)) (A : Option Addr) (c g : Nat) (hg : GridAt w B W H A bs) (hm : MapAt w B g W H l) (hB : B ≤ w.heap.size) :
    Calls Try.prog 17 #[gridI W H A bs.length c, P g] w fun e w' => ∃ G, e = .returned (.tuple #[gridI W H (some ⟨G, 0, none⟩) bs.length bs.length, .int .i64 0]) ∧ Only No w w' ∧ w.heap.size ≤ G ∧ Blk w' G 48 (bsC (flL W H l bs)).toArray := by
  have h8 := hm.w8
  have h9 := hm.h8
  have hmul : W * H ≤ 8192 * 8192 := Nat.mul_le_mul h8 h9
  have hlen := hg.len
  have hbl := Lib.hid hg.bls
  have hn1 : bs.length ≤ 67108864 := by omega
  replace hlen := Lib.hid hlen
  have hg1 := Lib.hid (hg.mono hB)
  have hm1 := Lib.hid (hm.mono hB)
  replace hg := Lib.hid hg
  replace hm := Lib.hid hm
  clear hmul
  obtain ⟨i0, hi0, ⟨z0, hz0⟩, hz1, hz2⟩ := info48z
  unfold gridI
  go_enter Try.func17, Try.ntmps17
  go_wp2_with fail
  generalize hw1 : (((w.alloc (Obj.cells #[.int .i64 W, .int .i64 H, .slice A bs.length c] 24)).alloc (Obj.cells #[P g] 31)).alloc (Obj.cells #[.int .i64 0, .int .i64 0, .slice none 0 0] 24)) = w1
  have o1 : Only No w w1 := by rw [← hw1]; exact (((Only.refl No w).alloc _).alloc _).alloc _
  have b1 : Blk w1 w.heap.size 24 #[.int .i64 W, .int .i64 H, .slice A bs.length c] := by rw [← hw1]; exact ((Blk.new _ _ _).alloc _).alloc _
  have b2 : Blk w1 (w.heap.size + 1) 31 #[P g] := by rw [← hw1]; exact (blk_new1 _ _ _ _).alloc _
  have b3 : Blk w1 (w.heap.size + 1 + 1) 24 #[.int .i64 0, .int .i64 0, .slice none 0 0] := by rw [← hw1]; exact blk_new2 _ _ _ _ _
  refine (fits24_yes w1 _ W H l A bs.length c g (hm1.out.no o1) hlen.out o1.size).mono ?_
  rintro e w2 ⟨rfl, o2⟩
  have B1 := b1.only o2 id
  have B2 := b2.only o2 id
  have B3 := b3.only o2 id
  have O2 := Lib.hid (o1.trans o2)
  clear hw1 o2 b1 b2 b3 o1
  obtain ⟨n0, hn0⟩ : ∃ n0, n0 = w.heap.size := ⟨_, rfl⟩
  rw [← hn0] at B1 B2 B3 ⊢
  have hsz : n0 ≤ w2.heap.size := by rw [hn0]; exact O2.out.size
  have hs3 := B3.lt
  replace B1 := Lib.hid B1
  replace B2 := Lib.hid B2
  replace B3 := Lib.hid B3
  replace hn0 := Lib.hid hn0
  go_wp2_with fail
  generalize hw3 : ((w2.alloc (Obj.cells #[.bool false] 4)).alloc (Obj.cells #[.int .i16 0] 35)) = w3
  have s3 : w3.heap.size = w2.heap.size + 2 := by rw [← hw3]; simp
  have o3 : Only No w2 w3 := by rw [← hw3]; exact ((Only.refl No w2).alloc _).alloc _
  have b4 : Blk w3 w2.heap.size 4 #[.bool false] := by rw [← hw3]; exact (Blk.new _ _ _).alloc _
  have b5 : Blk w3 (w2.heap.size + 1) 35 #[.int .i16 0] := by rw [← hw3]; exact blk_new1 _ _ _ _
  have b0 := B1.out.only o3 id
  have c0 := b0.cell 0
  have c1 := b0.cell 1
  have c2 := b0.cell 2
  simp only [List.getElem?_toArray, List.getElem?_cons_zero, List.getElem?_cons_succ] at c0 c1 c2
  have hb0 := b0.lt
  have hS : ∀ w', Only (fun i => w3.heap.size ≤ i) w3 w' → w'.cell? ⟨n0, 0, none⟩ = some (.int .i64 W) ∧ w'.cell? ⟨n0, 1, none⟩ = some (.int .i64 H) ∧ w'.cell? ⟨n0, 2, none⟩ = some (.slice A bs.length c) := fun w' ho => by
    have hn : ¬ w3.heap.size ≤ n0 := by omega
    exact ⟨(ho.cell hb0 hn).trans c0, (ho.cell hb0 hn).trans c1, (ho.cell hb0 hn).trans c2⟩
  have hmk : ∀ w' : World, (Instr.makeSlice 22 (.int .i64 (bs.length : Int)) (.int .i64 (bs.length : Int))).run Try.prog w' = .ok (.slice (some ⟨w'.heap.size, 0, none⟩) bs.length bs.length) (w'.alloc (.cells (madeCells z0.cells (bs.length * 64)) 48)) := fun w' => by
    have := run_make (P := Try.prog) w' 22 48 i0 z0 Try.underlying22 hi0 hz0 .i64 .i64 bs.length bs.length (by omega) (by omega) (by rw [hz2]; omega) (by omega)
    rw [hz1, Int.toNat_natCast] at this
    exact this
  have O3 := Lib.hid (O2.out.trans o3)
  replace o3 := Lib.hid o3
  replace b0 := Lib.hid b0
  replace b4 := Lib.hid b4
  replace b5 := Lib.hid b5
  have B32 := Lib.hid (B2.out.only o3.out id)
  have B33 := Lib.hid (B3.out.only o3.out id)
  obtain ⟨K, hK⟩ : ∃ K, K = w2.heap.size := ⟨_, rfl⟩
  rw [← hK] at b4 b5 ⊢
  rw [← hK] at s3
  have hKn : n0 + 2 < K := by omega
  replace s3 := Lib.hid s3
  replace hK := Lib.hid hK
  clear hw3 B1 B2 B3
  have hzs : (madeCells z0.cells (bs.length * 64)).size = bs.length * 64 := size_madeCells _ _
  generalize madeCells z0.cells (bs.length * 64) = zs at hmk hzs
  go_cut [9] from 23 to 31 (fun s9 wx => ∃ gs go : Nat, s9 = P go ∧ Hid (w3.heap.size ≤ gs ∧ w3.heap.size ≤ go ∧ Only No w3 wx ∧ Blk wx gs 48 zs ∧ Blk wx go 24 #[.int .i64 W, .int .i64 H, .slice (some ⟨gs, 0, none⟩) bs.length bs.length]))
  case first =>
    go_region_held3 (fun w' => w'.cell? ⟨n0, 0, none⟩ = some (.int .i64 W) ∧ w'.cell? ⟨n0, 1, none⟩ = some (.int .i64 H) ∧ w'.cell? ⟨n0, 2, none⟩ = some (.slice A bs.length c))
      (first | (refine hS _ ?_; repeat (first | exact Only.refl _ _ | refine Only.alloc ?_ _ | refine Only.drew ?_ | refine Only.drewN ?_ _ | refine Only.setCell ?_ (.inr (by simp)) _)))
      (fail)
    all_goals go_wp2_with fail
    all_goals go_meet
    · exact ⟨_, _, rfl, Lib.hid ⟨Nat.le_refl _, by omega, (((Only.refl No w3).alloc _).alloc _).drew, (Blk.new w3 48 zs).alloc _, blk_new1 w3 _ 24 _⟩⟩
    · exact ⟨_, _, rfl, Lib.hid ⟨by omega, Nat.le_refl _, (((Only.refl No w3).alloc _).alloc _).drew, blk_new1 w3 _ 48 _, (Blk.new w3 24 _).alloc _⟩⟩
  case rest =>
    obtain ⟨gs, go, rfl, hq⟩ := hcut
    have q1 : K + 2 ≤ gs := by rw [← s3.out]; exact hq.out.1
    have q2 : K + 2 ≤ go := by rw [← s3.out]; exact hq.out.2.1
    have P0 : Hid (Part wc gs bs.length (flB W H l bs) 0) := Lib.hid ⟨zs, hq.out.2.2.2.1, hzs, fun j hj => by omega⟩
    have bgo := Lib.hid hq.out.2.2.2.2
    have ox := Lib.hid hq.out.2.2.1
    clear hzs hmk hS c0 c1 c2 hb0
    have x0 := Lib.hid (b0.out.only ox.out id)
    have x1 := Lib.hid (B32.out.only ox.out id)
    have x3 := Lib.hid (B33.out.only ox.out id)
    have R0 : Hid (Rem wc K (K + 1) (mnP l (dcs bs) bs.length)) := Lib.hid ⟨false, 0, b4.out.only ox.out id, b5.out.only ox.out id, fun h => by simp at h⟩
    have OX := Lib.hid (O3.out.trans ox.out)
    clear hq b0 B32 B33 b4 b5 ox O3 O2
    have z0' := x0.out.cell 0
    have z1 := x0.out.cell 1
    have z2 := x0.out.cell 2
    simp only [List.getElem?_toArray, List.getElem?_cons_zero, List.getElem?_cons_succ] at z0' z1 z2
    have qgo : gs ≠ go := blk_ne (P0.out.choose_spec.1) bgo.out (by decide)
    have go2 : ∀ w', Only (fun b => b = gs ∨ b = K ∨ b = K + 1) wc w' → w'.cell? ⟨go, 2, none⟩ = some (.slice (some ⟨gs, 0, none⟩) bs.length bs.length) := fun w' ho => (bgo.out.only ho (by omega)).cell 2
    have hx0 : ∀ w', Only (fun b => b = gs ∨ b = K ∨ b = K + 1) wc w' → w'.cell? ⟨n0, 0, none⟩ = some (.int .i64 W) ∧ w'.cell? ⟨n0, 1, none⟩ = some (.int .i64 H) ∧ w'.cell? ⟨n0, 2, none⟩ = some (.slice A bs.length c) := fun w' ho => ⟨(x0.out.only ho (by omega)).cell 0, (x0.out.only ho (by omega)).cell 1, (x0.out.only ho (by omega)).cell 2⟩
    have hx1 : ∀ w', Only (fun b => b = gs ∨ b = K ∨ b = K + 1) wc w' → w'.cell? ⟨n0 + 1, 0, none⟩ = some (P g) := fun w' ho => (x1.out.only ho (by omega)).cell 0
    have hGr : ∀ w', Only (fun b => b = gs ∨ b = K ∨ b = K + 1) wc w' → GridAt w' w.heap.size W H A bs := fun w' ho => (hg1.out.no OX.out).only ho (fun b hb => by have := hn0.out; omega)
    have hMp : ∀ w', Only (fun b => b = gs ∨ b = K ∨ b = K + 1) wc w' → MapAt w' w.heap.size g W H l := fun w' ho => (hm1.out.no OX.out).only ho (fun b hb => by have := hn0.out; omega)
    replace go2 := Lib.hid go2
    replace hx0 := Lib.hid hx0
    replace hx1 := Lib.hid hx1
    replace hGr := Lib.hid hGr
    replace hMp := Lib.hid hMp
    go_wp2_with fail
    clear z0' z1 z2
    go_loopw [35] (fun v35 wr => ∃ i : Nat, v35 = .int .i64 i ∧ i ≤ bs.length ∧ Hid (Part wr gs bs.length (flB W H l bs) i ∧ Rem wr K (K + 1) (mnP l (dcs bs) bs.length) ∧ Only (fun b => b = gs ∨ b = K ∨ b = K + 1) wc wr)) (fun v35 _ => bs.length - (intOf v35).toNat)
    case atStart => exact ⟨0, rfl, by omega, Lib.hid ⟨P0.out, R0.out, Only.refl _ _⟩⟩
    case round =>
      obtain ⟨i, rfl, hi, hI⟩ := hrel
      by_cases hlt : i < bs.length
      · have hlt' : (i : Int) < bs.length := by omega
        have hOw := hI.out.2.2
        obtain ⟨ad, rfl, hcs⟩ := bl_cells hbl.out (hGr.out wr hOw).rds i hlt
        have h64 := bl_len hbl.out i hlt
        have hib : i < W * H := by rw [← hlen.out]; exact hlt
        obtain ⟨k1, k2, k3, k4⟩ := idx_of hib
        have hh := hasB_idx (l := l) hib
        have hfl := (flB_ok h8 h9 (l := l) hbl.out hlen.out hlt).1
        have hgw : gs < wr.heap.size := by obtain ⟨es, a, _⟩ := hI.out.1; exact a.lt
        have hKw : K + 1 < wr.heap.size := by obtain ⟨_, _, _, a, _⟩ := hI.out.2.1; exact a.lt
        have hgow : go < wr.heap.size := (bgo.out.only hOw (by omega)).lt
        have hwr : wc.heap.size ≤ wr.heap.size := hOw.size
        replace hOw := Lib.hid hOw
        have hb0 : Hid (flB W H l bs i = if l.getD i false = true then stP W H l (dcs bs) ((i % W : Nat) : Int) ((i / W : Nat) : Int) :: List.replicate 63 0 else bs.getD i []) := Lib.hid rfl
        generalize bs.getD i [] = b at hcs h64 hb0
        go_wp2_with (first
          | (with_reducible refine wl_load48 (ad.add (i * 64)) (blC b) ?_ h64 hcs ?_
             · rfl)
          | (with_reducible refine wl_store48 wr.heap.size _ (blC b) ?_ ?_ (Blk.new wr 48 _) ?_ h64 (blC_one b) ?_
             · rfl
             · rfl
             · rfl
             intro w5 hb5 ho5
             have o5 : Hid (Only No wr w5) := Lib.hid (((Only.refl No wr).alloc _).then ho5 (fun i h => .inr (by have h : i = wr.heap.size := h.symm ▸ rfl; omega)))
             have B5 := Lib.hid hb5
             clear hb5 ho5 hcs))
        obtain ⟨G, hG⟩ : ∃ G, G = wr.heap.size := ⟨_, rfl⟩
        have hGs : gs < G := by omega
        have hGg : go < G := by omega
        have hGw : wc.heap.size ≤ G := by omega
        have hGK : K + 1 < G := by omega
        rw [← hG] at B5 ⊢
        replace hG := Lib.hid hG
        have O5 : Hid (Only (fun b => b = gs ∨ b = K ∨ b = K + 1) wc w5) := Lib.hid (hOw.out.trans (o5.out.mono (fun _ h => h.elim)))
        have p5 := Lib.hid (hI.out.1.only o5.out id)
        have r5 := Lib.hid (hI.out.2.1.only o5.out id id)
        clear hI o5 hOw
        obtain ⟨c0, c1, c2⟩ := hx0.out w5 O5.out
        have hW0 : ¬ (W : Int) = 0 := by omega
        have hW1 : ¬ W = 0 := by omega
        have e1 : (i : Int).tmod (W : Int) = ((i % W : Nat) : Int) := by rw [Int.tmod_eq_emod_of_nonneg (by omega)]; rfl
        have e2 : (i : Int).tdiv (W : Int) = ((i / W : Nat) : Int) := by rw [Int.tdiv_eq_ediv_of_nonneg (by omega)]; rfl
        generalize hqx : i % W = qx at *
        generalize hqy : i / W = qy at *
        replace e1 := Lib.hid e1
        replace e2 := Lib.hid e2
        have e3 : IntKind.i64.wrap (qx : Int) = (qx : Int) := IntWalk.i64_in _ (by omega)
        have e4 : IntKind.i64.wrap (qy : Int) = (qy : Int) := IntWalk.i64_in _ (by omega)
        have px : 0 ≤ (qx : Int) ∧ (qx : Int) < W := ⟨by omega, by omega⟩
        have py : 0 ≤ (qy : Int) ∧ (qy : Int) < H := ⟨by omega, by omega⟩
        replace e1 := e1.out
        replace e2 := e2.out
        replace px := Lib.hid px
        replace py := Lib.hid py
        go_quiet (fail)
        have hIn : ∀ w' : World, (∃ m, w' = w5.drewN m) → Calls Try.prog 25 #[P g, .int .i64 qx, .int .i64 qy] w' fun e w'' => e = .returned (.bool (l.getD i false)) ∧ ∃ m, w'' = w5.drewN m := fun w' hw' => by
          obtain ⟨m, rfl⟩ := hw'
          have := has25 _ g W H _ l ((hMp.out w5 O5.out).drewN m) qx qy
          rw [hh] at this
          exact this.mono fun _ _ ⟨h1, m2, h2⟩ => ⟨h1, m + m2, by rw [h2]; exact World.drewN_drewN _ _ _⟩
        replace hIn := Lib.hid hIn
        have cm := hx1.out w5 O5.out
        have cgo := go2.out w5 O5.out
        have X5 := Lib.hid (x0.out.only O5.out (by omega))
        have Y5 := Lib.hid (x1.out.only O5.out (by omega))
        clear hh
        cases hf : l.getD i false
        · rw [hf, if_neg (by decide)] at hb0
          have hBc : Hid (∀ m : Nat, ∀ (j : Nat) (v : Value), (blC b)[j]? = some v → (w5.drewN m).cell? ((⟨G, 0, none⟩ : Addr).add j) = some v) := Lib.hid fun m j v hv => by
            rw [Mm.add_plain]
            exact ((B5.out.drewN m).cell j).trans (by simpa using hv)
          have hPt : Hid (∀ m : Nat, Part (w5.drewN m) gs bs.length (flB W H l bs) i) := Lib.hid fun m => p5.out.only ((Only.refl No w5).drewN m) id
          go_wp2_with (first
            | (go_at_call 25; refine (hIn.out _ ⟨_, rfl⟩).mono ?_; rintro e w6 ⟨rfl, m, rfl⟩; rw [hf])
            | (with_reducible refine wl_load48 ⟨G, 0, none⟩ (blC b) ?_ h64 (hBc.out _) ?_
               · rfl)
            | (with_reducible refine wl_storePart gs bs.length i (flB W H l bs) b hb0.out ⟨gs, i * 64, none⟩ ?_ rfl ?_ (hPt.out _) hlt hfl ?_
               · rfl
               · rfl
               intro w8 p8 o8
               have P8 := Lib.hid p8
               have O8 := Lib.hid o8
               clear p8 o8))
          have Q8 : Hid (Only (fun b => b = gs ∨ b = K ∨ b = K + 1) wc w8) := Lib.hid ((O5.out.drewN _).trans (O8.out.mono (fun _ h => .inl h)))
          have R8 : Hid (Rem w8 K (K + 1) (mnP l (dcs bs) bs.length)) := Lib.hid ((r5.out.only ((Only.refl No w5).drewN _) id id).only O8.out (fun h => by have h : K = gs := h; omega) (fun h => by have h : K + 1 = gs := h; omega))
          go_roundw
          case rel => exact ⟨i + 1, by go_num, by omega, Lib.hid ⟨P8.out, R8.out, Q8.out⟩⟩
          case measure => simp [intOf]; omega
        · rw [hf, if_pos rfl] at hb0
          have h64' : (blC (stP W H l (dcs bs) (qx : Int) (qy : Int) :: List.replicate 63 0)).length = 64 := by rw [blC_length]; simp
          have hone := blC_one (stP W H l (dcs bs) (qx : Int) (qy : Int) :: List.replicate 63 0)
          go_wp2_with (first
            | (go_at_call 25; refine (hIn.out _ ⟨_, rfl⟩).mono ?_; rintro e w6 ⟨rfl, m, rfl⟩; rw [hf]))
          generalize hw6 : w5.drewN m = w6
          have o6 : Only No w5 w6 := by rw [← hw6]; exact (Only.refl No w5).drewN _
          have O6 : Only (fun b => b = gs ∨ b = K ∨ b = K + 1) wc w6 := O5.out.trans (o6.mono (fun _ h => h.elim))
          refine (stand33 w6 w.heap.size W H l bs (some ad) c g n0 (n0 + 1) K (K + 1) (hGr.out _ O6) (hMp.out _ O6) (by have := O6.size; have := OX.out.size; omega) qx qy px.out py.out (X5.out.only o6 id) (Y5.out.only o6 id) (r5.out.only o6 id id)).mono ?_
          rintro e w7 ⟨rfl, o7, r7⟩
          have hsgK : ¬ Two K (K + 1) gs := fun h => h.elim (fun h => by omega) (fun h => by omega)
          have hsGK : ¬ Two K (K + 1) G := fun h => h.elim (fun h => by omega) (fun h => by omega)
          have B7 := (B5.out.only o6 id).only o7 hsGK
          have p7 := (p5.out.only o6 id).only o7 hsgK
          have O7 : Hid (Only (fun b => b = gs ∨ b = K ∨ b = K + 1) wc w7) := Lib.hid (O6.trans (o7.mono (fun _ h => .inr h)))
          replace B7 := Lib.hid B7
          replace p7 := Lib.hid p7
          replace r7 := Lib.hid r7
          have hll : (blC b).toArray.size = 64 := by simpa using h64
          have cgo7 : Hid (∀ w', Only (One G) w7 w' → w'.cell? ⟨go, 2, none⟩ = some (.slice (some ⟨gs, 0, none⟩) bs.length bs.length)) := Lib.hid fun w' ho => ((bgo.out.only O7.out (by omega)).only ho (fun h => by have h : go = G := h; omega)).cell 2
          clear hw6 o6 O6 o7 cgo cm B5 p5 r5
          generalize stP W H l (dcs bs) (qx : Int) (qy : Int) = sv at hb0 h64' hone ⊢
          go_wp2_with (first
            | ((with_reducible refine wl_store48 G (blC b).toArray (blC (sv :: List.replicate 63 0)) ?_ ?_ B7.out hll h64' hone ?_)
               · rfl
               · rfl
               intro w8 b8 o8
               have B8 := Lib.hid b8
               have O8 := Lib.hid o8
               have cgo8 := cgo7.out _ o8
               have p8 := Lib.hid (p7.out.only o8 (fun h => by have h : gs = G := h; omega))
               clear b8 o8)
            | ((with_reducible refine wl_storePart gs bs.length i (flB W H l bs) (sv :: List.replicate 63 0) hb0.out ⟨gs, i * 64, none⟩ ?_ rfl ?_ p8.out hlt hfl ?_)
               · rfl
               · rfl
               intro w9 p9 o9
               have P9 := Lib.hid p9
               have O9 := Lib.hid o9
               clear p9 o9)
            | ((with_reducible refine wl_load48 ⟨G, 0, none⟩ (blC (sv :: List.replicate 63 0)) ?_ h64' (fun j v hv => ?_) ?_)
               · rfl
               · rw [Mm.add_plain]
                 exact (B8.out.cell j).trans (by simpa using hv)))
          have Q9 : Hid (Only (fun b => b = gs ∨ b = K ∨ b = K + 1) wc w9) := Lib.hid ((O7.out.then O8.out (fun j h => .inr (by have h : j = G := h; omega))).trans (O9.out.mono (fun _ h => .inl h)))
          have R9 : Hid (Rem w9 K (K + 1) (mnP l (dcs bs) bs.length)) := Lib.hid ((r7.out.only O8.out (fun h => by have h : K = G := h; omega) (fun h => by have h : K + 1 = G := h; omega)).only O9.out (fun h => by have h : K = gs := h; omega) (fun h => by have h : K + 1 = gs := h; omega))
          go_roundw
          case rel => exact ⟨i + 1, by go_num, by omega, Lib.hid ⟨P9.out, R9.out, Q9.out⟩⟩
          case measure => simp [intOf]; omega
      · have hlt' : ¬ (i : Int) < bs.length := by omega
        obtain rfl : i = bs.length := by omega
        have hOw := hI.out.2.2
        have y0 := bgo.out.only hOw (by omega)
        have y3 := x3.out.only hOw (by omega)
        have d0 := y0.cell 0
        have d1 := y0.cell 1
        have d2 := y0.cell 2
        have f0 := y3.cell 0
        have f1 := y3.cell 1
        have f2 := y3.cell 2
        have r0 := y3.frozen 0
        have r1 := y3.frozen 1
        have r2 := y3.frozen 2
        simp only [List.getElem?_toArray, List.getElem?_cons_zero, List.getElem?_cons_succ] at d0 d1 d2 f0 f1 f2
        have hgn : gs ≠ n0 + 1 + 1 := by omega
        have hpw : Part wr gs (flL W H l bs).length (flB W H l bs) (flL W H l bs).length := by rw [flL_len]; exact hI.out.1
        have hwh := Lib.hid (Part.whole (flL_bls h8 h9 (l := l) hbl.out hlen.out) hpw (fun j hj => flL_get W H l bs j (by rw [flL_len] at hj; exact hj)))
        have hfin : Hid (Only No w wr) := Lib.hid (OX.out.then hOw (fun j h => .inr (by have := hn0.out; rcases h with h | h | h <;> omega)))
        replace y3 := Lib.hid y3
        replace hOw := Lib.hid hOw
        clear y0 hpw
        go_wp2_with fail
        (try simp only [Exit.inBlock, Exit.then])
        refine bodyPost_ret (v := .tuple #[.agg #[.int .i64 W, .int .i64 H, .slice (some ⟨gs, 0, none⟩) bs.length bs.length], .int .i64 0]) ?_ rfl ⟨gs, rfl, ?_, ?_, ?_⟩
        · rw [results_cell_tmp rfl]
          go_simp
        · have hp : w.heap.size ≤ n0 + 1 + 1 := by have := hn0.out; omega
          exact ((hfin.out.setCell (p := ⟨n0 + 1 + 1, 0, none⟩) (.inr hp) _).setCell (p := ⟨n0 + 1 + 1, 1, none⟩) (.inr hp) _).setCell (p := ⟨n0 + 1 + 1, 2, none⟩) (.inr hp) _
        · have := hn0.out; omega
        · exact ((hwh.out.far (p := ⟨n0 + 1 + 1, 0, none⟩) hgn _).far (p := ⟨n0 + 1 + 1, 1, none⟩) hgn _).far (p := ⟨n0 + 1 + 1, 2, none⟩) hgn _
end Go.Proofs.Ytnepchdpgbdogaa.Ct
