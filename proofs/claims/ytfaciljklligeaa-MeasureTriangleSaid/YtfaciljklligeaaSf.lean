/- MeasureSelf: the walk. -/
import Derived.Test.YtfaciljklligeaaSe
import Derived.Deep.RegionHeld3
import Derived.Deep.DeepCutAuto
import Derived.Deep.CutRange
namespace Go.Proofs.Ytfaciljklligeaa.Ct
open Go.ChangeShapes Go.WideShapes Go.RowKit Mm
set_option maxHeartbeats 3200000 in
set_option maxRecDepth 100000 in
theorem self7 (haw : ∀ w, Calls Try.prog 12 #[] w fun e w' => e = .returned (.bool true) ∧ Only No w w') (w : World) (a b k : Int) (A : Option Addr) (c : Nat) (l : List Nat) (A2 : Option Addr) (c2 : Nat) (l2 : List Nat) (m : Int)
    (hr : Rds w 1 A l.length (byC l)) (hr2 : Rds w 1 A2 l2.length (byC l2)) (hl : l.length ≤ 140737488351232) (hl2 : l2.length ≤ 140737488351232) (hb : Byts l) (hb2 : Byts l2) :
    Calls Try.prog 7 #[.int .i64 a, .int .i64 b, .int .i64 k, .slice A l.length c, .slice A2 l2.length c2, .int .i64 m] w fun e w' => e = .returned (.bool true) ∧ Only No w w' := by
  have r1 := roundP_bounds a (n := 20) (by omega)
  have r2 := roundP_bounds b (n := 20) (by omega)
  have r3 := roundP_bounds k (n := 4) (by omega)
  obtain ⟨W, hW⟩ : ∃ W : Nat, (W : Int) = 1 + roundP a 20 := ⟨(1 + roundP a 20).toNat, by omega⟩
  obtain ⟨H, hH⟩ : ∃ W : Nat, (W : Int) = 1 + roundP b 20 := ⟨(1 + roundP b 20).toNat, by omega⟩
  obtain ⟨C, hC⟩ : ∃ W : Nat, (W : Int) = 1 + roundP k 4 := ⟨(1 + roundP k 4).toNat, by omega⟩
  obtain ⟨N, hN⟩ : ∃ N, N = W * H * C := ⟨_, rfl⟩
  have hS : Side W H C N := ⟨by omega, by omega, by omega, hN⟩
  have hle := hS.le
  have hi1 := Lib.hid (fun (w' : World) (ho : Only No w w') => image32 w' a b k A c l 0 W H C hW hH hC (hr.no ho) hl hb)
  have hi2 := Lib.hid (fun (w' : World) (ho : Only No w w') => image32 w' a b k A2 c2 l2 m W H C hW hH hC (hr2.no ho) hl2 hb2)
  unfold ImgPost at hi1 hi2
  rw [← hN] at hi1 hi2
  replace haw := Lib.hid haw
  replace hS := Lib.hid hS
  clear r1 r2 r3 hW hH hC hN hr hr2 hl hl2 hb hb2
  unfold imgV imgA at hi1 hi2
  go_enter Try.func7, Try.ntmps7
  go_wp2_with fail
  refine (haw.out w).mono ?_
  rintro e w1 ⟨rfl, o⟩
  have O := Lib.hid o
  clear o haw
  go_wp2_with fail
  refine (hi1.out _ O.out).mono ?_
  rintro e w2 ⟨Ax, cx, px, rfl, hpx, hbx, ox, o⟩
  replace O := Lib.hid (O.out.trans o)
  have RX := Lib.hid (Rds.of_own ox)
  have HPX := Lib.hid hpx
  have HBX := Lib.hid hbx
  clear o ox hi1 hpx hbx
  have hw5 : ∃ w5, w2.alloc (.cells #[.int .i64 W, .int .i64 H, .int .i64 C, .slice Ax N cx] 32) = w5 ∧ Only No w2 w5 ∧ Blk w5 w2.heap.size 32 #[.int .i64 W, .int .i64 H, .int .i64 C, .slice Ax N cx] :=
    ⟨_, rfl, (Only.refl No w2).alloc _, Blk.new _ _ _⟩
  replace hw5 := Lib.hid hw5
  go_wp2_with fail
  obtain ⟨w5, e5, o5, b8⟩ := hw5.out
  rw [e5]
  have BX := Lib.hid b8
  replace RX := Lib.hid (RX.out.no o5)
  replace O := Lib.hid (O.out.trans o5)
  generalize w2.heap.size = gx at *
  clear b8 o5 hw5 e5
  refine (hi2.out _ O.out).mono ?_
  rintro e w6 ⟨Ay, cy, py, rfl, hpx, hbx, ox, o⟩
  replace O := Lib.hid (O.out.trans o)
  replace BX := Lib.hid (BX.out.only o id)
  replace RX := Lib.hid (RX.out.no o)
  have RY := Lib.hid (Rds.of_own ox)
  have HPY := Lib.hid hpx
  have HBY := Lib.hid hbx
  clear o ox hi2 hpx hbx
  have hw5 : ∃ w7, w6.alloc (.cells #[.int .i64 W, .int .i64 H, .int .i64 C, .slice Ay N cy] 32) = w7 ∧ Only No w6 w7 ∧ Blk w7 w6.heap.size 32 #[.int .i64 W, .int .i64 H, .int .i64 C, .slice Ay N cy] :=
    ⟨_, rfl, (Only.refl No w6).alloc _, Blk.new _ _ _⟩
  replace hw5 := Lib.hid hw5
  have F := Lib.hid (self_facts hS.out HPX.out HBX.out HBY.out)
  have hs1 := Lib.hid (apartP_symm (HPX.out.trans HPY.out.symm))
  have hs2 := Lib.hid (alikeP_symm (W := W) (H := H) (C := C) HBX.out HBY.out)
  have hs3 := Lib.hid (pkK_symm px py N)
  have hA1 := fun w A1 c1 A2 c2 h1 h2 => apart_img hS.out HPX.out HPX.out HBX.out HBX.out w A1 c1 A2 c2 h1 h2
  have hA2 := fun w A1 c1 A2 c2 h1 h2 => apart_img hS.out HPX.out HPY.out HBX.out HBY.out w A1 c1 A2 c2 h1 h2
  have hA3 := fun w A1 c1 A2 c2 h1 h2 => apart_img hS.out HPY.out HPX.out HBY.out HBX.out w A1 c1 A2 c2 h1 h2
  have hP1 := fun w A1 c1 A2 c2 h1 h2 => peak_img hS.out HPX.out HPX.out HBX.out HBX.out w A1 c1 A2 c2 h1 h2
  have hP2 := fun w A1 c1 A2 c2 h1 h2 => peak_img hS.out HPX.out HPY.out HBX.out HBY.out w A1 c1 A2 c2 h1 h2
  have hP3 := fun w A1 c1 A2 c2 h1 h2 => peak_img hS.out HPY.out HPX.out HBY.out HBX.out w A1 c1 A2 c2 h1 h2
  have hL1 := fun w A1 c1 A2 c2 h1 h2 => alike_img hS.out HPX.out HPX.out HBX.out HBX.out w A1 c1 A2 c2 h1 h2
  have hL2 := fun w A1 c1 A2 c2 h1 h2 => alike_img hS.out HPX.out HPY.out HBX.out HBY.out w A1 c1 A2 c2 h1 h2
  have hL3 := fun w A1 c1 A2 c2 h1 h2 => alike_img hS.out HPY.out HPX.out HBY.out HBX.out w A1 c1 A2 c2 h1 h2
  have hT := fun w A c h => twin_img (W := W) (H := H) (C := C) HPX.out hle.2 w A c h
  rw [← hs1.out] at hA3
  rw [← hs2.out] at hL3
  rw [← hs3.out] at hP3
  generalize apartP px px = Z at *
  generalize apartP px py = X at *
  generalize alikeP px px W H C = R at *
  generalize alikeP px py W H C = Y at *
  generalize pkK px px N = K0 at *
  generalize pkK px py N = K at *
  replace hA1 := Lib.hid hA1
  replace hA2 := Lib.hid hA2
  replace hA3 := Lib.hid hA3
  replace hP1 := Lib.hid hP1
  replace hP2 := Lib.hid hP2
  replace hP3 := Lib.hid hP3
  replace hL1 := Lib.hid hL1
  replace hL2 := Lib.hid hL2
  replace hL3 := Lib.hid hL3
  replace hT := Lib.hid hT
  clear hs1 hs2 hs3 HPX HPY HBX HBY
  unfold imgV imgA at hA1 hA2 hA3 hP1 hP2 hP3 hL1 hL2 hL3 hT
  go_wp2_with fail
  obtain ⟨w7, e7, o7, b9⟩ := hw5.out
  have BY := Lib.hid b9
  replace BX := Lib.hid (BX.out.only o7 id)
  replace RX := Lib.hid (RX.out.no o7)
  replace RY := Lib.hid (RY.out.no o7)
  replace O := Lib.hid (O.out.trans o7)
  generalize w6.heap.size = gy at *
  rw [e7]
  clear b9 o7 hw5 e7
  have q9 : Only No w7 w7 := Only.refl No w7
  have hS4 : ∀ w' : World, Only No w7 w' → w'.cell? ⟨gx, 0, none⟩ = some (.int .i64 W) ∧ w'.cell? ⟨gx, 1, none⟩ = some (.int .i64 H) ∧ w'.cell? ⟨gx, 2, none⟩ = some (.int .i64 C) ∧ w'.cell? ⟨gx, 3, none⟩ = some (.slice Ax N cx) := fun w' ho => by
    obtain ⟨a1, a2, a3, a4⟩ := cells4 (BX.out.only ho id)
    exact ⟨a1, a2, a3, a4⟩
  replace hS4 := Lib.hid hS4
  go_cut [16, 17] from 47 to 53 (fun s1 s2 wx => s1 = .float .f64 Z ∧ s2 = .int .i64 0 ∧ Hid (Only No w7 wx))
  case first =>
    go_region_held3 (fun w' => Only No w7 w' ∧ w'.cell? ⟨gx, 0, none⟩ = some (.int .i64 W) ∧ w'.cell? ⟨gx, 1, none⟩ = some (.int .i64 H) ∧ w'.cell? ⟨gx, 2, none⟩ = some (.int .i64 C) ∧ w'.cell? ⟨gx, 3, none⟩ = some (.slice Ax N cx))
      (first
        | (refine ⟨?_, hS4.out _ ?_⟩ <;> first | exact q9 | exact q9.drew | exact q10 | exact q10.drew | exact q30 | exact q30.drew))
      (first
        | (go_at_call 18; (with_reducible refine (hT.out _ _ _ (RX.out.no q9.drew)).mono ?_); rintro e w10 ⟨Aa, ca, rfl, ra, o10⟩; have q10 : Only No w7 w10 := q9.drew.trans o10)
        | (go_at_call 19; (with_reducible refine (hA1.out _ _ _ _ _ (RX.out.no q10) (ra _ (Only.refl No _))).mono ?_); rintro e w30 ⟨rfl, o30⟩; have q30 : Only No w7 w30 := q10.trans o30))
    all_goals go_wp2_with fail
    all_goals go_meet
    all_goals exact ⟨rfl, rfl, Lib.hid (by first | exact q30 | exact q30.drew)⟩
  case rest =>
    clear q9
    obtain ⟨rfl, rfl, hO⟩ := hcut
    have q9 := hO.out
    clear hO
    go_wp2_with fail
    -- GEN
    go_cut [18, 19] from 54 to 60 (fun s1 s2 wx => s1 = .int .i64 K0 ∧ s2 = .int .i64 0 ∧ Hid (Only No w7 wx))
    case first =>
      go_region_held3 (fun w' => Only No w7 w' ∧ w'.cell? ⟨gx, 0, none⟩ = some (.int .i64 W) ∧ w'.cell? ⟨gx, 1, none⟩ = some (.int .i64 H) ∧ w'.cell? ⟨gx, 2, none⟩ = some (.int .i64 C) ∧ w'.cell? ⟨gx, 3, none⟩ = some (.slice Ax N cx))
        (first
          | (refine ⟨?_, hS4.out _ ?_⟩ <;> first | exact q9 | exact q9.drew | exact q10 | exact q10.drew | exact q30 | exact q30.drew))
        (first
          | (go_at_call 18; (with_reducible refine (hT.out _ _ _ (RX.out.no q9.drew)).mono ?_); rintro e w10 ⟨Aa, ca, rfl, ra, o10⟩; have q10 : Only No w7 w10 := q9.drew.trans o10)
          | (go_at_call 21; (with_reducible refine (hP1.out _ _ _ _ _ (RX.out.no q10) (ra _ (Only.refl No _))).mono ?_); rintro e w30 ⟨rfl, o30⟩; have q30 : Only No w7 w30 := q10.trans o30))
      all_goals go_wp2_with fail
      all_goals go_meet
      all_goals exact ⟨rfl, rfl, Lib.hid (by first | exact q30 | exact q30.drew)⟩
    case rest =>
      clear q9
      obtain ⟨rfl, rfl, hO⟩ := hcut
      have q9 := hO.out
      clear hO
      go_wp2_with fail
      go_cut [20, 21] from 61 to 67 (fun s1 s2 wx => s1 = .float .f64 R ∧ s2 = .int .i64 0 ∧ Hid (Only No w7 wx))
      case first =>
        go_region_held3 (fun w' => Only No w7 w' ∧ w'.cell? ⟨gx, 0, none⟩ = some (.int .i64 W) ∧ w'.cell? ⟨gx, 1, none⟩ = some (.int .i64 H) ∧ w'.cell? ⟨gx, 2, none⟩ = some (.int .i64 C) ∧ w'.cell? ⟨gx, 3, none⟩ = some (.slice Ax N cx))
          (first
            | (refine ⟨?_, hS4.out _ ?_⟩ <;> first | exact q9 | exact q9.drew | exact q10 | exact q10.drew | exact q30 | exact q30.drew))
          (first
            | (go_at_call 18; (with_reducible refine (hT.out _ _ _ (RX.out.no q9.drew)).mono ?_); rintro e w10 ⟨Aa, ca, rfl, ra, o10⟩; have q10 : Only No w7 w10 := q9.drew.trans o10)
            | (go_at_call 23; (with_reducible refine (hL1.out _ _ _ _ _ (RX.out.no q10) (ra _ (Only.refl No _))).mono ?_); rintro e w30 ⟨rfl, o30⟩; have q30 : Only No w7 w30 := q10.trans o30))
        all_goals go_wp2_with fail
        all_goals go_meet
        all_goals exact ⟨rfl, rfl, Lib.hid (by first | exact q30 | exact q30.drew)⟩
      case rest =>
        clear q9
        obtain ⟨rfl, rfl, hO⟩ := hcut
        have q9 := hO.out
        clear hO
        have Q := Lib.hid q9
        clear q9 hA1 hP1 hL1 hT hS4
        obtain ⟨x0, x1, x2, x3⟩ := cells4 (BX.out.only Q.out id)
        obtain ⟨y0, y1, y2, y3⟩ := cells4 (BY.out.only Q.out id)
        go_wp2_with fail
        clear x0 x1 x2 x3 y0 y1 y2 y3
        refine (hA2.out _ _ _ _ _ (RX.out.no Q.out) (RY.out.no Q.out)).mono ?_
        rintro e v1 ⟨rfl, o⟩
        replace Q := Lib.hid (Q.out.trans o)
        clear o hA2
        obtain ⟨x0, x1, x2, x3⟩ := cells4 (BY.out.only Q.out id)
        obtain ⟨y0, y1, y2, y3⟩ := cells4 (BX.out.only Q.out id)
        go_wp2_with fail
        clear x0 x1 x2 x3 y0 y1 y2 y3
        refine (hA3.out _ _ _ _ _ (RY.out.no Q.out) (RX.out.no Q.out)).mono ?_
        rintro e v2 ⟨rfl, o⟩
        replace Q := Lib.hid (Q.out.trans o)
        clear o hA3
        obtain ⟨x0, x1, x2, x3⟩ := cells4 (BX.out.only Q.out id)
        obtain ⟨y0, y1, y2, y3⟩ := cells4 (BY.out.only Q.out id)
        go_wp2_with fail
        clear x0 x1 x2 x3 y0 y1 y2 y3
        refine (hP2.out _ _ _ _ _ (RX.out.no Q.out) (RY.out.no Q.out)).mono ?_
        rintro e v3 ⟨rfl, o⟩
        replace Q := Lib.hid (Q.out.trans o)
        clear o hP2
        obtain ⟨x0, x1, x2, x3⟩ := cells4 (BY.out.only Q.out id)
        obtain ⟨y0, y1, y2, y3⟩ := cells4 (BX.out.only Q.out id)
        go_wp2_with fail
        clear x0 x1 x2 x3 y0 y1 y2 y3
        refine (hP3.out _ _ _ _ _ (RY.out.no Q.out) (RX.out.no Q.out)).mono ?_
        rintro e v4 ⟨rfl, o⟩
        replace Q := Lib.hid (Q.out.trans o)
        clear o hP3
        obtain ⟨x0, x1, x2, x3⟩ := cells4 (BX.out.only Q.out id)
        obtain ⟨y0, y1, y2, y3⟩ := cells4 (BY.out.only Q.out id)
        go_wp2_with fail
        clear x0 x1 x2 x3 y0 y1 y2 y3
        refine (hL2.out _ _ _ _ _ (RX.out.no Q.out) (RY.out.no Q.out)).mono ?_
        rintro e v5 ⟨rfl, o⟩
        replace Q := Lib.hid (Q.out.trans o)
        clear o hL2
        obtain ⟨x0, x1, x2, x3⟩ := cells4 (BY.out.only Q.out id)
        obtain ⟨y0, y1, y2, y3⟩ := cells4 (BX.out.only Q.out id)
        go_wp2_with fail
        clear x0 x1 x2 x3 y0 y1 y2 y3
        refine (hL3.out _ _ _ _ _ (RY.out.no Q.out) (RX.out.no Q.out)).mono ?_
        rintro e v6 ⟨rfl, o⟩
        replace Q := Lib.hid (Q.out.trans o)
        clear o hL3
        obtain ⟨d1, d2, d3, d4, d5, d6, rfl⟩ := F.out
        have d7 : (K == K) = true := by simp
        clear F
        go_wp2_with fail
        go_ret
        exact ⟨rfl, O.out.trans Q.out⟩
end Go.Proofs.Ytfaciljklligeaa.Ct
