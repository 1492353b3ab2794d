/- MeasureTriangle: the walk. -/
import Derived.Test.YtfaciljklligeaaTr
namespace Go.Proofs.Ytfaciljklligeaa.Ct
open Go.ChangeShapes Go.WideShapes Go.RowKit Mm
theorem sqrt34 {x r : Nat} (h : Ieee.double.sqrt x = some r) (w : World) : Calls Try.prog 34 #[.float .f64 x] w fun e w' => e = .returned (.float .f64 r) ∧ w = w' := by
  have hs : ∀ w, (Extern.MathSqrt.sqrt #[.float .f64 x]).run Try.prog w = .ok (.float .f64 r) w := fun w => by
    change Sem.run Try.prog (match FloatKind.f64.format.sqrt x with | some r => pure (Value.float .f64 r) | none => do pure (Value.float .f64 (← choose (Question.nanBits .f64 x x)))) w = _
    rw [show FloatKind.f64.format.sqrt x = some r from h]
    rfl
  have hl : ∀ w, (callFunc 51 #[.float .f64 x]).run Try.prog w = .ok (.value (.float .f64 r)) w := fun w => by
    rw [run_callFunc_extern (e := Extern.MathSqrt.sqrt) Try.func51 (by kernel_rfl) (by kernel_rfl) (by kernel_rfl) (by kernel_rfl), hs w]; rfl
  clear h hs
  go_enter Try.func34, Try.ntmps34
  go_wp2_with fail
  go_ret
  exact ⟨rfl, rfl⟩
set_option maxHeartbeats 3200000 in
set_option maxRecDepth 100000 in
theorem tri10 (haw : ∀ w, Calls Try.prog 12 #[] w fun e w' => e = .returned (.bool true) ∧ Only No w w') (w : World) (a b k : Int) (A : Option Addr) (c : Nat) (l : List Nat) (A2 : Option Addr) (c2 : Nat) (l2 : List Nat) (A3 : Option Addr) (c3 : Nat) (l3 : List Nat)
    (hr : Rds w 1 A l.length (byC l)) (hr2 : Rds w 1 A2 l2.length (byC l2)) (hr3 : Rds w 1 A3 l3.length (byC l3)) (hl : l.length ≤ 140737488351232) (hl2 : l2.length ≤ 140737488351232) (hl3 : l3.length ≤ 140737488351232) (hb : Byts l) (hb2 : Byts l2) (hb3 : Byts l3) :
    Calls Try.prog 10 #[.int .i64 a, .int .i64 b, .int .i64 k, .slice A l.length c, .slice A2 l2.length c2, .slice A3 l3.length c3] w fun e w' => e = .returned (.bool true) ∧ Only No w w' := by
  have r1 := roundP_bounds a (n := 20) (by omega)
  have r2 := roundP_bounds b (n := 20) (by omega)
  have r3 := roundP_bounds k (n := 4) (by omega)
  obtain ⟨W, hW⟩ : ∃ W : Nat, (W : Int) = 1 + roundP a 20 := ⟨(1 + roundP a 20).toNat, by omega⟩
  obtain ⟨H, hH⟩ : ∃ W : Nat, (W : Int) = 1 + roundP b 20 := ⟨(1 + roundP b 20).toNat, by omega⟩
  obtain ⟨C, hC⟩ : ∃ W : Nat, (W : Int) = 1 + roundP k 4 := ⟨(1 + roundP k 4).toNat, by omega⟩
  obtain ⟨N, hN⟩ : ∃ N, N = W * H * C := ⟨_, rfl⟩
  have hS : Side W H C N := ⟨by omega, by omega, by omega, hN⟩
  have hle := hS.le
  have hi1 := Lib.hid (fun (w' : World) (ho : Only No w w') => image32 w' a b k A c l 0 W H C hW hH hC (hr.no ho) hl hb)
  have hi2 := Lib.hid (fun (w' : World) (ho : Only No w w') => image32 w' a b k A2 c2 l2 3 W H C hW hH hC (hr2.no ho) hl2 hb2)
  have hi3 := Lib.hid (fun (w' : World) (ho : Only No w w') => image32 w' a b k A3 c3 l3 7 W H C hW hH hC (hr3.no ho) hl3 hb3)
  unfold ImgPost at hi1 hi2 hi3
  rw [← hN] at hi1 hi2 hi3
  replace haw := Lib.hid haw
  replace hS := Lib.hid hS
  clear r1 r2 r3 hW hH hC hN hr hr2 hl hl2 hb hb2 hr3 hl3 hb3
  unfold imgV imgA at hi1 hi2 hi3
  go_enter Try.func10, Try.ntmps10
  go_wp2_with fail
  refine (haw.out w).mono ?_
  rintro e w1 ⟨rfl, o⟩
  have O := Lib.hid o
  clear o haw
  go_wp2_with fail
  refine (hi1.out _ O.out).mono ?_
  rintro e w2 ⟨Ax, cx, px, rfl, hpx, hbx, ox, o⟩
  replace O := Lib.hid (O.out.trans o)
  have Rx := Lib.hid (Rds.of_own ox)
  have HPx := Lib.hid hpx
  have HBx := Lib.hid hbx
  clear o ox hi1 hpx hbx
  have hw5 : ∃ w5, w2.alloc (.cells #[.int .i64 W, .int .i64 H, .int .i64 C, .slice Ax N cx] 32) = w5 ∧ Only No w2 w5 ∧ Blk w5 w2.heap.size 32 #[.int .i64 W, .int .i64 H, .int .i64 C, .slice Ax N cx] :=
    ⟨_, rfl, (Only.refl No w2).alloc _, Blk.new _ _ _⟩
  replace hw5 := Lib.hid hw5
  go_wp2_with fail
  obtain ⟨w3, e5, o5, b8⟩ := hw5.out
  rw [e5]
  have Bx := Lib.hid b8
  replace Rx := Lib.hid (Rx.out.no o5)
  replace O := Lib.hid (O.out.trans o5)
  generalize w2.heap.size = gx at *
  clear b8 o5 hw5 e5
  refine (hi2.out _ O.out).mono ?_
  rintro e w4 ⟨Ay, cy, py, rfl, hpx, hbx, ox, o⟩
  replace O := Lib.hid (O.out.trans o)
  replace Bx := Lib.hid (Bx.out.only o id)
  replace Rx := Lib.hid (Rx.out.no o)
  have Ry := Lib.hid (Rds.of_own ox)
  have HPy := Lib.hid hpx
  have HBy := Lib.hid hbx
  clear o ox hi2 hpx hbx
  have hw5 : ∃ w5, w4.alloc (.cells #[.int .i64 W, .int .i64 H, .int .i64 C, .slice Ay N cy] 32) = w5 ∧ Only No w4 w5 ∧ Blk w5 w4.heap.size 32 #[.int .i64 W, .int .i64 H, .int .i64 C, .slice Ay N cy] :=
    ⟨_, rfl, (Only.refl No w4).alloc _, Blk.new _ _ _⟩
  replace hw5 := Lib.hid hw5
  go_wp2_with fail
  obtain ⟨w5, e5, o5, b8⟩ := hw5.out
  rw [e5]
  have By := Lib.hid b8
  replace Ry := Lib.hid (Ry.out.no o5)
  replace O := Lib.hid (O.out.trans o5)
  replace Bx := Lib.hid (Bx.out.only o5 id)
  replace Rx := Lib.hid (Rx.out.no o5)
  generalize w4.heap.size = gy at *
  clear b8 o5 hw5 e5
  refine (hi3.out _ O.out).mono ?_
  rintro e w6 ⟨Az, cz, pz, rfl, hpx, hbx, ox, o⟩
  replace O := Lib.hid (O.out.trans o)
  replace Bx := Lib.hid (Bx.out.only o id)
  replace Rx := Lib.hid (Rx.out.no o)
  replace By := Lib.hid (By.out.only o id)
  replace Ry := Lib.hid (Ry.out.no o)
  have Rz := Lib.hid (Rds.of_own ox)
  have HPz := Lib.hid hpx
  have HBz := Lib.hid hbx
  clear o ox hi3 hpx hbx
  have hw5 : ∃ w5, w6.alloc (.cells #[.int .i64 W, .int .i64 H, .int .i64 C, .slice Az N cz] 32) = w5 ∧ Only No w6 w5 ∧ Blk w5 w6.heap.size 32 #[.int .i64 W, .int .i64 H, .int .i64 C, .slice Az N cz] :=
    ⟨_, rfl, (Only.refl No w6).alloc _, Blk.new _ _ _⟩
  replace hw5 := Lib.hid hw5
  obtain ⟨m1, d, m2, ra, rb, rc, t, u, F⟩ := tri_facts hle.1 hle.2 HPx.out HPy.out HBx.out HBy.out HBz.out
  have hK := pkK_le HBx.out HBy.out N
  have hA1 := fun w A1 c1 A2 c2 h1 h2 => apart_img hS.out HPx.out HPy.out HBx.out HBy.out w A1 c1 A2 c2 h1 h2
  have hA2 := fun w A1 c1 A2 c2 h1 h2 => apart_img hS.out HPy.out HPz.out HBy.out HBz.out w A1 c1 A2 c2 h1 h2
  have hA3 := fun w A1 c1 A2 c2 h1 h2 => apart_img hS.out HPx.out HPz.out HBx.out HBz.out w A1 c1 A2 c2 h1 h2
  have hP1 := fun w A1 c1 A2 c2 h1 h2 => peak_img hS.out HPx.out HPy.out HBx.out HBy.out w A1 c1 A2 c2 h1 h2
  generalize apartP px py = p at *
  generalize apartP py pz = q at *
  generalize apartP px pz = r at *
  generalize pkK px py N = K at *
  have kk : 0 ≤ K * K ∧ K * K ≤ 65025 := ⟨Int.mul_nonneg hK.1 hK.1, Int.mul_le_mul (c := 255) (d := 255) hK.2 hK.2 hK.1 (by omega)⟩
  replace hA1 := Lib.hid hA1
  replace hA2 := Lib.hid hA2
  replace hA3 := Lib.hid hA3
  replace hP1 := Lib.hid hP1
  replace F := Lib.hid F
  obtain ⟨kk0, kk1⟩ := kk
  clear HPx HPy HPz HBx HBy HBz hK
  unfold imgV imgA at hA1 hA2 hA3 hP1
  obtain ⟨x0, x1, x2, x3⟩ := cells4 (Bx.out.alloc (.cells #[.int .i64 W, .int .i64 H, .int .i64 C, .slice Az N cz] 32))
  obtain ⟨y0, y1, y2, y3⟩ := cells4 (By.out.alloc (.cells #[.int .i64 W, .int .i64 H, .int .i64 C, .slice Az N cz] 32))
  go_wp2_with fail
  obtain ⟨w7, e5, o5, b8⟩ := hw5.out
  rw [e5]
  have Bz := Lib.hid b8
  replace Rz := Lib.hid (Rz.out.no o5)
  replace O := Lib.hid (O.out.trans o5)
  replace Bx := Lib.hid (Bx.out.only o5 id)
  replace Rx := Lib.hid (Rx.out.no o5)
  replace By := Lib.hid (By.out.only o5 id)
  replace Ry := Lib.hid (Ry.out.no o5)
  generalize w6.heap.size = gz at *
  clear b8 o5 hw5 e5
  clear x0 x1 x2 x3 y0 y1 y2 y3
  refine (hA1.out _ _ _ _ _ Rx.out Ry.out).mono ?_
  rintro e v0 ⟨rfl, o⟩
  replace O := Lib.hid (O.out.trans o)
  replace Bx := Lib.hid (Bx.out.only o id)
  replace Rx := Lib.hid (Rx.out.no o)
  replace By := Lib.hid (By.out.only o id)
  replace Ry := Lib.hid (Ry.out.no o)
  replace Bz := Lib.hid (Bz.out.only o id)
  replace Rz := Lib.hid (Rz.out.no o)
  clear o hA1
  obtain ⟨x0, x1, x2, x3⟩ := cells4 By.out
  obtain ⟨y0, y1, y2, y3⟩ := cells4 Bz.out
  go_wp2_with fail
  clear x0 x1 x2 x3 y0 y1 y2 y3
  refine (hA2.out _ _ _ _ _ Ry.out Rz.out).mono ?_
  rintro e v1 ⟨rfl, o⟩
  replace O := Lib.hid (O.out.trans o)
  replace Bx := Lib.hid (Bx.out.only o id)
  replace Rx := Lib.hid (Rx.out.no o)
  replace By := Lib.hid (By.out.only o id)
  replace Ry := Lib.hid (Ry.out.no o)
  replace Bz := Lib.hid (Bz.out.only o id)
  replace Rz := Lib.hid (Rz.out.no o)
  clear o hA2
  obtain ⟨x0, x1, x2, x3⟩ := cells4 Bx.out
  obtain ⟨y0, y1, y2, y3⟩ := cells4 Bz.out
  go_wp2_with fail
  clear x0 x1 x2 x3 y0 y1 y2 y3
  refine (hA3.out _ _ _ _ _ Rx.out Rz.out).mono ?_
  rintro e v2 ⟨rfl, o⟩
  replace O := Lib.hid (O.out.trans o)
  replace Bx := Lib.hid (Bx.out.only o id)
  replace Rx := Lib.hid (Rx.out.no o)
  replace By := Lib.hid (By.out.only o id)
  replace Ry := Lib.hid (Ry.out.no o)
  replace Bz := Lib.hid (Bz.out.only o id)
  replace Rz := Lib.hid (Rz.out.no o)
  clear o hA3
  obtain ⟨x0, x1, x2, x3⟩ := cells4 Bx.out
  obtain ⟨y0, y1, y2, y3⟩ := cells4 By.out
  go_wp2_with fail
  clear x0 x1 x2 x3 y0 y1 y2 y3
  refine (hP1.out _ _ _ _ _ Rx.out Ry.out).mono ?_
  rintro e v3 ⟨rfl, o⟩
  replace O := Lib.hid (O.out.trans o)
  replace Bx := Lib.hid (Bx.out.only o id)
  replace Rx := Lib.hid (Rx.out.no o)
  replace By := Lib.hid (By.out.only o id)
  replace Ry := Lib.hid (Ry.out.no o)
  replace Bz := Lib.hid (Bz.out.only o id)
  replace Rz := Lib.hid (Rz.out.no o)
  clear o hP1
  obtain ⟨x0, x1, x2, x3⟩ := cells4 Bx.out
  obtain ⟨h1, h2, h3, ha, hb, hc, h4, h5, o1, o2, o3⟩ := F.out
  have s1 := fun w => sqrt34 ha w
  have s2 := fun w => sqrt34 hb w
  have s3 := fun w => sqrt34 hc w
  replace s1 := Lib.hid s1
  replace s2 := Lib.hid s2
  replace s3 := Lib.hid s3
  replace h1 := h1.run
  replace h2 := h2.run
  replace h3 := h3.run
  replace h4 := h4.run
  replace h5 := h5.run
  clear ha hb hc F
  have o1 : FloatKind.f64.format.order p m1 = some .lt ∨ FloatKind.f64.format.order p m1 = some .eq := o1
  have o2 : FloatKind.f64.format.order p m2 = some .gt ∨ FloatKind.f64.format.order p m2 = some .eq := o2
  have o3 : FloatKind.f64.format.order ra u = some .lt ∨ FloatKind.f64.format.order ra u = some .eq := o3
  rcases o1 with o1 | o1 <;> rcases o2 with o2 | o2 <;> rcases o3 with o3 | o3
  all_goals
    go_wp2_with fail
    refine (s1.out _).mono ?_
    rintro e v9 ⟨rfl, rfl⟩
    go_wp2_with fail
    refine (s2.out _).mono ?_
    rintro e v9 ⟨rfl, rfl⟩
    go_wp2_with fail
    refine (s3.out _).mono ?_
    rintro e v9 ⟨rfl, rfl⟩
    go_wp2_with fail
    go_ret
    exact ⟨rfl, O.out⟩
end Go.Proofs.Ytfaciljklligeaa.Ct
