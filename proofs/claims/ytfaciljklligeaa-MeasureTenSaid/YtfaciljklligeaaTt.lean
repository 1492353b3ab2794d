/- The program's tile: the walk. -/
import Derived.Test.YtfaciljklligeaaTs
import Derived.Deep.DeepCutAuto
import Derived.Deep.CutRange
namespace Go.Proofs.Ytfaciljklligeaa.Ct
open Go.ChangeShapes Go.WideShapes Go.RowKit Mm
/-- an image's sizes as whole numbers -/
structure Dims (W H C n : Nat) : Prop where
  w1 : 1 ≤ W
  w2 : W ≤ 65535
  h1 : 1 ≤ H
  h2 : H ≤ 65535
  c1 : 1 ≤ C
  c2 : C ≤ 4
  n : n = W * H * C
theorem Dims.le {W H C n : Nat} (h : Dims W H C n) : n ≤ 17179344900 := by
  have h1 : W * H ≤ 65535 * 65535 := Nat.mul_le_mul h.w2 h.h2
  have h2 : W * H * C ≤ 65535 * 65535 * 4 := Nat.mul_le_mul h1 h.c2
  have := h.n
  omega
set_option maxHeartbeats 3200000 in
set_option maxRecDepth 100000 in
theorem tile40 (w : World) (W H C : Nat) (A : Option Addr) (k1 : Nat) (l : List Nat) (A2 : Option Addr) (k2 : Nat) (l2 : List Nat) (hD : Dims W H C l.length) (hn : l.length = l2.length) (hr : Rds w 1 A l.length (byC l)) (hr2 : Rds w 1 A2 l2.length (byC l2)) (hb : Byts l) (hb2 : Byts l2)
    (c x0 y0 : Nat) (hc : c < C) (hx : x0 < W) (hy : y0 < H) (rows cols : Nat) (hrows : y0 + rows = min (y0 + 8) H) (hcols : x0 + cols = min (x0 + 8) W) :
    Calls Try.prog 40 #[imgV W H C A l.length k1, imgV W H C A2 l2.length k2, .int .i64 c, .int .i64 x0, .int .i64 y0] w fun e w' => e = .returned (.float .f64 (likeA (tileS l l2 W C c y0 x0 cols rows))) ∧ Only No w w' := by
  have hpos : 0 < l.length := by
    rw [hD.n]; exact Nat.mul_pos (Nat.mul_pos hD.w1 hD.h1) hD.c1
  obtain ⟨ad, rfl, _, _⟩ := hr.2 hpos
  obtain ⟨ad2, rfl, _, _⟩ := hr2.2 (by omega)
  have hr8 : rows ≤ 8 ∧ 1 ≤ rows := by omega
  have hc8 : cols ≤ 8 ∧ 1 ≤ cols := by omega
  have hrc : rows * cols ≤ 8 * 8 := Nat.mul_le_mul hr8.1 hc8.1
  have hrc1 : 1 * 1 ≤ rows * cols := Nat.mul_le_mul hr8.2 hc8.2
  obtain ⟨ok, okn⟩ := tileS_ok (W := W) (C := C) (c := c) hb hb2 y0 x0 cols rows
  obtain ⟨p, q, pp, qq, pq, ga, gb, gg, u, v, x, p2, both, w2, b1, c1, above, d0, d, e0, e, below, r, L, _⟩ := like_ex (ok.sums (by rw [okn]; omega) (by rw [okn]; omega))
  have hl : Hid (likeA (tileS l l2 W C c y0 x0 cols rows) = r) := L.eq
  rw [hl.out]
  obtain ⟨S, hS⟩ : ∃ S, S = tileS l l2 W C c y0 x0 cols rows := ⟨_, rfl⟩
  rw [← hS] at L
  have HS := Lib.hid hS
  have a1 := L.hp.run
  have a2 := L.hq.run
  have a3 := L.hpp.run
  have a4 := L.hqq.run
  have a5 := L.hpq.run
  have a6 := L.hga.run
  have a7 := L.hgb.run
  have a8 := L.hgg.run
  have a9 := L.hu.run
  have a10 := L.hv.run
  have a11 := L.hw.run
  have a12 := L.hp2.run
  have a13 := L.hboth.run
  have a14 := L.hw2.run
  have a15 := L.hb1.run
  have a16 := L.hc1.run
  have a17 := L.habove.run
  have a18 := L.hd0.run
  have a19 := L.hd.run
  have a20 := L.he0.run
  have a21 := L.he.run
  have a22 := L.hbelow.run
  have a23 := L.hr.run
  unfold W2 WA WB foi at *

  clear ok okn hl hS L hrc hrc1
  have HR := Lib.hid hr
  have HR2 := Lib.hid hr2
  have HN := Lib.hid hn
  have hw := hD.w2
  have hh := hD.h2
  have hcc := hD.c2
  have HD := Lib.hid hD
  have HB := Lib.hid hb
  have HB2 := Lib.hid hb2
  clear hr hr2 hn hD hb hb2
  unfold imgV imgA
  have hcasey : ((y0 : Int) + 8 ≤ (H : Int) ∧ 8 ≤ rows) ∨ ((H : Int) < (y0 : Int) + 8 ∧ H ≤ y0 + rows) := by omega
  have hcasex : ((x0 : Int) + 8 ≤ (W : Int) ∧ 8 ≤ cols) ∨ ((W : Int) < (x0 : Int) + 8 ∧ W ≤ x0 + cols) := by omega
  have hyr1 : y0 + rows ≤ H := by omega
  have hxr1 : x0 + cols ≤ W := by omega
  replace hrows := Lib.hid hrows
  replace hcols := Lib.hid hcols
  rcases hcasey with ⟨hy8, hyr⟩ | ⟨hy8, hyr⟩ <;> rcases hcasex with ⟨hx8, hxr⟩ | ⟨hx8, hxr⟩
  all_goals
    go_enter Try.func40, Try.ntmps40
    go_wp2_with fail
    obtain ⟨b1', b2', o2⟩ := boxes w #[.int .i64 W, .int .i64 H, .int .i64 C, .slice (some ad) l.length k1] #[.int .i64 W, .int .i64 H, .int .i64 C, .slice (some ad2) l2.length k2]
    generalize ((w.alloc (Obj.cells #[.int .i64 W, .int .i64 H, .int .i64 C, .slice (some ad) l.length k1] 32)).alloc (Obj.cells #[.int .i64 W, .int .i64 H, .int .i64 C, .slice (some ad2) l2.length k2] 32)) = v2 at *
    obtain ⟨j0, j1, j2, j3⟩ := cells4 b1'
    obtain ⟨_, _, _, i3⟩ := cells4 b2'
    have O2 := Lib.hid o2
    clear b1' b2' o2
    go_loopw [11, 12, 13, 14, 15, 16, 17] (fun s1 s2 s3 s4 s5 s6 yy wr => ∃ (j d : Nat) (s : Acc), j ≤ rows ∧ yy = .int .i64 ((y0 + j : Nat) : Int) ∧ Hid (s = tileS l l2 W C c y0 x0 cols j) ∧ s1 = .int .i64 s.n ∧ s2 = .int .i64 s.a ∧ s3 = .int .i64 s.b ∧ s4 = .int .i64 s.aa ∧ s5 = .int .i64 s.bb ∧ s6 = .int .i64 s.ab ∧ wr = v2.drewN d) (fun _ _ _ _ _ _ yy _ => y0 + rows - (intOf yy).toNat)
    case atStart => exact ⟨0, 0, Acc.zero, Nat.zero_le _, rfl, rfl, rfl, rfl, rfl, rfl, rfl, rfl, rfl⟩
    case round =>
      obtain ⟨j, d, s, hj, rfl, hs, rfl, rfl, rfl, rfl, rfl, rfl, rfl⟩ := hrel
      by_cases hlt : j < rows
      · have hyj : y0 + j < H := by omega
        go_wp2_with fail
        go_loopw [11, 12, 13, 14, 15, 16, 18] (fun s1 s2 s3 s4 s5 s6 xx wr => ∃ (k d : Nat) (t : Acc), k ≤ cols ∧ xx = .int .i64 ((x0 + k : Nat) : Int) ∧ Hid (t = rowS l l2 W C c s (y0 + j) x0 k) ∧ s1 = .int .i64 t.n ∧ s2 = .int .i64 t.a ∧ s3 = .int .i64 t.b ∧ s4 = .int .i64 t.aa ∧ s5 = .int .i64 t.bb ∧ s6 = .int .i64 t.ab ∧ wr = v2.drewN d) (fun _ _ _ _ _ _ xx _ => x0 + cols - (intOf xx).toNat)
        case atStart => exact ⟨0, _, s, Nat.zero_le _, rfl, rfl, rfl, rfl, rfl, rfl, rfl, rfl, rfl⟩
        case round =>
          obtain ⟨k, d2, t, hk, rfl, ht, rfl, rfl, rfl, rfl, rfl, rfl, rfl⟩ := hrel
          by_cases hlk : k < cols
          · have hxk : x0 + k < W := by omega
            have n1 : 0 ≤ ((y0 : Int) + (j : Int)) * (W : Int) := Int.mul_nonneg (by omega) (by omega)
            have n2 : ((y0 : Int) + (j : Int)) * (W : Int) ≤ 65535 * 65535 := Int.mul_le_mul (by omega) (by omega) (by omega) (by omega)
            have n3 : 0 ≤ (((y0 : Int) + (j : Int)) * (W : Int) + ((x0 : Int) + (k : Int))) * (C : Int) := Int.mul_nonneg (by omega) (by omega)
            have n4 : (((y0 : Int) + (j : Int)) * (W : Int) + ((x0 : Int) + (k : Int))) * (C : Int) ≤ 4294901760 * 4 := Int.mul_le_mul (by omega) (by omega) (by omega) (by omega)
            have hat : Hid ((((y0 : Int) + (j : Int)) * (W : Int) + ((x0 : Int) + (k : Int))) * (C : Int) + (c : Int) = ((atP W C c (y0 + j) (x0 + k) : Nat) : Int)) := by unfold Hid atP; push_cast; rfl
            go_upto_region 9 with (fail)
            rw [hat.out]
            have hlt1 := atP_lt (C := C) hyj hxk hc
            rw [← HD.out.n] at hlt1
            have hlt2 : atP W C c (y0 + j) (x0 + k) < l2.length := by have := HN.out; omega
            obtain ⟨ad', e', q1⟩ := (HR.out.no O2.out).at_ hpos (byC_get hlt1)
            obtain rfl : ad = ad' := by simpa using e'
            obtain ⟨ad', e', q2⟩ := (HR2.out.no O2.out).at_ (by omega) (byC_get hlt2)
            obtain rfl : ad2 = ad' := by simpa using e'
            have hX := HB.out.at_ (atP W C c (y0 + j) (x0 + k))
            have hY := HB2.out.at_ (atP W C c (y0 + j) (x0 + k))
            have hnext : Hid (rowS l l2 W C c s (y0 + j) x0 (k + 1) = (rowS l l2 W C c s (y0 + j) x0 k).add (l.getD (atP W C c (y0 + j) (x0 + k)) 0) (l2.getD (atP W C c (y0 + j) (x0 + k)) 0)) := rfl
            obtain ⟨tok, tn⟩ := rowS_ok (W := W) (C := C) (c := c) HB.out HB2.out (tileS_ok (W := W) (C := C) (c := c) HB.out HB2.out y0 x0 cols j).1 (y0 + j) x0 k
            rw [(tileS_ok (W := W) (C := C) (c := c) HB.out HB2.out y0 x0 cols j).2, ← hs.out, ← ht.out] at tn
            rw [← hs.out, ← ht.out] at tok
            have tjc : j * cols ≤ 8 * 8 := Nat.mul_le_mul (by omega) hc8.1
            have tn72 : t.n ≤ 72 := by omega
            have t1 := tok.la
            have t2 := tok.lb
            have t3 := tok.laa
            have t4 := tok.lbb
            have t5 := tok.lab
            replace tn := Lib.hid tn
            replace tok := Lib.hid tok
            have iw1 : ((atP W C c (y0 + j) (x0 + k) : Nat) : Int) < (l.length : Int) := by omega
            have iw2 : ((atP W C c (y0 + j) (x0 + k) : Nat) : Int) < (l2.length : Int) := by omega
            have iw3 : (0 : Int) ≤ ((atP W C c (y0 + j) (x0 + k) : Nat) : Int) := by omega
            clear hat
            generalize l.getD (atP W C c (y0 + j) (x0 + k)) 0 = x at *
            generalize l2.getD (atP W C c (y0 + j) (x0 + k)) 0 = y at *
            generalize atP W C c (y0 + j) (x0 + k) = at_ at *
            have s1 : (x : Int) * (x : Int) ≤ 255 * 255 := Int.mul_le_mul (by omega) (by omega) (by omega) (by omega)
            have s2 : (y : Int) * (y : Int) ≤ 255 * 255 := Int.mul_le_mul (by omega) (by omega) (by omega) (by omega)
            have s3 : (x : Int) * (y : Int) ≤ 255 * 255 := Int.mul_le_mul (by omega) (by omega) (by omega) (by omega)
            have s4 : 0 ≤ (x : Int) * (x : Int) := Int.mul_nonneg (by omega) (by omega)
            have s5 : 0 ≤ (y : Int) * (y : Int) := Int.mul_nonneg (by omega) (by omega)
            have s6 : 0 ≤ (x : Int) * (y : Int) := Int.mul_nonneg (by omega) (by omega)
            go_quiet (fail)
            go_wp2_with fail
            go_roundw
            case rel => exact ⟨k + 1, _, t.add x y, by omega, by go_num, by unfold Hid; rw [hnext.out, ← ht.out], by simp [Acc.add], by simp [Acc.add], by simp [Acc.add], by simp [Acc.add], by simp [Acc.add], by simp [Acc.add], by first | rfl | rw [World.drewN_drewN]⟩
            case measure => simp [intOf]; omega
          · obtain rfl : k = cols := by omega
            go_wp2_with fail
            go_roundw
            case rel => exact ⟨j + 1, _, t, by omega, by go_num, by rw [ht.out, hs.out]; rfl, rfl, rfl, rfl, rfl, rfl, rfl, rfl⟩
            case measure => simp [intOf]; omega
      · obtain rfl : j = rows := by omega
        obtain rfl : s = S := by rw [hs.out, HS.out]
        go_wp2_with fail
        go_ret
        exact ⟨rfl, O2.out.drewN _⟩
end Go.Proofs.Ytfaciljklligeaa.Ct
