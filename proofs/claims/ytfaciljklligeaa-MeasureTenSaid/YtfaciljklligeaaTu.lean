/- The document's tile: the walk. -/
import Derived.Test.YtfaciljklligeaaTt
import Derived.Laws.ResultCell
namespace Go.Proofs.Ytfaciljklligeaa.Ct
open Go.ChangeShapes Go.WideShapes Go.RowKit Mm
def accV (s : Acc) : Array Value := sumsV s.n s.a s.b s.aa s.bb s.ab
def four (w : World) (ca cb : Array Value) : World := (((w.alloc (.cells ca 32)).alloc (.cells cb 32)).alloc (.cells #[.int .i64 0, .int .i64 0, .int .i64 0, .int .i64 0, .int .i64 0, .int .i64 0] 56)).alloc (.cells #[.int .i64 0, .int .i64 0, .int .i64 0, .int .i64 0, .int .i64 0, .int .i64 0] 56)
theorem blk_newM (w : World) (n : Nat) (h : w.heap.size = n) (t : TypeId) (cs : Array Value) : Blk (w.alloc (.cells cs t)) n t cs := by subst h; exact Blk.new w t cs
theorem four_facts (w : World) (ca cb : Array Value) : Only No w (four w ca cb) ∧ Blk (four w ca cb) w.heap.size 32 ca ∧ Blk (four w ca cb) (w.heap.size + 1) 32 cb ∧ Blk (four w ca cb) (w.heap.size + 1 + 1) 56 (accV Acc.zero) ∧ Blk (four w ca cb) (w.heap.size + 1 + 1 + 1) 56 (accV Acc.zero) := by
  unfold four
  exact ⟨((((Only.refl No w).alloc _).alloc _).alloc _).alloc _, (((Blk.new w 32 ca).alloc _).alloc _).alloc _, ((blk_newM (w.alloc _) _ (by simp) 32 cb).alloc _).alloc _, (blk_newM ((w.alloc _).alloc _) _ (by simp) 56 _).alloc _, blk_newM (((w.alloc _).alloc _).alloc _) _ (by simp) 56 _⟩
theorem cells6 {w : World} {g : Nat} {t : TypeId} {v0 v1 v2 v3 v4 v5 : Value} (h : Blk w g t #[v0, v1, v2, v3, v4, v5]) :
    w.cell? ⟨g, 0, none⟩ = some v0 ∧ w.cell? ⟨g, 1, none⟩ = some v1 ∧ w.cell? ⟨g, 2, none⟩ = some v2 ∧ w.cell? ⟨g, 3, none⟩ = some v3 ∧ w.cell? ⟨g, 4, none⟩ = some v4 ∧ w.cell? ⟨g, 5, none⟩ = some v5 := by
  refine ⟨?_, ?_, ?_, ?_, ?_, ?_⟩ <;> rw [h.cell] <;> rfl
/-- six cells stored -/
theorem acc_set {w : World} {g : Nat} {a0 a1 a2 a3 a4 a5 : Value} (h : Blk w g 56 #[a0, a1, a2, a3, a4, a5]) (v0 v1 v2 v3 v4 v5 : Value) :
    Blk ((((((w.setCell ⟨g, 0, none⟩ v0).setCell ⟨g, 1, none⟩ v1).setCell ⟨g, 2, none⟩ v2).setCell ⟨g, 3, none⟩ v3).setCell ⟨g, 4, none⟩ v4).setCell ⟨g, 5, none⟩ v5) g 56 #[v0, v1, v2, v3, v4, v5] := by
  have h0 : Blk _ g 56 #[v0, a1, a2, a3, a4, a5] := h.set 0 v0
  have h1 : Blk _ g 56 #[v0, v1, a2, a3, a4, a5] := h0.set 1 v1
  have h2 : Blk _ g 56 #[v0, v1, v2, a3, a4, a5] := h1.set 2 v2
  have h3 : Blk _ g 56 #[v0, v1, v2, v3, a4, a5] := h2.set 3 v3
  have h4 : Blk _ g 56 #[v0, v1, v2, v3, v4, a5] := h3.set 4 v4
  have h5 : Blk _ g 56 #[v0, v1, v2, v3, v4, v5] := h4.set 5 v5
  exact h5
theorem only_set6 {S : Nat → Prop} {w : World} {g : Nat} (hg : S g) (v0 v1 v2 v3 v4 v5 : Value) :
    Only S w ((((((w.setCell ⟨g, 0, none⟩ v0).setCell ⟨g, 1, none⟩ v1).setCell ⟨g, 2, none⟩ v2).setCell ⟨g, 3, none⟩ v3).setCell ⟨g, 4, none⟩ v4).setCell ⟨g, 5, none⟩ v5) :=
  ((((((Only.refl S w).setCell (p := ⟨g, 0, none⟩) (.inl hg) v0).setCell (p := ⟨g, 1, none⟩) (.inl hg) v1).setCell (p := ⟨g, 2, none⟩) (.inl hg) v2).setCell (p := ⟨g, 3, none⟩) (.inl hg) v3).setCell (p := ⟨g, 4, none⟩) (.inl hg) v4).setCell (p := ⟨g, 5, none⟩) (.inl hg) v5
set_option maxHeartbeats 3200000 in
set_option maxRecDepth 100000 in
theorem rtile42 (w : World) (W H C : Nat) (A : Option Addr) (k1 : Nat) (l : List Nat) (A2 : Option Addr) (k2 : Nat) (l2 : List Nat) (hD : Dims W H C l.length) (hn : l.length = l2.length) (hr : Rds w 1 A l.length (byC l)) (hr2 : Rds w 1 A2 l2.length (byC l2)) (hb : Byts l) (hb2 : Byts l2)
    (c x0 y0 : Nat) (hc : c < C) (hx : x0 < W) (hy : y0 < H) (rows cols : Nat) (xi yj : Nat) (hxi : x0 = 8 * xi) (hyj8 : y0 = 8 * yj) (hrows : y0 + rows = min (y0 + 8) H) (hcols : x0 + cols = min (x0 + 8) W) :
    Calls Try.prog 42 #[imgV W H C A l.length k1, imgV W H C A2 l2.length k2, .int .i64 c, .int .i64 xi, .int .i64 yj] w fun e w' => e = .returned (.agg (accV (tileS l l2 W C c y0 x0 cols rows))) ∧ Only No w w' := by
  have hpos : 0 < l.length := by
    rw [hD.n]; exact Nat.mul_pos (Nat.mul_pos hD.w1 hD.h1) hD.c1
  obtain ⟨ad, rfl, _, _⟩ := hr.2 hpos
  obtain ⟨ad2, rfl, _, _⟩ := hr2.2 (by omega)
  have hr8 : rows ≤ 8 ∧ 1 ≤ rows := by omega
  have hc8 : cols ≤ 8 ∧ 1 ≤ cols := by omega
  have hrc : rows * cols ≤ 8 * 8 := Nat.mul_le_mul hr8.1 hc8.1
  have hrc1 : 1 * 1 ≤ rows * cols := Nat.mul_le_mul hr8.2 hc8.2
  subst hxi hyj8
  obtain ⟨S, hS⟩ : ∃ S, S = tileS l l2 W C c (8 * yj) (8 * xi) cols rows := ⟨_, rfl⟩
  rw [← hS]
  have HS := Lib.hid hS
  clear hS hrc hrc1
  have HR := Lib.hid hr
  have HR2 := Lib.hid hr2
  have HN := Lib.hid hn
  have hw := hD.w2
  have hh := hD.h2
  have hcc := hD.c2
  have HD := Lib.hid hD
  have HB := Lib.hid hb
  have HB2 := Lib.hid hb2
  clear hr hr2 hn hD hb hb2
  unfold imgV imgA
  have hcasey : ((8 * yj : Int) + 8 ≤ (H : Int) ∧ 8 ≤ rows) ∨ ((H : Int) < (8 * yj : Int) + 8 ∧ H ≤ 8 * yj + rows) := by omega
  have hcasex : ((8 * xi : Int) + 8 ≤ (W : Int) ∧ 8 ≤ cols) ∨ ((W : Int) < (8 * xi : Int) + 8 ∧ W ≤ 8 * xi + cols) := by omega
  have hyr1 : 8 * yj + rows ≤ H := by omega
  have hxr1 : 8 * xi + cols ≤ W := by omega
  replace hrows := Lib.hid hrows
  replace hcols := Lib.hid hcols
  rcases hcasey with ⟨hy8, hyr⟩ | ⟨hy8, hyr⟩ <;> rcases hcasex with ⟨hx8, hxr⟩ | ⟨hx8, hxr⟩
  all_goals
    go_enter Try.func42, Try.ntmps42
    go_wp2_with fail
    obtain ⟨o2, b1', b2', b3', b4'⟩ := four_facts w #[.int .i64 W, .int .i64 H, .int .i64 C, .slice (some ad) l.length k1] #[.int .i64 W, .int .i64 H, .int .i64 C, .slice (some ad2) l2.length k2]
    rw [show (((w.alloc (Obj.cells #[.int .i64 W, .int .i64 H, .int .i64 C, .slice (some ad) l.length k1] 32)).alloc (Obj.cells #[.int .i64 W, .int .i64 H, .int .i64 C, .slice (some ad2) l2.length k2] 32)).alloc (.cells #[.int .i64 0, .int .i64 0, .int .i64 0, .int .i64 0, .int .i64 0, .int .i64 0] 56)).alloc (.cells #[.int .i64 0, .int .i64 0, .int .i64 0, .int .i64 0, .int .i64 0, .int .i64 0] 56) = four w #[.int .i64 W, .int .i64 H, .int .i64 C, .slice (some ad) l.length k1] #[.int .i64 W, .int .i64 H, .int .i64 C, .slice (some ad2) l2.length k2] from rfl]
    generalize four w #[.int .i64 W, .int .i64 H, .int .i64 C, .slice (some ad) l.length k1] #[.int .i64 W, .int .i64 H, .int .i64 C, .slice (some ad2) l2.length k2] = v2 at *
    have B1 := Lib.hid b1'
    have B2 := Lib.hid b2'
    have B3 := Lib.hid b3'
    have B4 := Lib.hid b4'
    have O2 := Lib.hid o2
    clear b1' b2' b3' b4' o2
    generalize hN0 : w.heap.size = N at *
    replace hN0 := Lib.hid hN0
    go_loopw [12] (fun yy wr => ∃ (j : Nat) (s : Acc), j ≤ rows ∧ yy = .int .i64 ((8 * yj + j : Nat) : Int) ∧ Hid (s = tileS l l2 W C c (8 * yj) (8 * xi) cols j) ∧ Hid (Blk wr (N + 1 + 1 + 1) 56 (accV s)) ∧ Hid (Only (Mm.One (N + 1 + 1 + 1)) v2 wr)) (fun yy _ => 8 * yj + rows - (intOf yy).toNat)
    case atStart => exact ⟨0, Acc.zero, Nat.zero_le _, by simp, rfl, B4, Only.refl _ _⟩
    case round =>
      obtain ⟨j, s, hj, rfl, hs, hB, hO⟩ := hrel
      obtain ⟨j0, j1, j2, j3⟩ := cells4 (B1.out.only hO.out (show ¬ N = N + 1 + 1 + 1 by omega))
      by_cases hlt : j < rows
      · have hyj : 8 * yj + j < H := by omega
        have dy : decide (8 * (yj : Int) + (j : Int) < (H : Int)) = true := decide_eq_true (by omega)
        go_wp2_with fail
        go_loopw [13] (fun xx wr => ∃ (k : Nat) (t : Acc), k ≤ cols ∧ xx = .int .i64 ((8 * xi + k : Nat) : Int) ∧ Hid (t = rowS l l2 W C c s (8 * yj + j) (8 * xi) k) ∧ Hid (Blk wr (N + 1 + 1 + 1) 56 (accV t)) ∧ Hid (Only (Mm.One (N + 1 + 1 + 1)) v2 wr)) (fun xx _ => 8 * xi + cols - (intOf xx).toNat)
        case atStart => exact ⟨0, s, Nat.zero_le _, by simp, rfl, hB, hO⟩
        case round =>
          clear hO hB j0 j1 j2 j3
          obtain ⟨k, t, hk, rfl, ht, hB, hO⟩ := hrel
          obtain ⟨j0, j1, j2, j3⟩ := cells4 (B1.out.only hO.out (show ¬ N = N + 1 + 1 + 1 by omega))
          obtain ⟨_, _, _, i3⟩ := cells4 (B2.out.only hO.out (show ¬ N + 1 = N + 1 + 1 + 1 by omega))
          by_cases hlk : k < cols
          · have hxk : 8 * xi + k < W := by omega
            have n1 : 0 ≤ (8 * (yj : Int) + (j : Int)) * (W : Int) := Int.mul_nonneg (by omega) (by omega)
            have n2 : (8 * (yj : Int) + (j : Int)) * (W : Int) ≤ 65535 * 65535 := Int.mul_le_mul (by omega) (by omega) (by omega) (by omega)
            have n3 : 0 ≤ ((8 * (yj : Int) + (j : Int)) * (W : Int) + (8 * (xi : Int) + (k : Int))) * (C : Int) := Int.mul_nonneg (by omega) (by omega)
            have n4 : ((8 * (yj : Int) + (j : Int)) * (W : Int) + (8 * (xi : Int) + (k : Int))) * (C : Int) ≤ 4294901760 * 4 := Int.mul_le_mul (by omega) (by omega) (by omega) (by omega)
            have hat : Hid (((8 * (yj : Int) + (j : Int)) * (W : Int) + (8 * (xi : Int) + (k : Int))) * (C : Int) + (c : Int) = ((atP W C c (8 * yj + j) (8 * xi + k) : Nat) : Int)) := by unfold Hid atP; push_cast; rfl
            have dx : decide (8 * (xi : Int) + (k : Int) < (W : Int)) = true := decide_eq_true (by omega)
            go_upto_region 9 with (fail)
            rw [hat.out]
            --STOP1
            have hlt1 := atP_lt (C := C) hyj hxk hc
            rw [← HD.out.n] at hlt1
            have hlt2 : atP W C c (8 * yj + j) (8 * xi + k) < l2.length := by have := HN.out; omega
            have hF : ∀ a : Addr, a.block < w.heap.size → ¬ (Mm.One (N + 1 + 1 + 1)) a.block := fun a ha h => by have := hN0.out; have : a.block = N + 1 + 1 + 1 := h; omega
            have far1 : ad.block < w.heap.size := by obtain ⟨x, e, h, _⟩ := HR.out.2 hpos; cases e; exact h
            have far2 : ad2.block < w.heap.size := by obtain ⟨x, e, h, _⟩ := HR2.out.2 (by omega); cases e; exact h
            obtain ⟨ad', e', q1⟩ := ((HR.out.no O2.out).only hO.out (fun _ x e => by cases e; exact hF _ far1)).at_ hpos (byC_get hlt1)
            obtain rfl : ad = ad' := by simpa using e'
            obtain ⟨ad', e', q2⟩ := ((HR2.out.no O2.out).only hO.out (fun _ x e => by cases e; exact hF _ far2)).at_ (by omega) (byC_get hlt2)
            obtain rfl : ad2 = ad' := by simpa using e'
            clear hF far1 far2
            have hX := HB.out.at_ (atP W C c (8 * yj + j) (8 * xi + k))
            have hY := HB2.out.at_ (atP W C c (8 * yj + j) (8 * xi + k))
            have hnext : Hid (rowS l l2 W C c s (8 * yj + j) (8 * xi) (k + 1) = (rowS l l2 W C c s (8 * yj + j) (8 * xi) k).add (l.getD (atP W C c (8 * yj + j) (8 * xi + k)) 0) (l2.getD (atP W C c (8 * yj + j) (8 * xi + k)) 0)) := rfl
            obtain ⟨tok, tn⟩ := rowS_ok (W := W) (C := C) (c := c) HB.out HB2.out (tileS_ok (W := W) (C := C) (c := c) HB.out HB2.out (8 * yj) (8 * xi) cols j).1 (8 * yj + j) (8 * xi) k
            rw [(tileS_ok (W := W) (C := C) (c := c) HB.out HB2.out (8 * yj) (8 * xi) cols j).2, ← hs.out, ← ht.out] at tn
            rw [← hs.out, ← ht.out] at tok
            have tjc : j * cols ≤ 8 * 8 := Nat.mul_le_mul (by omega) hc8.1
            have tn72 : t.n ≤ 72 := by omega
            have t1 := tok.la
            have t2 := tok.lb
            have t3 := tok.laa
            have t4 := tok.lbb
            have t5 := tok.lab
            replace tn := Lib.hid tn
            replace tok := Lib.hid tok
            have iw1 : ((atP W C c (8 * yj + j) (8 * xi + k) : Nat) : Int) < (l.length : Int) := by omega
            have iw2 : ((atP W C c (8 * yj + j) (8 * xi + k) : Nat) : Int) < (l2.length : Int) := by omega
            have iw3 : (0 : Int) ≤ ((atP W C c (8 * yj + j) (8 * xi + k) : Nat) : Int) := by omega
            clear hat
            generalize l.getD (atP W C c (8 * yj + j) (8 * xi + k)) 0 = x at *
            generalize l2.getD (atP W C c (8 * yj + j) (8 * xi + k)) 0 = y at *
            generalize atP W C c (8 * yj + j) (8 * xi + k) = at_ at *
            have s1 : (x : Int) * (x : Int) ≤ 255 * 255 := Int.mul_le_mul (by omega) (by omega) (by omega) (by omega)
            have s2 : (y : Int) * (y : Int) ≤ 255 * 255 := Int.mul_le_mul (by omega) (by omega) (by omega) (by omega)
            have s3 : (x : Int) * (y : Int) ≤ 255 * 255 := Int.mul_le_mul (by omega) (by omega) (by omega) (by omega)
            have s4 : 0 ≤ (x : Int) * (x : Int) := Int.mul_nonneg (by omega) (by omega)
            have s5 : 0 ≤ (y : Int) * (y : Int) := Int.mul_nonneg (by omega) (by omega)
            have s6 : 0 ≤ (x : Int) * (y : Int) := Int.mul_nonneg (by omega) (by omega)
            --STOP2
            obtain ⟨m0, m1, m2, m3, m4, m5⟩ := cells6 (show Blk _ _ _ #[_, _, _, _, _, _] from hB.out)
            have fz0 := hB.out.frozen 0
            have fz1 := hB.out.frozen 1
            have fz2 := hB.out.frozen 2
            have fz3 := hB.out.frozen 3
            have fz4 := hB.out.frozen 4
            have fz5 := hB.out.frozen 5
            --STOP3
            go_upto_region 12 with (fail)
            --STOP4
            go_wp2_with fail
            --STOP5
            go_roundw
            case rel => exact ⟨k + 1, t.add x y, by omega, by go_num, by unfold Hid; rw [hnext.out, ← ht.out], by
              have h := acc_set (show Blk _ _ _ #[_, _, _, _, _, _] from hB.out) (.int .i64 ((t.n : Int) + 1)) (.int .i64 ((t.a : Int) + x)) (.int .i64 ((t.b : Int) + y)) (.int .i64 ((t.aa : Int) + x * x)) (.int .i64 ((t.bb : Int) + y * y)) (.int .i64 ((t.ab : Int) + x * y))
              unfold Hid
              have e : accV (t.add x y) = #[.int .i64 ((t.n : Int) + 1), .int .i64 ((t.a : Int) + x), .int .i64 ((t.b : Int) + y), .int .i64 ((t.aa : Int) + x * x), .int .i64 ((t.bb : Int) + y * y), .int .i64 ((t.ab : Int) + x * y)] := by
                unfold accV sumsV Acc.add; push_cast; rfl
              rw [e]
              exact h, hO.out.trans (only_set6 (S := Mm.One (N + 1 + 1 + 1)) rfl _ _ _ _ _ _)⟩
            case measure => simp [intOf]; omega
          · obtain rfl : k = cols := by omega
            go_wp2_with fail
            go_roundw
            case rel => exact ⟨j + 1, t, by omega, by go_num, by rw [ht.out, hs.out]; rfl, hB, hO⟩
            case measure => simp [intOf]; omega
      · obtain rfl : j = rows := by omega
        obtain rfl : s = S := by rw [hs.out, HS.out]
        obtain ⟨m0, m1, m2, m3, m4, m5⟩ := cells6 (show Blk _ _ _ #[_, _, _, _, _, _] from hB.out)
        have B3w := B3.out.only hO.out (show ¬ N + 1 + 1 = N + 1 + 1 + 1 by omega)
        obtain ⟨p0, p1, p2, p3, p4, p5⟩ := cells6 (show Blk _ _ _ #[_, _, _, _, _, _] from B3w)
        have fz0 := B3w.frozen 0
        have fz1 := B3w.frozen 1
        have fz2 := B3w.frozen 2
        have fz3 := B3w.frozen 3
        have fz4 := B3w.frozen 4
        have fz5 := B3w.frozen 5
        replace B3w := Lib.hid B3w
        go_wp2_with fail
        have hsz := hN0.out
        refine bodyPost_ret (v := .agg (accV s)) ?_ rfl ⟨rfl, (O2.out.then hO.out (fun i h => .inr (by have : i = N + 1 + 1 + 1 := h; omega))).then (only_set6 (S := Mm.One (N + 1 + 1)) rfl _ _ _ _ _ _) (fun i h => .inr (by have : i = N + 1 + 1 := h; omega))⟩
        unfold accV sumsV
        simp only [results, show Try.f42.results = #[.cell 10 56] from rfl]
        go_simp
end Go.Proofs.Ytfaciljklligeaa.Ct
