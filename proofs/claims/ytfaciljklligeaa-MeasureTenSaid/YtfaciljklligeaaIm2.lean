/- The law's image. -/
import Derived.Test.YtfaciljklligeaaRd
namespace Go.Proofs.Ytfaciljklligeaa.Ct
open Go.ChangeShapes Go.WideShapes Go.RowKit Mm
/-- an image of some bytes -/
def ImgPost (w : World) (W H C : Nat) (e : Ending) (w' : World) : Prop :=
  ∃ A c px, e = .returned (imgV W H C A (W * H * C) c) ∧ px.length = W * H * C ∧ Byts px ∧ w'.ownsRow w.heap.size 5 1 (.slice A (W * H * C) c) (W * H * C) (byC px) ∧ Only No w w'
theorem byte_of (z : Int) : ∃ y : Nat, y ≤ 255 ∧ z % 256 = (y : Int) := ⟨(z % 256).toNat, by omega, by omega⟩
set_option maxHeartbeats 1600000 in
theorem image32 (w : World) (a b k : Int) (A : Option Addr) (c : Nat) (l : List Nat) (m : Int) (W H C : Nat) (hW : (W : Int) = 1 + roundP a 20) (hH : (H : Int) = 1 + roundP b 20) (hC : (C : Int) = 1 + roundP k 4) (hr : Rds w 1 A l.length (byC l)) (hl : l.length ≤ 140737488351232) (hb : Byts l) :
    Calls Try.prog 32 #[.int .i64 a, .int .i64 b, .int .i64 k, .slice A l.length c, .int .i64 m] w (ImgPost w W H C) := by
  obtain ⟨i0, hinf, hz0, hz1, hz2⟩ := info_parts info5
  have r1 := roundP_bounds a (n := 20) (by omega)
  have r2 := roundP_bounds b (n := 20) (by omega)
  have r3 := roundP_bounds k (n := 4) (by omega)
  have h1 := fun w => round50 w a 20 (by omega) (by omega)
  have h2 := fun w => round50 w b 20 (by omega) (by omega)
  have h3 := fun w => round50 w k 4 (by omega) (by omega)
  generalize roundP a 20 = ra at *
  generalize roundP b 20 = rb at *
  generalize roundP k 4 = rc at *
  obtain rfl : ra = (W : Int) - 1 := by omega
  obtain rfl : rb = (H : Int) - 1 := by omega
  obtain rfl : rc = (C : Int) - 1 := by omega
  have e1 : wrap64 (1 + ((W : Int) - 1)) = W := by rw [show 1 + ((W : Int) - 1) = W by omega]; exact IntWalk.wrap64_in _ (by omega)
  have e2 : wrap64 (1 + ((H : Int) - 1)) = H := by rw [show 1 + ((H : Int) - 1) = H by omega]; exact IntWalk.wrap64_in _ (by omega)
  have e3 : wrap64 (1 + ((C : Int) - 1)) = C := by rw [show 1 + ((C : Int) - 1) = C by omega]; exact IntWalk.wrap64_in _ (by omega)
  have HR := Lib.hid hr
  have HB := Lib.hid hb
  clear hb hr hW hH hC
  replace h1 := Lib.hid h1
  replace h2 := Lib.hid h2
  replace h3 := Lib.hid h3
  go_enter Try.func32, Try.ntmps32
  go_wp2_with fail
  refine (h1.out _).mono ?_
  rintro e w1 ⟨rfl, rfl⟩
  go_wp2_with fail
  refine (h2.out _).mono ?_
  rintro e w1 ⟨rfl, rfl⟩
  go_wp2_with fail
  refine (h3.out _).mono ?_
  rintro e w1 ⟨rfl, rfl⟩
  go_wp2_with fail
  rw [show (1 : Int) + ((W : Int) - 1) = W by omega, show (1 : Int) + ((H : Int) - 1) = H by omega, show (1 : Int) + ((C : Int) - 1) = C by omega]
  obtain ⟨b1, b2, o2⟩ := boxes w #[.int .i64 0, .int .i64 0, .int .i64 0, .slice none 0 0] #[.int .i64 W, .int .i64 H, .int .i64 C, .slice none 0 0]
  have z2 : ((w.alloc (Obj.cells #[.int .i64 0, .int .i64 0, .int .i64 0, .slice none 0 0] 32)).alloc (Obj.cells #[.int .i64 W, .int .i64 H, .int .i64 C, .slice none 0 0] 32)).heap.size = w.heap.size + 2 := by simp
  generalize ((w.alloc (Obj.cells #[.int .i64 0, .int .i64 0, .int .i64 0, .slice none 0 0] 32)).alloc (Obj.cells #[.int .i64 W, .int .i64 H, .int .i64 C, .slice none 0 0] 32)) = w2 at *
  have B1 := Lib.hid b1
  have B2 := Lib.hid b2
  have O2 := Lib.hid o2
  have Z2 := Lib.hid z2
  obtain ⟨P, hP⟩ : ∃ P, W * H = P := ⟨_, rfl⟩
  obtain ⟨N, hN⟩ : ∃ N, P * C = N := ⟨_, rfl⟩
  have hfin : Hid (W * H * C = N) := by rw [hP]; exact hN
  have n1 : P ≤ 400 := hP ▸ Nat.le_trans (Nat.mul_le_mul (show W ≤ 20 by omega) (show H ≤ 20 by omega)) (by omega)
  have n2 : N ≤ 1600 := hN ▸ Nat.le_trans (Nat.mul_le_mul n1 (show C ≤ 4 by omega)) (by omega)
  have m1 : wrap64 ((W : Int) * (H : Int)) = (P : Int) := by rw [← Int.natCast_mul, hP]; exact IntWalk.wrap64_in _ (by omega)
  have m2 : wrap64 ((P : Int) * (C : Int)) = (N : Int) := by rw [← Int.natCast_mul, hN]; exact IntWalk.wrap64_in _ (by omega)
  clear b1 b2 o2 z2 h1 h2 h3 hN hP r1 r2 r3 e1 e2 e3 n1
  have hw := Lib.hid byte_of
  go_loopw [12, 13] (fun iv _ wr => ∃ (j : Nat) (px : List Nat) (A' : Option Addr) (c' : Nat), j ≤ N ∧ iv = .int .i64 j ∧ Hid (px.length = j) ∧ Hid (Byts px) ∧ Hid (Blk wr w.heap.size 32 #[.int .i64 0, .int .i64 0, .int .i64 0, .slice none 0 0]) ∧ Hid (Blk wr (w.heap.size + 1) 32 #[.int .i64 W, .int .i64 H, .int .i64 C, .slice A' j c']) ∧ Hid (wr.ownsRow (w.heap.size + 2) 5 1 (.slice A' j c') j (byC px)) ∧ Hid (Only No w wr)) (fun iv _ _ => N - (intOf iv).toNat)
  case atStart => exact ⟨0, [], none, 0, by omega, rfl, rfl, (fun x hx => by simp at hx), B1, B2, World.ownsRow_nil _ _ _ _, O2⟩
  case round =>
    clear B1 B2 O2
    obtain ⟨j, px, A', c', hj, rfl, hpx, hby, B1, B2, own, hO⟩ := hrel
    obtain ⟨x0, x1, x2, x3⟩ := cells4 B2.out
    have hsz : w.heap.size + 2 ≤ wr.heap.size := by have := B2.out.lt; omega
    by_cases hlt : j < N
    · have g3 := B2.out.frozen 3
      by_cases hl0 : l.length = 0
      · have k0 : decide (0 < l.length) = false := decide_eq_false (by omega)
        clear hl0
        obtain ⟨y, hy, ey⟩ := hw.out (wrap64 ((j : Int) * m))
        go_wp2_with (at_builtin; refine wpList_append_own _ rfl _ _ 30 rfl (w.heap.size + 2) 5 i0 (.int .u8 0) 1 1 Try.underlying30 hinf hz0 hz1 hz2 rfl (by decide) _ _ _ rfl (own.out.alloc _) ⟨wr.heap.size, 0, none⟩ 1 1 [.int .u8 y] rfl rfl ?c1 ?c2 ?c3 ?c4 ?c5 ?_)
        case c1 => exact cell_one_new _ _ _
        case c2 => intro u hu; simp at hu; subst hu; rfl
        case c3 => unfold maxLen; omega
        case c4 => omega
        case c5 => simp; omega
        intro v' w1 hown' hgrow _
        have oN := Only.of_grown hgrow
        have hne : ∀ i, i < w.heap.size + 2 → ¬ (Value.slice A' j c').ownBlock = some i := fun i hi h => by have := own_ge own.out i h; omega
        replace B1 := Lib.hid ((B1.out.alloc _).only oN (hne _ (by omega)))
        have C2 := (B2.out.alloc (.cells #[Value.int .u8 (y : Int)] 5)).only oN (hne _ (by omega))
        have hO1 : Hid (Only No w w1) := Lib.hid ((hO.out.alloc _).then oN (fun i hi => .inr (by have := own_ge own.out i hi; omega)))
        have hown1 := Lib.hid hown'
        clear hown' hgrow own x0 x1 x2 x3 oN hne
        obtain ⟨A2, c2, rfl⟩ := own_slice hown1.out
        obtain ⟨x0, x1, x2, x3⟩ := cells4 C2
        replace g3 := C2.frozen 3
        replace B2 := Lib.hid C2
        clear C2
        go_wp2_with fail
        have o2 : Only (One (w.heap.size + 1)) w1 (w1.setCell ⟨w.heap.size + 1, 3, none⟩ (.slice A2 (j + 1) c2)) := (Only.refl (One (w.heap.size + 1)) w1).setCell (p := ⟨w.heap.size + 1, 3, none⟩) (.inl rfl) _
        go_roundw
        case rel => exact ⟨j + 1, px ++ [y], A2, c2, by omega, by go_num, Lib.hid (by have := hpx.out; simp; omega), Lib.hid (by
            intro b hb
            rcases List.mem_append.1 hb with hb | hb
            · exact hby.out b hb
            · simp at hb; omega), Lib.hid (B1.out.only o2 (fun h => by have h : w.heap.size = w.heap.size + 1 := h; omega)), Lib.hid (B2.out.set 3 _), Lib.hid (by
            have := own_only hown1.out o2 (fun i hi h => by have h : i = w.heap.size + 1 := h; have := own_ge hown1.out i hi; omega)
            unfold byC at *
            rw [List.map_append]
            exact this), Lib.hid (hO1.out.then o2 (fun i h => .inr (by have h : i = w.heap.size + 1 := h; omega)))⟩
        case measure => simp [intOf]; omega
      · have k0 : decide (0 < l.length) = true := decide_eq_true (by omega)
        have k1 : (0 : Int) < (l.length : Int) := by omega
        have k2 : ¬ (l.length : Int) = 0 := by omega
        have hm := Nat.mod_lt j (show 0 < l.length by omega)
        obtain ⟨ad, rfl, q1⟩ := (HR.out.no hO.out).at_ (i := j % l.length) (by omega) (byC_get hm)
        have q2 := HB.out.at_ (j % l.length)
        generalize hx : l.getD (j % l.length) 0 = x at *
        obtain ⟨y, hy, ey⟩ := hw.out (wrap64 (wrap64 ((j : Int) * m) + (x : Int)))
        clear hx
        go_wp2_with (at_builtin; refine wpList_append_own _ rfl _ _ 30 rfl (w.heap.size + 2) 5 i0 (.int .u8 0) 1 1 Try.underlying30 hinf hz0 hz1 hz2 rfl (by decide) _ _ _ rfl (own.out.alloc _) ⟨wr.heap.size, 0, none⟩ 1 1 [.int .u8 y] rfl rfl ?c1 ?c2 ?c3 ?c4 ?c5 ?_)
        case c1 => exact cell_one_new _ _ _
        case c2 => intro u hu; simp at hu; subst hu; rfl
        case c3 => unfold maxLen; omega
        case c4 => omega
        case c5 => simp; omega
        intro v' w1 hown' hgrow _
        have oN := Only.of_grown hgrow
        have hne : ∀ i, i < w.heap.size + 2 → ¬ (Value.slice A' j c').ownBlock = some i := fun i hi h => by have := own_ge own.out i h; omega
        replace B1 := Lib.hid ((B1.out.alloc _).only oN (hne _ (by omega)))
        have C2 := (B2.out.alloc (.cells #[Value.int .u8 (y : Int)] 5)).only oN (hne _ (by omega))
        have hO1 : Hid (Only No w w1) := Lib.hid ((hO.out.alloc _).then oN (fun i hi => .inr (by have := own_ge own.out i hi; omega)))
        have hown1 := Lib.hid hown'
        clear hown' hgrow own x0 x1 x2 x3 oN hne q1 q2 k2
        obtain ⟨A2, c2, rfl⟩ := own_slice hown1.out
        obtain ⟨x0, x1, x2, x3⟩ := cells4 C2
        replace g3 := C2.frozen 3
        replace B2 := Lib.hid C2
        clear C2
        go_wp2_with fail
        have o2 : Only (One (w.heap.size + 1)) w1 (w1.setCell ⟨w.heap.size + 1, 3, none⟩ (.slice A2 (j + 1) c2)) := (Only.refl (One (w.heap.size + 1)) w1).setCell (p := ⟨w.heap.size + 1, 3, none⟩) (.inl rfl) _
        go_roundw
        case rel => exact ⟨j + 1, px ++ [y], A2, c2, by omega, by go_num, Lib.hid (by have := hpx.out; simp; omega), Lib.hid (by
            intro b hb
            rcases List.mem_append.1 hb with hb | hb
            · exact hby.out b hb
            · simp at hb; omega), Lib.hid (B1.out.only o2 (fun h => by have h : w.heap.size = w.heap.size + 1 := h; omega)), Lib.hid (B2.out.set 3 _), Lib.hid (by
            have := own_only hown1.out o2 (fun i hi h => by have h : i = w.heap.size + 1 := h; have := own_ge hown1.out i hi; omega)
            unfold byC at *
            rw [List.map_append]
            exact this), Lib.hid (hO1.out.then o2 (fun i h => .inr (by have h : i = w.heap.size + 1 := h; omega)))⟩
        case measure => simp [intOf]; omega
    · obtain rfl : j = N := by omega
      obtain ⟨y0, y1, y2, y3⟩ := cells4 B1.out
      have g0 := B1.out.frozen 0
      have g1 := B1.out.frozen 1
      have g2 := B1.out.frozen 2
      have g3 := B1.out.frozen 3
      go_wp2_with fail
      have OW : Only (One w.heap.size) wr _ := ((((Only.refl (One w.heap.size) wr).setCell (p := ⟨w.heap.size, 0, none⟩) (.inl rfl) (.int .i64 W)).setCell (p := ⟨w.heap.size, 1, none⟩) (.inl rfl) (.int .i64 H)).setCell (p := ⟨w.heap.size, 2, none⟩) (.inl rfl) (.int .i64 C)).setCell (p := ⟨w.heap.size, 3, none⟩) (.inl rfl) (.slice A' j c')
      obtain rfl := hfin.out
      refine bodyPost_ret (v := .agg #[.int .i64 W, .int .i64 H, .int .i64 C, .slice A' (W * H * C) c']) ?_ rfl ⟨A', c', px, rfl, hpx.out, hby.out, own_base (own_only own.out OW (fun i hi h => ?_)) (fun i hi => ?_), hO.out.then OW (fun i h => .inr (by have h : i = w.heap.size := h; omega))⟩
      · simp only [results, show Try.f32.results = #[.cell 10 32] from rfl]
        go_simp
      · have h1 := own_ge own.out i hi
        have h : i = w.heap.size := h
        omega
      · have h1 := own_ge own.out i hi
        omega
end Go.Proofs.Ytfaciljklligeaa.Ct
