/- The walk of the law ColourAll; ColourNear's argument opened. -/
import Derived.Test.YtnlpohhebkcjkaaNearWalk
import Derived.Outline
namespace Go.Proofs.Ytnlpohhebkcjkaa.K
open Go.ChangeShapes Go.WideShapes Go.RowKit I F

theorem three {H : Type} {enc : TypeId × Value → H} {W : World} {v : Value} {d : DataW H} {p : List MemPlace} {base : Nat} (hv : Value.okWide Try.prog W .any base 23 v) (h : DataW.Trod enc Try.prog W 0 (fun _ => true) true 23 v d p) :
    ∃ a b c : Nat, v = .agg #[.float .f64 a, .float .f64 b, .float .f64 c] ∧ (Lit.float .f64 a).wf = true ∧ (Lit.float .f64 b).wf = true ∧ (Lit.float .f64 c).wf = true := by
  obtain ⟨cs, rfl, hs, m, hc⟩ := Ar.open_array Try.underlying23 (by kernel_rfl) (by kernel_rfl) hv h
  obtain ⟨l⟩ := cs
  match l, hs with
  | [x0, x1, x2], _ =>
    obtain ⟨y0, h0⟩ := hc 0 x0 rfl
    obtain ⟨y1, h1⟩ := hc 1 x1 rfl
    obtain ⟨y2, h2⟩ := hc 2 x2 rfl
    obtain ⟨a, rfl, wa⟩ := Ar.trod_float Try.underlying22 h0
    obtain ⟨b, rfl, wb⟩ := Ar.trod_float Try.underlying22 h1
    obtain ⟨c, rfl, wc⟩ := Ar.trod_float Try.underlying22 h2
    exact ⟨a, b, c, rfl, wa, wb, wc⟩
theorem row_near {H : Type} {enc : TypeId × Value → H} {base : Nat} (W : World) (a0 : Int) (w0 : (Lit.int .u8 a0).wf = true) (a1 : Int) (w1 : (Lit.int .u8 a1).wf = true) (a2 : Int) (w2 : (Lit.int .u8 a2).wf = true)
    (v : Value) (d : DataW H) (p : List MemPlace) (hv : Value.okWide Try.prog W .any base 23 v) (h : DataW.Trod enc Try.prog W 0 (fun _ => true) true 23 v d p) :
    Calls Try.prog 10 #[.int .u8 a0, .int .u8 a1, .int .u8 a2, v] W fun e w' => e = .returned (.bool true) ∧ Below W.heap.size W w' := by
  obtain ⟨a, b, c, rfl, _, _, _⟩ := three hv h
  exact law_near a0 a1 a2 a b c W (u8 w0).1 (u8 w0).2 (u8 w1).1 (u8 w1).2 (u8 w2).1 (u8 w2).2

set_option maxRecDepth 100000 in
set_option maxHeartbeats 1600000 in
theorem law_all (w : World) : Calls Try.prog 11 #[] w (T w) := by
  go_enter Try.func11, Try.ntmps11
  go_wp2
  go_loopw [1] (fun i wr => ∃ k : Int, i = .int .i64 k ∧ 0 ≤ k ∧ k ≤ 16777216 ∧ Hid (∃ d, wr = w.drewN d)) (fun i _ => 16777216 - (intOf i).toNat)
  case atStart => exact ⟨0, rfl, by omega, by omega, 0, rfl⟩
  case round =>
    obtain ⟨k, rfl, hk0, hk, hw⟩ := hrel
    by_cases hlt : k < 16777216
    · obtain ⟨p0, p1⟩ : 0 ≤ k % 256 ∧ k % 256 ≤ 255 := by omega
      obtain ⟨p2, p3⟩ : 0 ≤ k / 256 % 256 ∧ k / 256 % 256 ≤ 255 := by omega
      obtain ⟨p4, p5⟩ : 0 ≤ k / 65536 ∧ k / 65536 ≤ 255 := by omega
      have hback := Lib.hid (back_all (k % 256) (k / 256 % 256) (k / 65536) p0 p1 p2 p3 p4 p5)
      have hbytes := Lib.hid (fun a b c => @near_bytes (k % 256) (k / 256 % 256) (k / 65536) p0 p1 p2 p3 p4 p5 a b c)
      go_wp2_with fail
      refine (ycc_any _ _ _ _ p0 p1 p2 p3 p4 p5).mono ?_
      rintro e w' ⟨rfl, rfl⟩
      obtain ⟨y0, y1⟩ : 0 ≤ lumI (k % 256) (k / 256 % 256) (k / 65536) ∧ lumI (k % 256) (k / 256 % 256) (k / 65536) ≤ 255 := clipI_bd _
      obtain ⟨u0, u1⟩ : 0 ≤ cbI (k % 256) (k / 256 % 256) (k / 65536) ∧ cbI (k % 256) (k / 256 % 256) (k / 65536) ≤ 255 := clipI_bd _
      obtain ⟨v0, v1⟩ : 0 ≤ crI (k % 256) (k / 256 % 256) (k / 65536) ∧ crI (k % 256) (k / 256 % 256) (k / 65536) ≤ 255 := clipI_bd _
      generalize lumI (k % 256) (k / 256 % 256) (k / 65536) = Y at *
      generalize cbI (k % 256) (k / 256 % 256) (k / 65536) = U at *
      generalize crI (k % 256) (k / 256 % 256) (k / 65536) = V at *
      go_wp2_with fail
      refine (rgb_any _ _ _ _ y0 y1 u0 u1 v0 v1).mono ?_
      rintro e w' ⟨rfl, rfl⟩
      obtain ⟨⟨a1, a2⟩, ⟨a3, a4⟩, a5, a6⟩ := hback.out
      have k1 := absI_le _ _ _ a1 a2
      have k2 := absI_le _ _ _ a3 a4
      have k3 := absI_le _ _ _ a5 a6
      clear a1 a2 a3 a4 a5 a6 hback
      obtain ⟨b0, b1⟩ : 0 ≤ redI Y V ∧ redI Y V ≤ 255 := clipI_bd _
      obtain ⟨b2, b3⟩ : 0 ≤ greenI Y U V ∧ greenI Y U V ≤ 255 := clipI_bd _
      obtain ⟨b4, b5⟩ : 0 ≤ blueI Y U ∧ blueI Y U ≤ 255 := clipI_bd _
      generalize redI Y V = A1 at *
      generalize greenI Y U V = A2 at *
      generalize blueI Y U = A3 at *
      go_wp2_with (first | (go_at_call 33; refine (apart_any _ _ _ (by omega) (by omega) (by omega) (by omega)).mono ?_; rintro e w' ⟨rfl, rfl⟩))
      refine (rgb_any _ _ _ _ p0 p1 p2 p3 p4 p5).mono ?_
      rintro e w' ⟨rfl, rfl⟩
      go_wp2_with fail
      refine (real_any _ _ _ _).mono ?_
      rintro e w' ⟨a, b, c, n, hR, rfl, rfl⟩
      have hN := Lib.hid (hbytes.out a b c hR)
      obtain ⟨la, lb, lc⟩ := lts hR
      have HA := Lib.hid la
      have HB := Lib.hid lb
      have HC := Lib.hid lc
      clear hR la lb lc hbytes k1 k2 k3
      obtain ⟨d0, d1⟩ : 0 ≤ redI (k % 256) (k / 65536) ∧ redI (k % 256) (k / 65536) ≤ 255 := clipI_bd _
      obtain ⟨d2, d3⟩ : 0 ≤ greenI (k % 256) (k / 256 % 256) (k / 65536) ∧ greenI (k % 256) (k / 256 % 256) (k / 65536) ≤ 255 := clipI_bd _
      obtain ⟨d4, d5⟩ : 0 ≤ blueI (k % 256) (k / 256 % 256) ∧ blueI (k % 256) (k / 256 % 256) ≤ 255 := clipI_bd _
      generalize redI (k % 256) (k / 65536) = D1 at *
      generalize greenI (k % 256) (k / 256 % 256) (k / 65536) = D2 at *
      generalize blueI (k % 256) (k / 256 % 256) = D3 at *
      go_wp2_with fail
      refine (cbyte_any _ _ HA.out).mono ?_
      rintro e w1 ⟨n1, l1, r1, rfl, rfl⟩
      have q1 := hN.out.1 n1 r1
      clear r1
      go_wp2_with (first | (go_at_call 33; refine (apart_any _ _ _ (by omega) (by omega) (by omega) (by omega)).mono ?_; rintro e w' ⟨rfl, rfl⟩))
      refine (cbyte_any _ _ HB.out).mono ?_
      rintro e w1 ⟨n2, l2, r2, rfl, rfl⟩
      have q2 := hN.out.2.1 n2 r2
      clear r2
      go_wp2_with (first | (go_at_call 33; refine (apart_any _ _ _ (by omega) (by omega) (by omega) (by omega)).mono ?_; rintro e w' ⟨rfl, rfl⟩))
      refine (cbyte_any _ _ HC.out).mono ?_
      rintro e w1 ⟨n3, l3, r3, rfl, rfl⟩
      have q3 := hN.out.2.2 n3 r3
      clear r3
      go_wp2_with (first | (go_at_call 33; refine (apart_any _ _ _ (by omega) (by omega) (by omega) (by omega)).mono ?_; rintro e w' ⟨rfl, rfl⟩))
      go_roundw
      case rel => exact ⟨k + 1, rfl, by omega, by omega, by
        obtain ⟨d, hd⟩ := hw
        exact ⟨d + n, by rw [hd, World.drewN_drewN]⟩⟩
      case measure => simp only [intOf]; omega
    · go_wp2_with (first | (go_at_call 32; refine (alive_any _).mono ?_; rintro e w' ⟨rfl, rfl⟩))
      go_ret
      obtain ⟨d, hd⟩ := hw
      exact ⟨rfl, by rw [hd]; exact bl_drew (Below.refl _ _) d⟩
theorem row_all (W : World) : Calls Try.prog 11 #[] W fun e w' => e = .returned (.bool true) ∧ Below W.heap.size W w' := law_all W
end Go.Proofs.Ytnlpohhebkcjkaa.K
