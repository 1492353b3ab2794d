/- The walk of the law ColourClamps. -/
import Derived.Test.YtnlpohhebkcjkaaClamps
import Derived.Test.YtnlpohhebkcjkaaAll
import Derived.Deep.QuietTactic
import Derived.BigQuiet
namespace Go.Proofs.Ytnlpohhebkcjkaa.C
open Go.ChangeShapes Go.WideShapes Go.RowKit I F

theorem quiet_left {P : Program} {f : FuncId} {args : Array Value} {w : World} {n : Nat} {v : Value}
    (h : Calls P f args (w.drewN n) fun e w' => e = .returned v ∧ w.drewN n = w') : Calls P f args (w.drewN n) fun e w'' => e = .returned v ∧ ∃ m, w'' = w.drewN m :=
  h.mono fun _ _ ⟨he, hm⟩ => ⟨he, n, hm.symm⟩

theorem wrap16 (n : Int) : Small (IntKind.i16.wrap n) := by
  have : IntKind.i16.wrap n = (n + 32768) % 65536 - 32768 := by simp [IntKind.wrap, IntKind.bits, IntKind.signed]; split <;> omega
  unfold Small
  omega
theorem wrap32b (n : Int) : -2147483648 ≤ wrap32 n ∧ wrap32 n ≤ 2147483647 := by
  unfold wrap32
  omega
theorem conv32 (a : Int) (ha : Small a) (w : World) : (convert 30 22 (.float .f32 (floatOfInt .f32 a))).run Try.prog w = .ok (.float .f64 (w64 a)) w := by
  obtain ⟨_, _, _, _, _, h⟩ := val64 a ha
  exact run_convert_float_float w 30 22 .f32 .f64 (w32 a) (w64 a) (by kernel_rfl) (by kernel_rfl) h
theorem clf_any' (x lo hi : Int) (w : World) (hx : Small x) (hl : Small lo) (hh : Small hi) :
    Calls Try.prog 21 #[.float .f32 (floatOfInt .f32 x), .float .f32 (floatOfInt .f32 lo), .float .f32 (floatOfInt .f32 hi)] w fun e w' => e = .returned (.float .f32 (floatOfInt .f32 (clampI x lo hi))) ∧ w = w' := clf_any x lo hi w hx hl hh
theorem clamped64 (x lo hi : Int) (w : World) (hx : Small x) (hl : Small lo) (hh : Small hi) :
    Calls Try.prog 15 #[.float .f64 (w64 x), .float .f64 (w64 lo), .float .f64 (w64 hi)] w fun e w' => e = .returned (.float .f64 (w64 (clampI x lo hi))) ∧ w = w' := by
  rw [← clamp64 x lo hi hx hl hh]
  exact clamped_any _ _ _ w
theorem small_clamp {x lo hi : Int} (hx : Small x) (hl : Small lo) (hh : Small hi) : Small (clampI x lo hi) := clampI_in x lo hi _ _ hx.1 hx.2 hl.1 hl.2 hh.1 hh.2

set_option maxRecDepth 100000 in
set_option maxHeartbeats 1600000 in
theorem law_clamps (f0 f1 f2 : Nat) (n0 n1 n2 : Int) (w : World) :
    Calls Try.prog 3 #[.agg #[.float .f64 f0, .float .f64 f1, .float .f64 f2], .agg #[.int .i64 n0, .int .i64 n1, .int .i64 n2]] w (K.T w) := by
  go_enter Try.func3, Try.ntmps3
  go_wp2_with fail
  go_quiet ((first
    | (go_at_call 14; exact quiet_left (clamp_any _ _ _ _))
    | (go_at_call 15; exact quiet_left (clamped_any _ _ _ _))
    | (go_at_call 13; exact quiet_left (same_any _ _ _ (FEq.refl _)))
    | (go_at_call 16; exact quiet_left (cl64_any _ _ _ _))
    | (go_at_call 17; exact quiet_left (whole_any _ _ _ _))))
  go_wp2_with fail
  refine (cl8_any _ _ _ _).mono ?_
  rintro e w' ⟨rfl, rfl⟩
  obtain ⟨c0, c1⟩ := clampI_in (n0 % 256) (n1 % 256) (n2 % 256) 0 255 (by omega) (by omega) (by omega) (by omega) (by omega) (by omega)
  go_wp2_with fail
  refine (whole_any _ _ _ _).mono ?_
  rintro e w' ⟨rfl, rfl⟩
  go_wp2_with fail
  have S0 := wrap16 n0
  have S1 := wrap16 n1
  have S2 := wrap16 n2
  generalize IntKind.i16.wrap n0 = i at *
  generalize IntKind.i16.wrap n1 = k at *
  generalize IntKind.i16.wrap n2 = l at *
  have S3 := small_clamp S0 S1 S2
  have B0 : -32768 ≤ i := S0.1
  have B1 : i ≤ 32767 := S0.2
  have B2 : -32768 ≤ k := S1.1
  have B3 : k ≤ 32767 := S1.2
  have B4 : -32768 ≤ l := S2.1
  have B5 : l ≤ 32767 := S2.2
  have B6 : -32768 ≤ clampI i k l := S3.1
  have B7 : clampI i k l ≤ 32767 := S3.2
  have H0 := Lib.hid S0
  have H1 := Lib.hid S1
  have H2 := Lib.hid S2
  have q0 := conv32 i S0
  have q1 := conv32 k S1
  have q2 := conv32 l S2
  have q3 := conv32 _ S3
  have q4 : FloatKind.f64.format.order (w64 (clampI i k l)) (w64 (clampI i k l)) = some .eq := by
    have := ord64 _ _ S3 S3
    rw [Int.compare_eq_eq.2 rfl] at this; exact this
  clear S0 S1 S2 S3
  refine (cl16_any _ _ _ _).mono ?_
  rintro e w' ⟨rfl, rfl⟩
  go_wp2_with fail
  refine (whole_any _ _ _ _).mono ?_
  rintro e w' ⟨rfl, rfl⟩
  go_wp2_with fail
  obtain ⟨r0, r1⟩ := wrap32b n0
  obtain ⟨r2, r3⟩ := wrap32b n1
  obtain ⟨r4, r5⟩ := wrap32b n2
  generalize wrap32 n0 = p at *
  generalize wrap32 n1 = q at *
  generalize wrap32 n2 = r at *
  obtain ⟨d0, d1⟩ := clampI_in p q r (-2147483648) 2147483647 (by omega) (by omega) (by omega) (by omega) (by omega) (by omega)
  refine (cl32_any _ _ _ _).mono ?_
  rintro e w' ⟨rfl, rfl⟩
  go_wp2_with fail
  refine (whole_any _ _ _ _).mono ?_
  rintro e w' ⟨rfl, rfl⟩
  go_wp2_with fail
  refine (clf_any' _ _ _ _ H0.out H1.out H2.out).mono ?_
  rintro e w' ⟨rfl, rfl⟩
  go_wp2_with fail
  refine (clamped64 _ _ _ _ H0.out H1.out H2.out).mono ?_
  rintro e w' ⟨rfl, rfl⟩
  go_wp2_with fail
  go_ret
  exact ⟨rfl, K.bl_drew (K.bl_alloc (K.bl_alloc (Below.refl _ _) _) _) _⟩
theorem threeI {H : Type} {enc : TypeId × Value → H} {W : World} {v : Value} {d : DataW H} {p : List MemPlace} {base : Nat} (hv : Value.okWide Try.prog W .any base 24 v) (h : DataW.Trod enc Try.prog W 0 (fun _ => true) true 24 v d p) :
    ∃ a b c : Int, v = .agg #[.int .i64 a, .int .i64 b, .int .i64 c] := by
  obtain ⟨cs, rfl, hs, m, hc⟩ := Ar.open_array Try.underlying24 (by kernel_rfl) (by kernel_rfl) hv h
  obtain ⟨l⟩ := cs
  match l, hs with
  | [x0, x1, x2], _ =>
    obtain ⟨y0, h0⟩ := hc 0 x0 rfl
    obtain ⟨y1, h1⟩ := hc 1 x1 rfl
    obtain ⟨y2, h2⟩ := hc 2 x2 rfl
    obtain ⟨a, rfl, wa⟩ := Ar.trod_int' Try.underlying3 h0
    obtain ⟨b, rfl, wb⟩ := Ar.trod_int' Try.underlying3 h1
    obtain ⟨c, rfl, wc⟩ := Ar.trod_int' Try.underlying3 h2
    exact ⟨a, b, c, rfl⟩
theorem row_clamps {H : Type} {enc : TypeId × Value → H} {base : Nat} (W : World) (v : Value) (d : DataW H) (p : List MemPlace) (hv : Value.okWide Try.prog W .any base 23 v) (h : DataW.Trod enc Try.prog W 0 (fun _ => true) true 23 v d p)
    (v' : Value) (d' : DataW H) (p' : List MemPlace) (hv' : Value.okWide Try.prog W .any base 24 v') (h' : DataW.Trod enc Try.prog W 0 (fun _ => true) true 24 v' d' p') :
    Calls Try.prog 3 #[v, v'] W fun e w' => e = .returned (.bool true) ∧ Below W.heap.size W w' := by
  obtain ⟨a, b, c, rfl, _, _, _⟩ := K.three hv h
  obtain ⟨x, y, z, rfl⟩ := threeI hv' h'
  exact law_clamps a b c x y z W
end Go.Proofs.Ytnlpohhebkcjkaa.C
