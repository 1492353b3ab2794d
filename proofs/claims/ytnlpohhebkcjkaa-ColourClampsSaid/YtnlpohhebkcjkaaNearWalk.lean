/- The walk of the law ColourNear. -/
import Derived.Test.YtnlpohhebkcjkaaNear2
import Derived.LoopTactic
import Derived.Outline
namespace Go.Proofs.Ytnlpohhebkcjkaa.K
open Go.ChangeShapes Go.WideShapes Go.RowKit I F

set_option maxHeartbeats 400000 in
theorem within_any (n x : Nat) (w : World) (h : Within n x) : Calls Try.prog 34 #[.float .f64 n, .float .f64 x] w fun e w' => e = .returned (.bool true) ∧ ∃ d, w' = w.drewN d := by
  have hs := fun (x y : Nat) (w : World) => run_fop (P := Try.prog) w .sub 22 .f64 x y (by simp)
  have h1 : ∀ t, (FloatKind.f64.format.order (fv .sub .f64 n (Fp.clampF x 0 4643176031446892544) t) 4616189618054758400 == some .lt || FloatKind.f64.format.order (fv .sub .f64 n (Fp.clampF x 0 4643176031446892544) t) 4616189618054758400 == some .eq) = true := by
    intro t; obtain ⟨_, _, rfl, rfl, a, b⟩ := h t 0; exact a
  have h2 : ∀ t, (FloatKind.f64.format.order (fv .sub .f64 (Fp.clampF x 0 4643176031446892544) n t) 4616189618054758400 == some .lt || FloatKind.f64.format.order (fv .sub .f64 (Fp.clampF x 0 4643176031446892544) n t) 4616189618054758400 == some .eq) = true := by
    intro t; obtain ⟨_, _, rfl, rfl, a, b⟩ := h 0 t; exact b
  clear h
  go_enter Try.func34, Try.ntmps34
  go_wp2_with (first | (go_at_call 14; refine (clamp_any _ _ _ _).mono ?_; rintro e w' ⟨rfl, rfl⟩))
  go_ret
  exact ⟨rfl, _, rfl⟩

/-- the three tests of the offsets -/
def Offs (o : Nat) : Bool := (ord o 13830554455654793216 == some .gt || ord o 13830554455654793216 == some .eq) && (ord o 4607182418800017408 == some .lt || ord o 4607182418800017408 == some .eq)
theorem offs_yes {o : Nat} (h1 : FloatKind.f64.format.order o 13830554455654793216 = some .gt ∨ FloatKind.f64.format.order o 13830554455654793216 = some .eq)
    (h2 : ((!(FloatKind.f64.format.order o 13830554455654793216 == some .gt)) = false ∨ (!(FloatKind.f64.format.order o 13830554455654793216 == some .eq)) = false) ∧
      ((!(FloatKind.f64.format.order o 4607182418800017408 == some .lt)) = false ∨ (!(FloatKind.f64.format.order o 4607182418800017408 == some .eq)) = false)) : Offs o = true := by
  unfold Offs
  have h3 := h2.2
  simp only [Bool.not_eq_false', beq_iff_eq] at h3
  simp only [Bool.and_eq_true, Bool.or_eq_true, beq_iff_eq]
  exact ⟨h1, h3⟩
theorem lts {y cb cr a b c : Nat} (h : RealR y cb cr a b c) : a < 2 ^ 64 ∧ b < 2 ^ 64 ∧ c < 2 ^ 64 := by
  obtain ⟨t1, t2, t3, t4, t5, t6, t7, t8, t9, t10, rfl, rfl, rfl⟩ := h
  exact ⟨fv_lt _ _ _ _, fv_lt _ _ _ _, fv_lt _ _ _ _⟩
theorem off_of {o : Nat} (h : Offs o = true) : Off o := by
  unfold Offs at h
  simp only [Bool.and_eq_true, Bool.or_eq_true, beq_iff_eq] at h
  obtain ⟨hl, hu⟩ := h
  have hm1 : Fp.fin 13830554455654793216 ∧ Fp.val 13830554455654793216 = -1 := ⟨⟨true, 2 ^ 52, -52, by decide +kernel⟩, by decide +kernel⟩
  have rm1 : Ieee.double.read 13830554455654793216 = .number true (2 ^ 52) (-52) := by decide +kernel
  have r1 : Ieee.double.read 4607182418800017408 = .number false (2 ^ 52) (-52) := by decide +kernel
  rcases kinds o with ⟨s, f, hr⟩ | ⟨s, hr⟩ | hf
  · have := (Fp.order_self_nan hr 13830554455654793216).1
    have h2 : ord o 13830554455654793216 = none := this
    rw [h2] at hl; simp at hl
  · have a1 : ord o 13830554455654793216 = some (if s then .lt else .gt) := by show Ieee.double.order o _ = _; unfold Ieee.Format.order; rw [hr, rm1]; rfl
    have a2 : ord o 4607182418800017408 = some (if s then .lt else .gt) := by show Ieee.double.order o _ = _; unfold Ieee.Format.order; rw [hr, r1]; rfl
    rw [a1] at hl
    rw [a2] at hu
    cases s
    · simp at hu
    · simp at hl
  · have p := Fp.order_val hf hm1.1
    have q := Fp.order_val hf Fp.val_one.1
    rw [hm1.2] at p
    rw [Fp.val_one.2] at q
    refine ⟨hf, ?_, ?_⟩
    · rcases hl with h | h
      · exact Rat.le_of_lt (p.2.2.1 h)
      · have := p.2.1.1 h; rw [this]; exact Rat.le_refl
    · rcases hu with h | h
      · exact Rat.le_of_lt (q.1.1 h)
      · have := q.2.1.1 h; rw [this]; exact Rat.le_refl

set_option maxRecDepth 100000 in
set_option maxHeartbeats 1600000 in
theorem law_near (y cb cr : Int) (o0 o1 o2 : Nat) (w : World) (h0 : 0 ≤ y) (h1 : y ≤ 255) (h2 : 0 ≤ cb) (h3 : cb ≤ 255) (h4 : 0 ≤ cr) (h5 : cr ≤ 255) :
    Calls Try.prog 10 #[.int .u8 y, .int .u8 cb, .int .u8 cr, .agg #[.float .f64 o0, .float .f64 o1, .float .f64 o2]] w (T w) := by
  go_enter Try.func10, Try.ntmps10
  go_wp2_with (first
    | (go_at_call 32; refine (alive_any _).mono ?_; rintro e w' ⟨rfl, rfl⟩)
    | (go_at_call 22; refine (rgb_any _ _ _ _ h0 h1 h2 h3 h4 h5).mono ?_; rintro e w' ⟨rfl, rfl⟩))
  refine (real_any _ _ _ _).mono ?_
  rintro e w' ⟨a, b, c, n, hR, rfl, rfl⟩
  have hN := Lib.hid (near_bytes y cb cr h0 h1 h2 h3 h4 h5 hR)
  obtain ⟨la, lb, lc⟩ := lts hR
  have HA := Lib.hid la
  have HB := Lib.hid lb
  have HC := Lib.hid lc
  clear hR la lb lc
  go_wp2_with fail
  refine (cbyte_any _ _ HA.out).mono ?_
  rintro e w1 ⟨n1, l1, r1, rfl, rfl⟩
  have q1 := hN.out.1 n1 r1
  clear r1
  obtain ⟨y0, y1⟩ : 0 ≤ redI y cr ∧ redI y cr ≤ 255 := clipI_bd _
  obtain ⟨y2, y3⟩ : 0 ≤ greenI y cb cr ∧ greenI y cb cr ≤ 255 := clipI_bd _
  obtain ⟨y4, y5⟩ : 0 ≤ blueI y cb ∧ blueI y cb ≤ 255 := clipI_bd _
  go_wp2_with (first | (go_at_call 33; refine (apart_any _ _ _ (by omega) (by omega) (by omega) (by omega)).mono ?_; rintro e w' ⟨rfl, rfl⟩))
  refine (cbyte_any _ _ HB.out).mono ?_
  rintro e w1 ⟨n2, l2, r2, rfl, rfl⟩
  have q2 := hN.out.2.1 n2 r2
  clear r2
  go_wp2_with (first | (go_at_call 33; refine (apart_any _ _ _ (by omega) (by omega) (by omega) (by omega)).mono ?_; rintro e w' ⟨rfl, rfl⟩))
  refine (cbyte_any _ _ HC.out).mono ?_
  rintro e w1 ⟨n3, l3, r3, rfl, rfl⟩
  have q3 := hN.out.2.2 n3 r3
  clear r3
  go_wp2_with (first | (go_at_call 33; refine (apart_any _ _ _ (by omega) (by omega) (by omega) (by omega)).mono ?_; rintro e w' ⟨rfl, rfl⟩))
  clear q1 q2 q3 l1 l2 l3 y0 y1 y2 y3 y4 y5
  go_loop [16] (fun i => ∃ k : Nat, k ≤ 3 ∧ i = .int .i64 k ∧ Hid (∀ j, j < k → Offs ([o0, o1, o2].getD j 0) = true)) (fun i => 3 - (intOf i).toNat)
  case atStart => exact ⟨0, by omega, rfl, fun j hj => by omega⟩
  case round =>
    obtain ⟨k, hk, rfl, hO⟩ := hrel
    rcases (show k = 0 ∨ k = 1 ∨ k = 2 ∨ k = 3 by omega) with rfl | rfl | rfl | rfl
    · go_wp2
      · go_ret
        exact ⟨rfl, bl_drew (bl_alloc (Below.refl _ _) _) _⟩
      · have ht : Offs o0 = true := offs_yes ‹_› ‹_›
        go_round
        case rel => exact ⟨1, by omega, rfl, fun j hj => by
          rcases (show j = 0 by omega) with rfl
          · exact ht⟩
        case measure => simp [intOf]
      · go_ret
        exact ⟨rfl, bl_drew (bl_alloc (Below.refl _ _) _) _⟩
    · go_wp2
      · go_ret
        exact ⟨rfl, bl_drew (bl_alloc (Below.refl _ _) _) _⟩
      · have ht : Offs o1 = true := offs_yes ‹_› ‹_›
        go_round
        case rel => exact ⟨2, by omega, rfl, fun j hj => by
          rcases (show j = 0 ∨ j = 1 by omega) with rfl | rfl
          · exact hO.out 0 (by omega)
          · exact ht⟩
        case measure => simp [intOf]
      · go_ret
        exact ⟨rfl, bl_drew (bl_alloc (Below.refl _ _) _) _⟩
    · go_wp2
      · go_ret
        exact ⟨rfl, bl_drew (bl_alloc (Below.refl _ _) _) _⟩
      · have ht : Offs o2 = true := offs_yes ‹_› ‹_›
        go_round
        case rel => exact ⟨3, by omega, rfl, fun j hj => by
          rcases (show j = 0 ∨ j = 1 ∨ j = 2 by omega) with rfl | rfl | rfl
          · exact hO.out 0 (by omega)
          · exact hO.out 1 (by omega)
          · exact ht⟩
        case measure => simp [intOf]
      · go_ret
        exact ⟨rfl, bl_drew (bl_alloc (Below.refl _ _) _) _⟩
    · have O0 := Lib.hid (off_of (hO.out 0 (by omega)))
      have O1 := Lib.hid (off_of (hO.out 1 (by omega)))
      have O2 := Lib.hid (off_of (hO.out 2 (by omega)))
      have ha := fun (x y : Nat) (w : World) => run_fop (P := Try.prog) w .add 22 .f64 x y (by simp)
      go_wp2_with fail
      refine (real_any _ _ _ _).mono ?_
      rintro e w' ⟨a2, b2, c2, n2, hR, rfl, rfl⟩
      obtain ⟨W1, W2, W3⟩ := near_within y cb cr h0 h1 h2 h3 h4 h5 O0.out O1.out O2.out _ _ _ hR
      have X1 := Lib.hid W1
      have X2 := Lib.hid W2
      have X3 := Lib.hid W3
      clear hR W1 W2 W3
      go_wp2_with fail
      refine (within_any _ _ _ X1.out).mono ?_
      rintro e w' ⟨rfl, d1, rfl⟩
      go_wp2_with fail
      refine (within_any _ _ _ X2.out).mono ?_
      rintro e w' ⟨rfl, d2, rfl⟩
      go_wp2_with fail
      refine (within_any _ _ _ X3.out).mono ?_
      rintro e w' ⟨rfl, d3, rfl⟩
      go_wp2_with fail
      go_ret
      exact ⟨rfl, bl_drew (bl_alloc (Below.refl _ _) _) _⟩
end Go.Proofs.Ytnlpohhebkcjkaa.K
