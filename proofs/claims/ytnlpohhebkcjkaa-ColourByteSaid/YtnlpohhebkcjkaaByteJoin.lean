/- ColourByte's walks joined. -/
import Derived.Test.YtnlpohhebkcjkaaByteWalk
namespace Go.Proofs.Ytnlpohhebkcjkaa.K
open Go.ChangeShapes Go.WideShapes Go.RowKit I F

theorem ord_of {a b : Nat} (ha : Fp.fin a) (hb : Fp.fin b) :
    (Fp.val a < Fp.val b ∧ ord a b = some .lt) ∨ (Fp.val a = Fp.val b ∧ ord a b = some .eq) ∨ (Fp.val b < Fp.val a ∧ ord a b = some .gt) := by
  have o := Fp.order_val ha hb
  by_cases h : Fp.val a < Fp.val b
  · exact .inl ⟨h, o.1.2 h⟩
  · by_cases h2 : Fp.val a = Fp.val b
    · exact .inr (.inl ⟨h2, o.2.1.2 h2⟩)
    · have h3 : Fp.val b < Fp.val a := by grind
      exact .inr (.inr ⟨h3, o.2.2.2 h3⟩)

theorem int_ne_zero {n : Nat} (h : n = 0) : ((n : Int) != 0) = false := by subst h; rfl
theorem int_ne_255 {n : Nat} (h : n = 255) : ((n : Int) != 255) = false := by subst h; rfl

theorem law_byte (x y : Nat) (w : World) (hx : x < 2 ^ 64) (hy : y < 2 ^ 64) : Calls Try.prog 9 #[.float .f64 x, .float .f64 y] w (T w) := by
  obtain ⟨n, n1, n2, n3⟩ := Fp.byte_pure x hx
  obtain ⟨m, m1, m2, m3⟩ := Fp.byte_pure y hy
  have hb : Hid (Bytes x y n m) := ⟨fun w => byte_any x w n n2, fun w => byte_any y w m m2⟩
  rcases kinds x with hx | hx | hx
  · obtain ⟨s, f, hr⟩ := hx
    have h0 : n = 0 := by unfold Fp.ByteR at n3; rw [hr] at n3; exact n3
    subst h0
    exact byte_nan x y m w hb (Fp.order_self_nan hr x).1 (Fp.order_self_nan hr y).1 (Fp.order_self_nan hr 0).1 (Fp.order_self_nan hr _).1
  · obtain ⟨s, hr⟩ := hx
    have o1 : ord x x = some .eq := order_refl (fun ⟨a, b, h⟩ => by rw [hr] at h; cases h)
    have o3 : ord x 0 = some (if s then .lt else .gt) := by show Ieee.double.order x 0 = _; unfold Ieee.Format.order; rw [hr, Fp.read_0]; rfl
    have o4 : ord x 4643176031446892544 = some (if s then .lt else .gt) := by show Ieee.double.order x Fp.W255 = _; unfold Ieee.Format.order; rw [hr, Fp.read_255]; rfl
    cases hC : (ord x y == some .lt)
    · cases s
      · exact byte_gt_gt_false x y n m w hb o1 hC o3 o4 (int_ne_255 (ord_255 n3 (.inl o4)))
      · exact byte_lt_lt_false x y n m w hb o1 hC o3 o4 (int_ne_zero (ord_0 n3 (.inl o3)))
    · have hle : (n : Int) ≤ m := by exact_mod_cast ord_lt n3 m3 (by simpa using hC)
      cases s
      · exact byte_gt_gt_true x y n m w hb o1 hC o3 o4 (int_ne_255 (ord_255 n3 (.inl o4))) hle
      · exact byte_lt_lt_true x y n m w hb o1 hC o3 o4 (int_ne_zero (ord_0 n3 (.inl o3))) hle
  · have o1 : ord x x = some .eq := order_refl (fun ⟨a, b, h⟩ => by obtain ⟨s, m, e, hr⟩ := hx; rw [hr] at h; cases h)
    have o0 := ord_of hx Fp.val_0.1
    have o255 := ord_of hx Fp.val_255.1
    rw [Fp.val_0.2] at o0
    rw [Fp.val_255.2] at o255
    have hoff : 0 ≤ Fp.val x → Fp.val x ≤ 255 → ∃ r : Nat, (∀ w : World, (binOp .sub 22 (.float .f64 (floatOfInt .f64 (n : Int))) (.float .f64 x)).run Try.prog w = .ok (.float .f64 r) w) ∧ (ord r 4602678819172646912 == some .gt) = false ∧ ord r 13826050856027422720 = some .gt := by
      intro a b
      obtain ⟨r, h1, h2, h3⟩ := byte_off n3 hx a b
      exact ⟨r, fun w => run_float_arith w .sub 22 .f64 _ _ r h1, h2, h3⟩
    cases hC : (ord x y == some .lt)
    · rcases o0 with ⟨v0, o3⟩ | ⟨v0, o3⟩ | ⟨v0, o3⟩
      · have o4 : ord x 4643176031446892544 = some .lt := by
          rcases o255 with ⟨v, o4⟩ | ⟨v, o4⟩ | ⟨v, o4⟩
          · exact o4
          · exfalso; grind
          · exfalso; grind
        exact byte_lt_lt_false x y n m w hb o1 hC o3 o4 (int_ne_zero (ord_0 n3 (.inl o3)))
      · have o4 : ord x 4643176031446892544 = some .lt := by
          rcases o255 with ⟨v, o4⟩ | ⟨v, o4⟩ | ⟨v, o4⟩
          · exact o4
          · exfalso; grind
          · exfalso; grind
        obtain ⟨r, h1, h2, h3⟩ := hoff (by grind) (by grind)
        exact byte_eq_lt_false x y n m w hb o1 hC o3 o4 (int_ne_zero (ord_0 n3 (.inr o3))) r h1 h2 h3
      · rcases o255 with ⟨v, o4⟩ | ⟨v, o4⟩ | ⟨v, o4⟩
        · obtain ⟨r, h1, h2, h3⟩ := hoff (by grind) (by grind)
          exact byte_gt_lt_false x y n m w hb o1 hC o3 o4 r h1 h2 h3
        · obtain ⟨r, h1, h2, h3⟩ := hoff (by grind) (by grind)
          exact byte_gt_eq_false x y n m w hb o1 hC o3 o4 (int_ne_255 (ord_255 n3 (.inr o4))) r h1 h2 h3
        · exact byte_gt_gt_false x y n m w hb o1 hC o3 o4 (int_ne_255 (ord_255 n3 (.inl o4)))
    · have hle : (n : Int) ≤ m := by exact_mod_cast ord_lt n3 m3 (by simpa using hC)
      rcases o0 with ⟨v0, o3⟩ | ⟨v0, o3⟩ | ⟨v0, o3⟩
      · have o4 : ord x 4643176031446892544 = some .lt := by
          rcases o255 with ⟨v, o4⟩ | ⟨v, o4⟩ | ⟨v, o4⟩
          · exact o4
          · exfalso; grind
          · exfalso; grind
        exact byte_lt_lt_true x y n m w hb o1 hC o3 o4 (int_ne_zero (ord_0 n3 (.inl o3))) hle
      · have o4 : ord x 4643176031446892544 = some .lt := by
          rcases o255 with ⟨v, o4⟩ | ⟨v, o4⟩ | ⟨v, o4⟩
          · exact o4
          · exfalso; grind
          · exfalso; grind
        obtain ⟨r, h1, h2, h3⟩ := hoff (by grind) (by grind)
        exact byte_eq_lt_true x y n m w hb o1 hC o3 o4 (int_ne_zero (ord_0 n3 (.inr o3))) hle r h1 h2 h3
      · rcases o255 with ⟨v, o4⟩ | ⟨v, o4⟩ | ⟨v, o4⟩
        · obtain ⟨r, h1, h2, h3⟩ := hoff (by grind) (by grind)
          exact byte_gt_lt_true x y n m w hb o1 hC o3 o4 hle r h1 h2 h3
        · obtain ⟨r, h1, h2, h3⟩ := hoff (by grind) (by grind)
          exact byte_gt_eq_true x y n m w hb o1 hC o3 o4 (int_ne_255 (ord_255 n3 (.inr o4))) hle r h1 h2 h3
        · exact byte_gt_gt_true x y n m w hb o1 hC o3 o4 (int_ne_255 (ord_255 n3 (.inl o4))) hle
theorem row_byte (W : World) (a0 : Nat) (w0 : (Lit.float .f64 a0).wf = true) (a1 : Nat) (w1 : (Lit.float .f64 a1).wf = true) :
    Calls Try.prog 9 #[.float .f64 a0, .float .f64 a1] W fun e w' => e = .returned (.bool true) ∧ Below W.heap.size W w' := law_byte a0 a1 W (wf_lt w0) (wf_lt w1)
end Go.Proofs.Ytnlpohhebkcjkaa.K
