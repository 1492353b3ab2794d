/- The walk of the law ColourInked. -/
import Derived.Test.YtnlpohhebkcjkaaBack
namespace Go.Proofs.Ytnlpohhebkcjkaa.K
open Go.ChangeShapes Go.WideShapes Go.RowKit I F

theorem eq_four (w : World) (x0 x1 x2 x3 : Int) : (binOp .eql 39 (.agg #[.int .u8 x0, .int .u8 x1, .int .u8 x2, .int .u8 x3]) (.agg #[.int .u8 x0, .int .u8 x1, .int .u8 x2, .int .u8 x3])).run Try.prog w = .ok (.bool true) w := by
  rw [eql39_no]; simp
theorem keep4 {w1 w2 : World} {B : Nat} {x0 x1 x2 x3 : Value} (b : Below w1.heap.size w1 w2) (h : B < w1.heap.size)
    (h0 : w1.cell? ⟨B, 0, none⟩ = some x0) (h1 : w1.cell? ⟨B, 1, none⟩ = some x1) (h2 : w1.cell? ⟨B, 2, none⟩ = some x2) (h3 : w1.cell? ⟨B, 3, none⟩ = some x3) :
    w2.cell? ⟨B, 0, none⟩ = some x0 ∧ w2.cell? ⟨B, 1, none⟩ = some x1 ∧ w2.cell? ⟨B, 2, none⟩ = some x2 ∧ w2.cell? ⟨B, 3, none⟩ = some x3 :=
  ⟨(b.cell h).trans h0, (b.cell h).trans h1, (b.cell h).trans h2, (b.cell h).trans h3⟩

set_option maxHeartbeats 800000 in
theorem law_inked (t y k a b c d x0 x1 x2 : Int) (w : World) (h0 : 0 ≤ y) (h1 : y ≤ 255) (k0 : 0 ≤ k) (k1 : k ≤ 255) (a0 : 0 ≤ a) (a1 : a ≤ 255) (b0 : 0 ≤ b) (b1 : b ≤ 255) (c0 : 0 ≤ c) (c1 : c ≤ 255)
    (he : inkI t a b c d = #[.int .u8 x0, .int .u8 x1, .int .u8 x2, .int .u8 d]) (ht : t = 2 ∨ (x0 = a ∧ x1 = b ∧ x2 = c)) :
    Calls Try.prog 12 #[.int .i8 t, .int .u8 y, .int .u8 k, .agg #[.int .u8 a, .int .u8 b, .int .u8 c, .int .u8 d]] w (T w) := by
  have e1 : inkI 2 y 128 128 k = #[.int .u8 (255 - y), .int .u8 (255 - y), .int .u8 (255 - y), .int .u8 k] := by
    obtain ⟨g1, g2, g3⟩ := red_grey y h0 h1
    unfold inkI; rw [if_pos rfl, g1, g2, g3]
  have E1 := Lib.hid e1
  have E := Lib.hid he
  have HT := Lib.hid ht
  clear e1 he ht
  have hq := eq_four
  go_enter Try.func12, Try.ntmps12
  go_wp2_with (first
    | (go_at_call 32; refine (alive_any _).mono ?_; rintro e w' ⟨rfl, rfl⟩))
  refine (inks_any 2 y 128 128 k _ h0 h1 (by omega) (by omega) (by omega) (by omega)).mono ?_
  rintro e w1 ⟨rfl, hb1⟩
  rw [E1.out]
  have s1 : w.heap.size < w1.heap.size := by have := hb1.size; simp at this; omega
  obtain ⟨f0, f1, f2, f3⟩ := keep4 (B := w.heap.size) (x0 := .int .u8 a) (x1 := .int .u8 b) (x2 := .int .u8 c) (x3 := .int .u8 d) hb1 (by simp) (by simp) (by simp) (by simp) (by simp)
  have r1 : Below w.heap.size w w1 := (bl_alloc (Below.refl _ _) _).trans (hb1.mono (by simp))
  clear hb1
  go_wp2_with fail
  refine (inks_any t a b c d _ a0 a1 b0 b1 c0 c1).mono ?_
  rintro e w2 ⟨rfl, hb2⟩
  rw [E.out]
  have s2 : w1.heap.size < w2.heap.size := by have := hb2.size; simp at this; omega
  have s3 : w.heap.size < w2.heap.size := by omega
  obtain ⟨g0, g1, g2, g3⟩ := keep4 (B := w.heap.size) (x0 := .int .u8 a) (x1 := .int .u8 b) (x2 := .int .u8 c) (x3 := .int .u8 d) hb2 (by simp; omega)
    ((World.cell?_alloc_lt _ _ _ s1).trans f0) ((World.cell?_alloc_lt _ _ _ s1).trans f1) ((World.cell?_alloc_lt _ _ _ s1).trans f2) ((World.cell?_alloc_lt _ _ _ s1).trans f3)
  obtain ⟨i0, i1, i2, i3⟩ := keep4 (B := w1.heap.size) (x0 := .int .u8 (255 - y)) (x1 := .int .u8 (255 - y)) (x2 := .int .u8 (255 - y)) (x3 := .int .u8 k) hb2 (by simp) (by simp) (by simp) (by simp) (by simp)
  have r2 : Below w.heap.size w w2 := (bl_alloc r1 _).trans (hb2.mono (by simp; omega))
  clear hb2 r1 f0 f1 f2 f3
  rcases HT.out with ht | ⟨hx0, hx1, hx2⟩
  · have hb : (t == 2) = true := by simp [ht]
    clear ht HT E E1
    go_wp2
    go_ret
    exact ⟨rfl, bl_alloc r2 _⟩
  · subst hx0 hx1 hx2
    by_cases ht : t = 2
    · have hb : (t == 2) = true := by simp [ht]
      clear ht HT E E1
      go_wp2
      go_ret
      exact ⟨rfl, bl_alloc r2 _⟩
    · have hb : (t == 2) = false := by simp [ht]
      clear ht HT E E1
      go_wp2
      go_ret
      exact ⟨rfl, bl_alloc r2 _⟩
theorem ink_shape (t a b c d : Int) : ∃ x0 x1 x2 : Int, inkI t a b c d = #[.int .u8 x0, .int .u8 x1, .int .u8 x2, .int .u8 d] ∧ (t = 2 ∨ (x0 = a ∧ x1 = b ∧ x2 = c)) := by
  unfold inkI
  by_cases h : t = 2
  · rw [if_pos h]; exact ⟨_, _, _, rfl, .inl h⟩
  · rw [if_neg h]; exact ⟨_, _, _, rfl, .inr ⟨rfl, rfl, rfl⟩⟩
theorem row_inked {H : Type} {enc : TypeId × Value → H} {base : Nat} (W : World) (a0 : Int) (_ : (Lit.int .i8 a0).wf = true) (a1 : Int) (w1 : (Lit.int .u8 a1).wf = true) (a2 : Int) (w2 : (Lit.int .u8 a2).wf = true)
    (v : Value) (d : DataW H) (p : List MemPlace) (hv : Value.okWide Try.prog W .any base 39 v) (h : DataW.Trod enc Try.prog W 0 (fun _ => true) true 39 v d p) :
    Calls Try.prog 12 #[.int .i8 a0, .int .u8 a1, .int .u8 a2, v] W fun e w' => e = .returned (.bool true) ∧ Below W.heap.size W w' := by
  obtain ⟨a, b, c, e, rfl, wa, wb, wc, we⟩ := four hv h
  obtain ⟨x0, x1, x2, hx, ht⟩ := ink_shape a0 a b c e
  exact law_inked a0 a1 a2 a b c e x0 x1 x2 W (u8 w1).1 (u8 w1).2 (u8 w2).1 (u8 w2).2 (u8 wa).1 (u8 wa).2 (u8 wb).1 (u8 wb).2 (u8 wc).1 (u8 wc).2 hx ht
end Go.Proofs.Ytnlpohhebkcjkaa.K
