/- The walks of the laws ColourInks, ColourInked, ColourBack, ColourClamps. -/
import Derived.Test.YtnlpohhebkcjkaaInk
import Derived.Test.YtnlpohhebkcjkaaArr
import Derived.Outline
import Derived.Deep.RegionHeld3
namespace Go.Proofs.Ytnlpohhebkcjkaa.K
open Go.ChangeShapes Go.WideShapes Go.RowKit I F

def T (w : World) (e : Ending) (w' : World) : Prop := e = .returned (.bool true) ∧ Below w.heap.size w w'

/-- what is known of the world in a region of the law: an array of four lies at block B -/
structure Four (B : Nat) (x0 x1 x2 x3 : Value) (w w' : World) : Prop where
  c0 : w'.cell? ⟨B, 0, none⟩ = some x0
  c1 : w'.cell? ⟨B, 1, none⟩ = some x1
  c2 : w'.cell? ⟨B, 2, none⟩ = some x2
  c3 : w'.cell? ⟨B, 3, none⟩ = some x3
  bel : Below w.heap.size w w'
  lt : B < w'.heap.size
theorem Four.call {B : Nat} {x0 x1 x2 x3 : Value} {w w' w'' : World} (h : Four B x0 x1 x2 x3 w w') (b : Below w'.heap.size w' w'') : Four B x0 x1 x2 x3 w w'' :=
  ⟨(b.cell h.lt).trans h.c0, (b.cell h.lt).trans h.c1, (b.cell h.lt).trans h.c2, (b.cell h.lt).trans h.c3, h.bel.trans (b.mono h.bel.size), Nat.lt_of_lt_of_le h.lt b.size⟩

theorem Four.drew {B : Nat} {x0 x1 x2 x3 : Value} {w w' : World} (h : Four B x0 x1 x2 x3 w w') : Four B x0 x1 x2 x3 w w'.drew :=
  ⟨h.c0, h.c1, h.c2, h.c3, Fp.below_drewN h.bel 1, h.lt⟩
theorem Four.all {B : Nat} {x0 x1 x2 x3 : Value} {w w' : World} (h : Four B x0 x1 x2 x3 w w') :
    w'.cell? ⟨B, 0, none⟩ = some x0 ∧ w'.cell? ⟨B, 1, none⟩ = some x1 ∧ w'.cell? ⟨B, 2, none⟩ = some x2 ∧ w'.cell? ⟨B, 3, none⟩ = some x3 ∧ Four B x0 x1 x2 x3 w w' := ⟨h.c0, h.c1, h.c2, h.c3, h⟩

theorem Four.callAll {B : Nat} {x0 x1 x2 x3 : Value} {w w' w'' : World} (h : w'.cell? ⟨B, 0, none⟩ = some x0 ∧ w'.cell? ⟨B, 1, none⟩ = some x1 ∧ w'.cell? ⟨B, 2, none⟩ = some x2 ∧ w'.cell? ⟨B, 3, none⟩ = some x3 ∧ Four B x0 x1 x2 x3 w w')
    (b : Below w'.heap.size w' w'') :
    w''.cell? ⟨B, 0, none⟩ = some x0 ∧ w''.cell? ⟨B, 1, none⟩ = some x1 ∧ w''.cell? ⟨B, 2, none⟩ = some x2 ∧ w''.cell? ⟨B, 3, none⟩ = some x3 ∧ Four B x0 x1 x2 x3 w w'' := (h.2.2.2.2.call b).all
theorem info5 : (Try.prog.info? 5).isSome = true := by kernel_rfl
theorem eql39 (xs ys : List Int) (ha : xs.length = 4) (hb : ys.length = 4) (w : World) : (binOp .eql 39 (.agg (Ar.ints .u8 xs)) (.agg (Ar.ints .u8 ys))).run Try.prog w = .ok (.bool (xs == ys)) w := by
  obtain ⟨i, hi⟩ := Option.isSome_iff_exists.1 info5
  exact Ar.run_eql_ints Try.underlying39 Try.underlying5 (by kernel_rfl) hi (by kernel_rfl) xs ys ha hb w
def inkL (t a b c d : Int) : List Int := if t = 2 then [255 - redI a c, 255 - greenI a b c, 255 - blueI a b, d] else [a, b, c, d]
theorem inkI_eq (t a b c d : Int) : inkI t a b c d = Ar.ints .u8 (inkL t a b c d) := by unfold inkI inkL; split <;> rfl
theorem inkL_len (t a b c d : Int) : (inkL t a b c d).length = 4 := by unfold inkL; split <;> rfl
theorem eql_inks (t a b c d : Int) (w : World) : (binOp .eql 39 (.agg (inkI t a b c d)) (.agg (inkI t a b c d))).run Try.prog w = .ok (.bool true) w := by
  rw [inkI_eq, eql39 _ _ (inkL_len ..) (inkL_len ..)]; simp
set_option maxHeartbeats 400000 in
theorem law_inks (t a b c d : Int) (w : World) (h0 : 0 ≤ a) (h1 : a ≤ 255) (h2 : 0 ≤ b) (h3 : b ≤ 255) (h4 : 0 ≤ c) (h5 : c ≤ 255) :
    Calls Try.prog 6 #[.int .i8 t, .agg #[.int .u8 a, .int .u8 b, .int .u8 c, .int .u8 d]] w (T w) := by
  have hq := eql_inks t a b c d
  go_enter Try.func6, Try.ntmps6
  go_wp2_with fail
  have hF : Four w.heap.size (.int .u8 a) (.int .u8 b) (.int .u8 c) (.int .u8 d) w (w.alloc (.cells #[.int .u8 a, .int .u8 b, .int .u8 c, .int .u8 d] 39)) :=
    ⟨by simp, by simp, by simp, by simp, bl_alloc (Below.refl _ _) _, by simp⟩
  go_region_held3 (fun w' => w'.cell? ⟨w.heap.size, 0, none⟩ = some (.int .u8 a) ∧ w'.cell? ⟨w.heap.size, 1, none⟩ = some (.int .u8 b) ∧ w'.cell? ⟨w.heap.size, 2, none⟩ = some (.int .u8 c) ∧ w'.cell? ⟨w.heap.size, 3, none⟩ = some (.int .u8 d) ∧ Four w.heap.size (.int .u8 a) (.int .u8 b) (.int .u8 c) (.int .u8 d) w w')
    (first
      | exact (Four.drew hF).all
      | exact Four.callAll (by assumption) (by assumption))
    (first
      | (go_at_call 26; refine (inks_any _ _ _ _ _ _ h0 h1 h2 h3 (by omega) (by omega)).mono ?_; rintro e w1 ⟨rfl, b1⟩)
      | (go_at_call 27; refine (rinks_any _ _ _ _ _ _ h0 h1 h2 h3 (by omega) (by omega)).mono ?_; rintro e w2 ⟨rfl, b2⟩))
  go_wp2
  go_ret
  rename_i hS
  exact ⟨rfl, hS.2.2.2.2.bel⟩

theorem red_grey (y : Int) (h0 : 0 ≤ y) (h1 : y ≤ 255) : redI y 128 = y ∧ greenI y 128 128 = y ∧ blueI y 128 = y := by
  unfold redI greenI blueI clipI
  refine ⟨?_, ?_, ?_⟩ <;> (split <;> (try split) <;> omega)
theorem back_all (r g b : Int) (h0 : 0 ≤ r) (h1 : r ≤ 255) (h2 : 0 ≤ g) (h3 : g ≤ 255) (h4 : 0 ≤ b) (h5 : b ≤ 255) :
    (-3 ≤ redI (lumI r g b) (crI r g b) - r ∧ redI (lumI r g b) (crI r g b) - r ≤ 3) ∧
    (-3 ≤ greenI (lumI r g b) (cbI r g b) (crI r g b) - g ∧ greenI (lumI r g b) (cbI r g b) (crI r g b) - g ≤ 3) ∧
    (-3 ≤ blueI (lumI r g b) (cbI r g b) - b ∧ blueI (lumI r g b) (cbI r g b) - b ≤ 3) := by
  have e1 : lumI r g b = (19595 * r + 38470 * g + 7471 * b + 32768) / 65536 := by unfold lumI clipI; split <;> (try split) <;> omega
  have e2 : cbI r g b = (-11058 * r - 21710 * g + 32768 * b + 32768) / 65536 + 128 ∨ (cbI r g b = 255 ∧ (-11058 * r - 21710 * g + 32768 * b + 32768) / 65536 + 128 = 256) := by unfold cbI clipI; split <;> (try split) <;> omega
  have e3 : crI r g b = (32768 * r - 27439 * g - 5329 * b + 32768) / 65536 + 128 ∨ (crI r g b = 255 ∧ (32768 * r - 27439 * g - 5329 * b + 32768) / 65536 + 128 = 256) := by unfold crI clipI; split <;> (try split) <;> omega
  generalize lumI r g b = y at *
  generalize cbI r g b = u at *
  generalize crI r g b = v at *
  have hc : ∀ x t : Int, 0 ≤ t → t ≤ 255 → -3 ≤ x - t → x - t ≤ 3 → -3 ≤ clipI x - t ∧ clipI x - t ≤ 3 := by
    intro x t a b c d
    unfold clipI
    split <;> (try split) <;> omega
  unfold redI greenI blueI
  refine ⟨hc _ _ h0 h1 ?_ ?_, hc _ _ h2 h3 ?_ ?_, hc _ _ h4 h5 ?_ ?_⟩ <;> (rcases e2 with e2 | ⟨e2, e2'⟩ <;> rcases e3 with e3 | ⟨e3, e3'⟩ <;> omega)
end Go.Proofs.Ytnlpohhebkcjkaa.K
