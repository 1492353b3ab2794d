/- The walks of the laws ColourBack and ColourInked. -/
import Derived.Test.YtnlpohhebkcjkaaLaws
import Derived.OpenShut
namespace Go.Proofs.Ytnlpohhebkcjkaa.K
open Go.ChangeShapes Go.WideShapes Go.RowKit I F

def absI (a b : Int) : Int := if a - b < 0 then -(a - b) else a - b
set_option maxHeartbeats 400000 in
theorem apart_any (a b : Int) (w : World) (h0 : 0 ≤ a) (h1 : a ≤ 255) (h2 : 0 ≤ b) (h3 : b ≤ 255) :
    Calls Try.prog 33 #[.int .u8 a, .int .u8 b] w fun e w' => e = .returned (.int .i64 (absI a b)) ∧ w = w' := by
  unfold absI
  by_cases h : a - b < 0
  · rw [if_pos h]
    go_enter Try.func33, Try.ntmps33
    go_wp2
    go_ret
    exact ⟨ret_int (by omega), rfl⟩
  · rw [if_neg h]
    go_enter Try.func33, Try.ntmps33
    go_wp2
    go_ret
    exact ⟨rfl, rfl⟩
theorem absI_le (a b n : Int) (h : -n ≤ a - b) (k : a - b ≤ n) : absI a b ≤ n := by unfold absI; split <;> omega
theorem grey (g : Int) (h0 : 0 ≤ g) (h1 : g ≤ 255) : lumI g g g = g ∧ cbI g g g = 128 ∧ crI g g g = 128 := by
  unfold lumI cbI crI clipI
  refine ⟨?_, ?_, ?_⟩ <;> (split <;> (try split) <;> omega)

set_option maxHeartbeats 800000 in
theorem law_back (r g b : Int) (w : World) (h0 : 0 ≤ r) (h1 : r ≤ 255) (h2 : 0 ≤ g) (h3 : g ≤ 255) (h4 : 0 ≤ b) (h5 : b ≤ 255) :
    Calls Try.prog 8 #[.int .u8 r, .int .u8 g, .int .u8 b] w (Drawn w) := by
  obtain ⟨⟨a1, a2⟩, ⟨a3, a4⟩, a5, a6⟩ := back_all r g b h0 h1 h2 h3 h4 h5
  have k1 := absI_le _ _ _ a1 a2
  have k2 := absI_le _ _ _ a3 a4
  have k3 := absI_le _ _ _ a5 a6
  clear a1 a2 a3 a4 a5 a6
  obtain ⟨g1, g2, g3⟩ := grey g h2 h3
  obtain ⟨g4, g5, g6⟩ := red_grey g h2 h3
  obtain ⟨y0, y1⟩ : 0 ≤ lumI r g b ∧ lumI r g b ≤ 255 := clipI_bd _
  obtain ⟨u0, u1⟩ : 0 ≤ cbI r g b ∧ cbI r g b ≤ 255 := clipI_bd _
  obtain ⟨v0, v1⟩ : 0 ≤ crI r g b ∧ crI r g b ≤ 255 := clipI_bd _
  obtain ⟨p0, p1⟩ : 0 ≤ redI (lumI r g b) (crI r g b) ∧ redI (lumI r g b) (crI r g b) ≤ 255 := clipI_bd _
  obtain ⟨q0, q1⟩ : 0 ≤ greenI (lumI r g b) (cbI r g b) (crI r g b) ∧ greenI (lumI r g b) (cbI r g b) (crI r g b) ≤ 255 := clipI_bd _
  obtain ⟨s0, s1⟩ : 0 ≤ blueI (lumI r g b) (cbI r g b) ∧ blueI (lumI r g b) (cbI r g b) ≤ 255 := clipI_bd _
  go_enter Try.func8, Try.ntmps8
  go_wp2_with (first
    | (go_at_call 32; refine (alive_any _).mono ?_; rintro e w' ⟨rfl, rfl⟩)
    | (go_at_call 24; refine (ycc_any _ _ _ _ (by assumption) (by assumption) (by assumption) (by assumption) (by assumption) (by assumption)).mono ?_; rintro e w' ⟨rfl, rfl⟩)
    | (go_at_call 22; refine (rgb_any _ _ _ _ (by omega) (by omega) (by omega) (by omega) (by omega) (by omega)).mono ?_; rintro e w' ⟨rfl, rfl⟩)
    | (go_at_call 33; refine (apart_any _ _ _ (by omega) (by omega) (by omega) (by omega)).mono ?_; rintro e w' ⟨rfl, rfl⟩))
  all_goals (go_ret; exact ⟨0, rfl, rfl⟩)

theorem eql39_no (w : World) (x0 x1 x2 x3 y0 y1 y2 y3 : Int) : (binOp .eql 39 (.agg #[.int .u8 x0, .int .u8 x1, .int .u8 x2, .int .u8 x3]) (.agg #[.int .u8 y0, .int .u8 y1, .int .u8 y2, .int .u8 y3])).run Try.prog w = .ok (.bool ([x0, x1, x2, x3] == [y0, y1, y2, y3])) w :=
  eql39 [x0, x1, x2, x3] [y0, y1, y2, y3] rfl rfl w
theorem u8 {a : Int} (h : (Lit.int .u8 a).wf = true) : 0 ≤ a ∧ a ≤ 255 := bounds_u8 h
theorem row_back (W : World) (a0 : Int) (w0 : (Lit.int .u8 a0).wf = true) (a1 : Int) (w1 : (Lit.int .u8 a1).wf = true) (a2 : Int) (w2 : (Lit.int .u8 a2).wf = true) :
    Calls Try.prog 8 #[.int .u8 a0, .int .u8 a1, .int .u8 a2] W fun e w' => e = .returned (.bool true) ∧ Below W.heap.size W w' :=
  (law_back a0 a1 a2 W (u8 w0).1 (u8 w0).2 (u8 w1).1 (u8 w1).2 (u8 w2).1 (u8 w2).2).mono fun _ _ h => h.row
/-- an argument of type [4]uint8: its four bytes -/
theorem four {H : Type} {enc : TypeId × Value → H} {W : World} {v : Value} {d : DataW H} {p : List MemPlace} {base : Nat} (hv : Value.okWide Try.prog W .any base 39 v) (h : DataW.Trod enc Try.prog W 0 (fun _ => true) true 39 v d p) :
    ∃ a b c e : Int, v = .agg #[.int .u8 a, .int .u8 b, .int .u8 c, .int .u8 e] ∧ (Lit.int .u8 a).wf = true ∧ (Lit.int .u8 b).wf = true ∧ (Lit.int .u8 c).wf = true ∧ (Lit.int .u8 e).wf = true := by
  obtain ⟨cs, rfl, hs, m, hc⟩ := Ar.open_array Try.underlying39 (by kernel_rfl) (by kernel_rfl) hv h
  obtain ⟨l⟩ := cs
  match l, hs with
  | [x0, x1, x2, x3], _ =>
    obtain ⟨y0, h0⟩ := hc 0 x0 rfl
    obtain ⟨y1, h1⟩ := hc 1 x1 rfl
    obtain ⟨y2, h2⟩ := hc 2 x2 rfl
    obtain ⟨y3, h3⟩ := hc 3 x3 rfl
    obtain ⟨a, rfl, wa⟩ := Ar.trod_int' Try.underlying5 h0
    obtain ⟨b, rfl, wb⟩ := Ar.trod_int' Try.underlying5 h1
    obtain ⟨c, rfl, wc⟩ := Ar.trod_int' Try.underlying5 h2
    obtain ⟨e, rfl, we⟩ := Ar.trod_int' Try.underlying5 h3
    exact ⟨a, b, c, e, rfl, wa, wb, wc, we⟩
theorem row_inks {H : Type} {enc : TypeId × Value → H} {base : Nat} (W : World) (a0 : Int) (_ : (Lit.int .i8 a0).wf = true) (v : Value) (d : DataW H) (p : List MemPlace) (hv : Value.okWide Try.prog W .any base 39 v)
    (h : DataW.Trod enc Try.prog W 0 (fun _ => true) true 39 v d p) :
    Calls Try.prog 6 #[.int .i8 a0, v] W fun e w' => e = .returned (.bool true) ∧ Below W.heap.size W w' := by
  obtain ⟨a, b, c, e, rfl, wa, wb, wc, we⟩ := four hv h
  exact law_inks a0 a b c e W (u8 wa).1 (u8 wa).2 (u8 wb).1 (u8 wb).2 (u8 wc).1 (u8 wc).2
end Go.Proofs.Ytnlpohhebkcjkaa.K
