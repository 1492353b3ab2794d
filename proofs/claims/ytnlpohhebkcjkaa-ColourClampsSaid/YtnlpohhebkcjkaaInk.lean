/- Contracts: inks, and the living examples. -/
import Derived.Test.YtnlpohhebkcjkaaReal
namespace Go.Proofs.Ytnlpohhebkcjkaa.K
open Go.ChangeShapes Go.WideShapes Go.RowKit I F

set_option maxHeartbeats 400000 in
theorem alive_any (w : World) : Calls Try.prog 32 #[] w fun e w' => e = .returned (.bool true) ∧ w = w' := by
  have e1 : lumI 255 0 0 = 76 := by decide
  have e2 : cbI 255 0 0 = 85 := by decide
  have e3 : crI 255 0 0 = 255 := by decide
  have e4 : redI 76 255 = 254 := by decide
  have e5 : greenI 76 85 255 = 0 := by decide
  have e6 : blueI 76 85 = 0 := by decide
  have hb : floatToIntVal .f64 (Fp.roundW (Fp.clampF 4643158439260848128 0 Fp.W255)) .u8 = some ((255 : Nat) : Int) := by decide +kernel
  have HB := Lib.hid hb
  clear hb
  go_enter Try.func32, Try.ntmps32
  go_wp2_with (first
    | (go_at_call 24; refine (ycc_any _ _ _ _ (by omega) (by omega) (by omega) (by omega) (by omega) (by omega)).mono ?_; rintro e w' ⟨rfl, rfl⟩)
    | (go_at_call 22; refine (rgb_any _ _ _ _ (by omega) (by omega) (by omega) (by omega) (by omega) (by omega)).mono ?_; rintro e w' ⟨rfl, rfl⟩)
    | (go_at_call 30; refine (byte_any _ _ 255 HB.out).mono ?_; rintro e w' ⟨rfl, rfl⟩))
  go_ret
  exact ⟨rfl, rfl⟩

theorem bl_alloc {w W : World} (h : Below w.heap.size w W) (o : Obj) : Below w.heap.size w (W.alloc o) := h.alloc h.size o
theorem bl_set {w W : World} (h : Below w.heap.size w W) {p : Addr} (hp : w.heap.size ≤ p.block) (u : Value) : Below w.heap.size w (W.setCell p u) := h.setCell hp u
theorem bl_drew {w W : World} (h : Below w.heap.size w W) (n : Nat) : Below w.heap.size w (W.drewN n) := Fp.below_drewN h n
def inkI (t a b c d : Int) : Array Value :=
  if t = 2 then #[.int .u8 (255 - redI a c), .int .u8 (255 - greenI a b c), .int .u8 (255 - blueI a b), .int .u8 d] else #[.int .u8 a, .int .u8 b, .int .u8 c, .int .u8 d]
set_option maxHeartbeats 400000 in
theorem inks_any (t a b c d : Int) (w : World) (h0 : 0 ≤ a) (h1 : a ≤ 255) (h2 : 0 ≤ b) (h3 : b ≤ 255) (h4 : 0 ≤ c) (h5 : c ≤ 255) :
    Calls Try.prog 26 #[.int .i8 t, .agg #[.int .u8 a, .int .u8 b, .int .u8 c, .int .u8 d]] w fun e w' => e = .returned (.agg (inkI t a b c d)) ∧ Below w.heap.size w w' := by
  unfold inkI
  by_cases h : t = 2
  · rw [if_pos h]
    have hb : (t != 2) = false := by simp [h]
    have r1 := clipI_bd (a + (91881 * (c - 128) + 32768) / 65536)
    have r2 := clipI_bd (a - (22553 * (b - 128) + 46802 * (c - 128) + 32767) / 65536)
    have r3 := clipI_bd (a + (116130 * (b - 128) + 32768) / 65536)
    obtain ⟨r10, r11⟩ : 0 ≤ redI a c ∧ redI a c ≤ 255 := r1
    obtain ⟨r20, r21⟩ : 0 ≤ greenI a b c ∧ greenI a b c ≤ 255 := r2
    obtain ⟨r30, r31⟩ : 0 ≤ blueI a b ∧ blueI a b ≤ 255 := r3
    clear h
    go_enter Try.func26, Try.ntmps26
    go_wp2_with (first | (go_at_call 22; refine (rgb_any _ _ _ _ h0 h1 h2 h3 h4 h5).mono ?_; rintro e w' ⟨rfl, rfl⟩))
    exact bodyPost_ret (v := .agg #[.int .u8 (255 - redI a c), .int .u8 (255 - greenI a b c), .int .u8 (255 - blueI a b), .int .u8 d]) (by simp [results, Try.results26, go_sem]) rfl ⟨rfl, (by repeat (first | exact Below.refl _ _ | apply bl_alloc | (refine bl_set ?_ (by simp) _)))⟩
  · rw [if_neg h]
    have hb : (t != 2) = true := by simp [h]
    clear h
    go_enter Try.func26, Try.ntmps26
    go_wp2
    exact bodyPost_ret (v := .agg #[.int .u8 a, .int .u8 b, .int .u8 c, .int .u8 d]) (by simp [results, Try.results26, go_sem]) rfl ⟨rfl, (by repeat (first | exact Below.refl _ _ | apply bl_alloc | (refine bl_set ?_ (by simp) _)))⟩
set_option maxHeartbeats 400000 in
theorem rinks_any (t a b c d : Int) (w : World) (h0 : 0 ≤ a) (h1 : a ≤ 255) (h2 : 0 ≤ b) (h3 : b ≤ 255) (h4 : 0 ≤ c) (h5 : c ≤ 255) :
    Calls Try.prog 27 #[.int .i8 t, .agg #[.int .u8 a, .int .u8 b, .int .u8 c, .int .u8 d]] w fun e w' => e = .returned (.agg (inkI t a b c d)) ∧ Below w.heap.size w w' := by
  unfold inkI
  by_cases h : t = 2
  · rw [if_pos h]
    have hb : (t != 2) = false := by simp [h]
    have r1 := clipI_bd (a + (91881 * (c - 128) + 32768) / 65536)
    have r2 := clipI_bd (a - (22553 * (b - 128) + 46802 * (c - 128) + 32767) / 65536)
    have r3 := clipI_bd (a + (116130 * (b - 128) + 32768) / 65536)
    obtain ⟨r10, r11⟩ : 0 ≤ redI a c ∧ redI a c ≤ 255 := r1
    obtain ⟨r20, r21⟩ : 0 ≤ greenI a b c ∧ greenI a b c ≤ 255 := r2
    obtain ⟨r30, r31⟩ : 0 ≤ blueI a b ∧ blueI a b ≤ 255 := r3
    clear h
    go_enter Try.func27, Try.ntmps27
    go_wp2_with (first | (go_at_call 23; refine (rrgb_any _ _ _ _ h0 h1 h2 h3 h4 h5).mono ?_; rintro e w' ⟨rfl, rfl⟩))
    exact bodyPost_ret (v := .agg #[.int .u8 (255 - redI a c), .int .u8 (255 - greenI a b c), .int .u8 (255 - blueI a b), .int .u8 d]) (by simp [results, Try.results27, go_sem]) rfl ⟨rfl, (by repeat (first | exact Below.refl _ _ | apply bl_alloc | (refine bl_set ?_ (by simp) _)))⟩
  · rw [if_neg h]
    have hb : (t != 2) = true := by simp [h]
    clear h
    go_enter Try.func27, Try.ntmps27
    go_wp2
    exact bodyPost_ret (v := .agg #[.int .u8 a, .int .u8 b, .int .u8 c, .int .u8 d]) (by simp [results, Try.results27, go_sem]) rfl ⟨rfl, (by repeat (first | exact Below.refl _ _ | apply bl_alloc | (refine bl_set ?_ (by simp) _)))⟩
end Go.Proofs.Ytnlpohhebkcjkaa.K
