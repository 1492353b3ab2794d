/- Whole colours are near the real ones: what the law ColourNear asks. -/
import Derived.Test.YtnlpohhebkcjkaaNear
namespace Go.Proofs.Ytnlpohhebkcjkaa.K
open Go.ChangeShapes Go.WideShapes Go.RowKit I F

theorem int_green (y b r : Int) (h0 : 0 ≤ r) (h1 : r ≤ 255) (h2 : 0 ≤ b) (h3 : b ≤ 255) :
    ((y - (22553 * (b - 128) + 46802 * (r - 128) + 32767) / 65536 : Int) : Rat) - ((y : Rat) - 344136286 / 1000000000 * ((b : Rat) - 128) - 714136286 / 1000000000 * ((r : Rat) - 128)) ≤ 502 / 1000 ∧
    ((y : Rat) - 344136286 / 1000000000 * ((b : Rat) - 128) - 714136286 / 1000000000 * ((r : Rat) - 128)) - ((y - (22553 * (b - 128) + 46802 * (r - 128) + 32767) / 65536 : Int) : Rat) ≤ 502 / 1000 := by
  obtain ⟨q, hq⟩ : ∃ q, q = (22553 * (b - 128) + 46802 * (r - 128) + 32767) / 65536 := ⟨_, rfl⟩
  rw [← hq]
  have a1 : 65536 * q ≤ 22553 * (b - 128) + 46802 * (r - 128) + 32767 := by omega
  have a2 : 22553 * (b - 128) + 46802 * (r - 128) + 32767 < 65536 * q + 65536 := by omega
  have b1 : ((65536 * q : Int) : Rat) ≤ ((22553 * (b - 128) + 46802 * (r - 128) + 32767 : Int) : Rat) := Rat.intCast_le_intCast.2 a1
  have b2 : ((22553 * (b - 128) + 46802 * (r - 128) + 32767 : Int) : Rat) < ((65536 * q + 65536 : Int) : Rat) := Rat.intCast_lt_intCast.2 a2
  have b3 : (0 : Rat) ≤ (r : Rat) := by exact_mod_cast h0
  have b4 : (r : Rat) ≤ ((255 : Int) : Rat) := Rat.intCast_le_intCast.2 h1
  have b3' : (0 : Rat) ≤ (b : Rat) := by exact_mod_cast h2
  have b4' : (b : Rat) ≤ ((255 : Int) : Rat) := Rat.intCast_le_intCast.2 h3
  have b5 : ((255 : Int) : Rat) = 255 := rfl
  rw [b5] at b4 b4'
  simp only [Rat.intCast_mul, Rat.intCast_add, Rat.intCast_sub] at b1 b2
  rw [Rat.intCast_sub]
  have z1 : ((22553 : Int) : Rat) = 22553 := rfl
  have z2 : ((32767 : Int) : Rat) = 32767 := rfl
  have z3 : ((65536 : Int) : Rat) = 65536 := rfl
  have z4 : ((128 : Int) : Rat) = 128 := rfl
  have z5 : ((46802 : Int) : Rat) = 46802 := rfl
  rw [z1, z2, z3, z4, z5] at b1 b2
  constructor <;> grind
theorem int_blue (y b : Int) (h0 : 0 ≤ b) (h1 : b ≤ 255) : ((y + (116130 * (b - 128) + 32768) / 65536 : Int) : Rat) - ((y : Rat) + 1772 / 1000 * ((b : Rat) - 128)) ≤ 502 / 1000 ∧
    ((y : Rat) + 1772 / 1000 * ((b : Rat) - 128)) - ((y + (116130 * (b - 128) + 32768) / 65536 : Int) : Rat) ≤ 502 / 1000 := by
  obtain ⟨q, hq⟩ : ∃ q, q = (116130 * (b - 128) + 32768) / 65536 := ⟨_, rfl⟩
  rw [← hq]
  have a1 : 65536 * q ≤ 116130 * (b - 128) + 32768 := by omega
  have a2 : 116130 * (b - 128) + 32768 < 65536 * q + 65536 := by omega
  have b1 : ((65536 * q : Int) : Rat) ≤ ((116130 * (b - 128) + 32768 : Int) : Rat) := Rat.intCast_le_intCast.2 a1
  have b2 : ((116130 * (b - 128) + 32768 : Int) : Rat) < ((65536 * q + 65536 : Int) : Rat) := Rat.intCast_lt_intCast.2 a2
  have b3 : (0 : Rat) ≤ (b : Rat) := by exact_mod_cast h0
  have b4 : (b : Rat) ≤ ((255 : Int) : Rat) := Rat.intCast_le_intCast.2 h1
  have b5 : ((255 : Int) : Rat) = 255 := rfl
  rw [b5] at b4
  simp only [Rat.intCast_mul, Rat.intCast_add, Rat.intCast_sub] at b1 b2
  rw [Rat.intCast_add]
  have z1 : ((116130 : Int) : Rat) = 116130 := rfl
  have z2 : ((32768 : Int) : Rat) = 32768 := rfl
  have z3 : ((65536 : Int) : Rat) = 65536 := rfl
  have z4 : ((128 : Int) : Rat) = 128 := rfl
  rw [z1, z2, z3, z4] at b1 b2
  constructor <;> grind

theorem byte_word (n : Int) (h0 : 0 ≤ n) (h1 : n ≤ 255) : Fp.fin (floatOfInt .f64 n) ∧ Fp.val (floatOfInt .f64 n) = (n : Rat) ∧ (0 : Rat) ≤ (n : Rat) ∧ (n : Rat) ≤ 255 := by
  obtain ⟨a, b⟩ := Fp.val_int n (by omega)
  refine ⟨a, b, by exact_mod_cast h0, ?_⟩
  have : (n : Rat) ≤ ((255 : Int) : Rat) := Rat.intCast_le_intCast.2 h1
  exact this

/-- the first half of ColourNear: each byte is no more than one apart -/
theorem near_bytes (y cb cr : Int) (h0 : 0 ≤ y) (h1 : y ≤ 255) (h2 : 0 ≤ cb) (h3 : cb ≤ 255) (h4 : 0 ≤ cr) (h5 : cr ≤ 255) {a b c : Nat}
    (h : RealR (floatOfInt .f64 y) (floatOfInt .f64 cb) (floatOfInt .f64 cr) a b c) :
    (∀ n, Fp.ByteR a n → absI (redI y cr) n ≤ 1) ∧ (∀ n, Fp.ByteR b n → absI (greenI y cb cr) n ≤ 1) ∧ (∀ n, Fp.ByteR c n → absI (blueI y cb) n ≤ 1) := by
  obtain ⟨f1, v1, a1, b1⟩ := byte_word y h0 h1
  obtain ⟨f2, v2, a2, b2⟩ := byte_word cb h2 h3
  obtain ⟨f3, v3, a3, b3⟩ := byte_word cr h4 h5
  obtain ⟨q1, q2, q3⟩ := real_near f1 f2 f3 (by rw [v1]; grind) (by rw [v1]; grind) (by rw [v2]; grind) (by rw [v2]; grind) (by rw [v3]; grind) (by rw [v3]; grind) h
  rw [v1, v3] at q1
  rw [v1, v2, v3] at q2
  rw [v1, v2] at q3
  obtain ⟨r1, r2⟩ := int_red y cr h4 h5
  obtain ⟨g1, g2⟩ := int_green y cb cr h4 h5 h2 h3
  obtain ⟨u1, u2⟩ := int_blue y cb h2 h3
  exact ⟨fun n hn => clip_near _ a n _ q1 r1 r2 hn, fun n hn => clip_near _ b n _ q2 g1 g2 hn, fun n hn => clip_near _ c n _ q3 u1 u2 hn⟩

def W4 : Nat := 4616189618054758400
theorem val_4 : Fp.fin W4 ∧ Fp.val W4 = 4 := ⟨Fp.fin_rung (by decide +kernel), by decide +kernel⟩

/-- what 'within' needs -/
def Within (n x : Nat) : Prop := ∀ t u, ∃ r1 r2, fv .sub .f64 n (Fp.clampF x 0 Fp.W255) t = r1 ∧ fv .sub .f64 (Fp.clampF x 0 Fp.W255) n u = r2 ∧
  (ord r1 4616189618054758400 == some .lt || ord r1 4616189618054758400 == some .eq) = true ∧ (ord r2 4616189618054758400 == some .lt || ord r2 4616189618054758400 == some .eq) = true

theorem clamp_val {x : Nat} (hx : Fp.fin x) : Fp.fin (Fp.clampF x 0 Fp.W255) ∧
    ((Fp.val x < 0 ∧ Fp.val (Fp.clampF x 0 Fp.W255) = 0) ∨ (255 < Fp.val x ∧ Fp.val (Fp.clampF x 0 Fp.W255) = 255) ∨ (0 ≤ Fp.val x ∧ Fp.val x ≤ 255 ∧ Fp.val (Fp.clampF x 0 Fp.W255) = Fp.val x)) := by
  have o1 := (Fp.order_val hx hx).2.1.2 rfl
  have o2 := (Fp.order_val hx Fp.val_0.1).1
  have o3 := (Fp.order_val hx Fp.val_255.1).2.2
  rw [Fp.val_0.2] at o2
  rw [Fp.val_255.2] at o3
  by_cases a : Fp.val x < 0
  · have : Fp.clampF x 0 Fp.W255 = 0 := by unfold Fp.clampF; rw [o2.2 a]; simp
    rw [this]
    exact ⟨Fp.val_0.1, .inl ⟨a, Fp.val_0.2⟩⟩
  · have o2' : (Ieee.double.order x 0 == some .lt) = false := by
      rw [beq_eq_false_iff_ne]; intro hh; exact a (o2.1 hh)
    by_cases b : 255 < Fp.val x
    · have : Fp.clampF x 0 Fp.W255 = Fp.W255 := by unfold Fp.clampF; rw [o1, o2', o3.2 b]; simp
      rw [this]
      exact ⟨Fp.val_255.1, .inr (.inl ⟨b, Fp.val_255.2⟩)⟩
    · have o3' : (Ieee.double.order x Fp.W255 == some .gt) = false := by
        rw [beq_eq_false_iff_ne]; intro hh; exact b (o3.1 hh)
      have hc : Fp.clampF x 0 Fp.W255 = x := by unfold Fp.clampF; rw [o1, o2', o3']; simp
      rw [hc]
      exact ⟨hx, .inr (.inr ⟨by grind, by grind, rfl⟩)⟩

theorem within_of (I : Int) (x : Nat) (v : Rat) (hc : Close x v) (h1 : (I : Rat) - v ≤ 7 / 2) (h2 : v - (I : Rat) ≤ 7 / 2) : Within (floatOfInt .f64 (clipI I)) x := by
  intro t u
  obtain ⟨c0, c1⟩ := clipI_bd I
  obtain ⟨fn, vn, n0, n1⟩ := byte_word (clipI I) c0 c1
  obtain ⟨fx, hx⟩ := clamp_val hc.fin
  have e1 := eps_le
  have hu := hc.up
  have hl := hc.low
  have hI : ((clipI I = I ∧ 0 ≤ I ∧ I ≤ 255) ∨ (clipI I = 0 ∧ I < 0) ∨ (clipI I = 255 ∧ 255 < I)) := by
    unfold clipI; split <;> (try split) <;> omega
  have hd : ((clipI I : Int) : Rat) - Fp.val (Fp.clampF x 0 Fp.W255) ≤ 36 / 10 ∧ Fp.val (Fp.clampF x 0 Fp.W255) - ((clipI I : Int) : Rat) ≤ 36 / 10 := by
    rcases hI with ⟨e, i0, i1⟩ | ⟨e, i0⟩ | ⟨e, i0⟩
    · have i0' : (0 : Rat) ≤ (I : Rat) := by exact_mod_cast i0
      have i1' : (I : Rat) ≤ ((255 : Int) : Rat) := Rat.intCast_le_intCast.2 i1
      have z : ((255 : Int) : Rat) = 255 := rfl
      rw [z] at i1'
      rw [e]
      rcases hx with ⟨q, q'⟩ | ⟨q, q'⟩ | ⟨q, q2, q'⟩ <;> rw [q'] <;> constructor <;> grind
    · have i0' : (I : Rat) < ((0 : Int) : Rat) := Rat.intCast_lt_intCast.2 i0
      have z : ((0 : Int) : Rat) = 0 := rfl
      rw [z] at i0'
      rw [e, z]
      rcases hx with ⟨q, q'⟩ | ⟨q, q'⟩ | ⟨q, q2, q'⟩ <;> rw [q'] <;> constructor <;> grind
    · have i0' : ((255 : Int) : Rat) < (I : Rat) := Rat.intCast_lt_intCast.2 i0
      have z : ((255 : Int) : Rat) = 255 := rfl
      rw [z] at i0'
      rw [e, z]
      rcases hx with ⟨q, q'⟩ | ⟨q, q'⟩ | ⟨q, q2, q'⟩ <;> rw [q'] <;> constructor <;> grind
  obtain ⟨d1, d2⟩ := hd
  have s1 := sub_op fn fx (by rw [vn]; grind) (by rw [vn]; grind) t
  have s2 := sub_op fx fn (by rw [vn]; grind) (by rw [vn]; grind) u
  rw [vn] at s1 s2
  refine ⟨_, _, rfl, rfl, ?_, ?_⟩
  · have o := Fp.order_val s1.fin val_4.1
    rw [val_4.2] at o
    have hup := s1.up
    have : ord (fv .sub .f64 (floatOfInt .f64 (clipI I)) (Fp.clampF x 0 Fp.W255) t) 4616189618054758400 = some .lt := o.1.2 (by grind)
    rw [this]; rfl
  · have o := Fp.order_val s2.fin val_4.1
    rw [val_4.2] at o
    have hup := s2.up
    have : ord (fv .sub .f64 (Fp.clampF x 0 Fp.W255) (floatOfInt .f64 (clipI I)) u) 4616189618054758400 = some .lt := o.1.2 (by grind)
    rw [this]; rfl

/-- an offset: at most one either way -/
structure Off (o : Nat) : Prop where
  fin : Fp.fin o
  low : -1 ≤ Fp.val o
  up : Fp.val o ≤ 1
theorem off_word (n : Int) (h0 : 0 ≤ n) (h1 : n ≤ 255) {o : Nat} (ho : Off o) (t : Nat) : Fp.fin (fv .add .f64 (floatOfInt .f64 n) o t) ∧
    Fp.val (fv .add .f64 (floatOfInt .f64 n) o t) - (n : Rat) ≤ 10001 / 10000 ∧ (n : Rat) - Fp.val (fv .add .f64 (floatOfInt .f64 n) o t) ≤ 10001 / 10000 := by
  obtain ⟨f, v, a, b⟩ := byte_word n h0 h1
  have l := ho.low
  have u := ho.up
  have e1 := eps_le
  have h := add_op f ho.fin (by rw [v]; grind) (by rw [v]; grind) t
  rw [v] at h
  have hu := h.up
  have hl := h.low
  exact ⟨h.fin, by grind, by grind⟩

theorem near_within (y cb cr : Int) (h0 : 0 ≤ y) (h1 : y ≤ 255) (h2 : 0 ≤ cb) (h3 : cb ≤ 255) (h4 : 0 ≤ cr) (h5 : cr ≤ 255) {o1 o2 o3 a b c : Nat} (k1 : Off o1) (k2 : Off o2) (k3 : Off o3) (t1 t2 t3 : Nat)
    (h : RealR (fv .add .f64 (floatOfInt .f64 y) o1 t1) (fv .add .f64 (floatOfInt .f64 cb) o2 t2) (fv .add .f64 (floatOfInt .f64 cr) o3 t3) a b c) :
    Within (floatOfInt .f64 (redI y cr)) a ∧ Within (floatOfInt .f64 (greenI y cb cr)) b ∧ Within (floatOfInt .f64 (blueI y cb)) c := by
  obtain ⟨f1, v1, a1, b1⟩ := byte_word y h0 h1
  obtain ⟨f2, v2, a2, b2⟩ := byte_word cb h2 h3
  obtain ⟨f3, v3, a3, b3⟩ := byte_word cr h4 h5
  obtain ⟨m1, p1, q1⟩ := off_word y h0 h1 k1 t1
  obtain ⟨m2, p2, q2⟩ := off_word cb h2 h3 k2 t2
  obtain ⟨m3, p3, q3⟩ := off_word cr h4 h5 k3 t3
  obtain ⟨r1, r2⟩ := int_red y cr h4 h5
  obtain ⟨g1, g2⟩ := int_green y cb cr h4 h5 h2 h3
  obtain ⟨u1, u2⟩ := int_blue y cb h2 h3
  clear f1 f2 f3 v1 v2 v3
  obtain ⟨n1, n2, n3⟩ := real_near m1 m2 m3 (by grind) (by grind) (by grind) (by grind) (by grind) (by grind) h
  refine ⟨within_of _ a _ n1 ?_ ?_, within_of _ b _ n2 ?_ ?_, within_of _ c _ n3 ?_ ?_⟩
  · clear g1 g2 u1 u2 p2 q2; grind
  · clear g1 g2 u1 u2 p2 q2; grind
  · clear r1 r2 u1 u2; grind
  · clear r1 r2 u1 u2; grind
  · clear g1 g2 r1 r2 p3 q3; grind
  · clear g1 g2 r1 r2 p3 q3; grind
end Go.Proofs.Ytnlpohhebkcjkaa.K
