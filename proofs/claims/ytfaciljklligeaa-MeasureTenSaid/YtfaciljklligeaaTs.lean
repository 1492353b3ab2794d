/- The sums of a tile. -/
import Derived.Test.YtfaciljklligeaaLm
namespace Go.Proofs.Ytfaciljklligeaa.Ct
open Go.ChangeShapes Go.WideShapes Go.RowKit Mm
structure Acc where
  n : Nat
  a : Nat
  b : Nat
  aa : Nat
  bb : Nat
  ab : Nat
def Acc.zero : Acc := ⟨0, 0, 0, 0, 0, 0⟩
def Acc.add (s : Acc) (p q : Nat) : Acc := ⟨s.n + 1, s.a + p, s.b + q, s.aa + p * p, s.bb + q * q, s.ab + p * q⟩
/-- sums as they may be, none yet too -/
structure Acc.Ok (s : Acc) : Prop where
  la : s.a ≤ 255 * s.n
  lb : s.b ≤ 255 * s.n
  laa : s.aa ≤ 65025 * s.n
  lbb : s.bb ≤ 65025 * s.n
  lab : s.ab ≤ 65025 * s.n
  ca : s.a * s.a ≤ s.n * s.aa
  cb : s.b * s.b ≤ s.n * s.bb
  cp : (s.a + s.b) * (s.a + s.b) ≤ s.n * (s.aa + s.bb + 2 * s.ab)
  cm : ((s.a : Int) - s.b) * ((s.a : Int) - s.b) ≤ s.n * ((s.aa : Int) + s.bb - 2 * s.ab)
theorem ok_zero : Acc.zero.Ok := by constructor <;> simp [Acc.zero]
theorem int_sq (x : Int) : 0 ≤ x * x := by
  rcases Int.le_total 0 x with h | h
  · exact Int.mul_nonneg h h
  · rw [← Int.neg_mul_neg]; exact Int.mul_nonneg (by omega) (by omega)
/-- one more sample: Cauchy's step, over whole numbers -/
theorem cauchy_step (n S T x : Int) (hn : 0 ≤ n) (h : S * S ≤ n * T) (h0 : n = 0 → S = 0 ∧ 0 ≤ T) : (S + x) * (S + x) ≤ (n + 1) * (T + x * x) := by
  by_cases hz : n = 0
  · obtain ⟨rfl, hT⟩ := h0 hz
    subst hz
    have := int_sq x
    grind
  · have hn1 : 0 < n := by omega
    -- n·(T + n x² - 2 S x) ≥ S² - 2 n S x + n² x² = (S - n x)² ≥ 0
    have h1 := int_sq (S - n * x)
    have h2 : 0 ≤ n * (T + n * (x * x) - 2 * (S * x)) := by grind
    have h3 : 0 ≤ T + n * (x * x) - 2 * (S * x) := by
      rcases Int.lt_or_le (T + n * (x * x) - 2 * (S * x)) 0 with h4 | h4
      · have := Int.mul_neg_of_pos_of_neg hn1 h4
        omega
      · exact h4
    grind
theorem Acc.Ok.add {s : Acc} (h : s.Ok) {p q : Nat} (hp : p ≤ 255) (hq : q ≤ 255) : (s.add p q).Ok := by
  have pp : p * p ≤ 255 * 255 := Nat.mul_le_mul hp hp
  have qq : q * q ≤ 255 * 255 := Nat.mul_le_mul hq hq
  have pq : p * q ≤ 255 * 255 := Nat.mul_le_mul hp hq
  obtain ⟨la, lb, laa, lbb, lab, ca, cb, cp, cm⟩ := h
  obtain ⟨n, a, b, aa, bb, ab⟩ := s
  dsimp only at *
  have z1 : n = 0 → a = 0 ∧ b = 0 ∧ aa = 0 ∧ bb = 0 ∧ ab = 0 := by omega
  have c1 := cauchy_step n a aa p (by omega) (by exact_mod_cast ca) (fun h => by have := z1 (by omega); omega)
  have c2 := cauchy_step n b bb q (by omega) (by exact_mod_cast cb) (fun h => by have := z1 (by omega); omega)
  have c3 := cauchy_step n ((a : Int) + b) ((aa : Int) + bb + 2 * ab) ((p : Int) + q) (by omega) (by exact_mod_cast cp) (fun h => by have := z1 (by omega); omega)
  have c4 := cauchy_step n ((a : Int) - b) ((aa : Int) + bb - 2 * ab) ((p : Int) - q) (by omega) cm (fun h => by have := z1 (by omega); omega)
  unfold Acc.add
  refine ⟨by dsimp only; omega, by dsimp only; omega, by dsimp only; omega, by dsimp only; omega, by dsimp only; omega, ?_, ?_, ?_, ?_⟩ <;> dsimp only
  · exact_mod_cast c1
  · exact_mod_cast c2
  · have e : (((a + p + (b + q)) * (a + p + (b + q)) : Nat) : Int) ≤ (((n + 1) * (aa + p * p + (bb + q * q) + 2 * (ab + p * q)) : Nat) : Int) := by push_cast; grind
    exact_mod_cast e
  · push_cast; grind
theorem Acc.Ok.sums {s : Acc} (h : s.Ok) (h1 : 1 ≤ s.n) (h64 : s.n ≤ 64) : Sums s.n s.a s.b s.aa s.bb s.ab :=
  ⟨h1, h64, h.la, h.lb, h.laa, h.lbb, h.lab, h.ca, h.cb, h.cp, by have := h.cm; grind⟩
section
variable (l l2 : List Nat) (W C c : Nat)
/-- where a sample lies -/
def atP (y x : Nat) : Nat := (y * W + x) * C + c
/-- k samples of a row more -/
def rowS (s : Acc) (y x0 : Nat) : Nat → Acc
  | 0 => s
  | k + 1 => (rowS s y x0 k).add (l.getD (atP W C c y (x0 + k)) 0) (l2.getD (atP W C c y (x0 + k)) 0)
/-- j rows -/
def tileS (y0 x0 cols : Nat) : Nat → Acc
  | 0 => Acc.zero
  | j + 1 => rowS l l2 W C c (tileS y0 x0 cols j) (y0 + j) x0 cols
variable {l l2 W C c}
theorem rowS_ok (h : Byts l) (h2 : Byts l2) {s : Acc} (hs : s.Ok) (y x0 k : Nat) : (rowS l l2 W C c s y x0 k).Ok ∧ (rowS l l2 W C c s y x0 k).n = s.n + k := by
  induction k with
  | zero => exact ⟨hs, rfl⟩
  | succ k ih => exact ⟨ih.1.add (h.at_ _) (h2.at_ _), by show (rowS l l2 W C c s y x0 k).n + 1 = _; rw [ih.2]; omega⟩
theorem tileS_ok (h : Byts l) (h2 : Byts l2) (y0 x0 cols j : Nat) : (tileS l l2 W C c y0 x0 cols j).Ok ∧ (tileS l l2 W C c y0 x0 cols j).n = j * cols := by
  induction j with
  | zero => exact ⟨ok_zero, by simp [tileS, Acc.zero]⟩
  | succ j ih =>
    have := rowS_ok (W := W) (C := C) (c := c) h h2 ih.1 (y0 + j) x0 cols
    exact ⟨this.1, by show (rowS l l2 W C c _ _ _ _).n = _; rw [this.2, ih.2, Nat.succ_mul]⟩
theorem atP_lt {H y x : Nat} (hy : y < H) (hx : x < W) (hc : c < C) : atP W C c y x < W * H * C := by
  unfold atP
  have h1 : y * W + W ≤ H * W := by rw [← Nat.succ_mul]; exact Nat.mul_le_mul_right _ hy
  have h2 : (y * W + x + 1) * C ≤ (H * W) * C := Nat.mul_le_mul_right _ (by omega)
  rw [Nat.mul_comm W H]
  rw [Nat.succ_mul] at h2
  omega
end
def likeA (s : Acc) : Nat := likeP s.n s.a s.b s.aa s.bb s.ab
end Go.Proofs.Ytfaciljklligeaa.Ct
