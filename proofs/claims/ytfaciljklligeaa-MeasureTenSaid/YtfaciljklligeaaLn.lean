/- The odd polynomial of the library's logarithm: it grows, and it adds up as an area function does. -/
import Derived.Test.YtfaciljklligeaaDl
namespace Go.Proofs.Ytfaciljklligeaa.Ct
open Go.ChangeShapes Go.WideShapes Go.RowKit Mm
/-! ### polynomials as lists -/
def pev : List Rat → Rat → Rat
  | [], _ => 0
  | c :: l, x => c + x * pev l x
def padd : List Rat → List Rat → List Rat
  | [], q => q
  | p, [] => p
  | a :: p, b :: q => (a + b) :: padd p q
def pscale (c : Rat) : List Rat → List Rat
  | [] => []
  | a :: p => (c * a) :: pscale c p
def pmul : List Rat → List Rat → List Rat
  | [], _ => []
  | a :: p, q => padd (pscale a q) (0 :: pmul p q)
def ppow (p : List Rat) : Nat → List Rat
  | 0 => [1]
  | n + 1 => pmul p (ppow p n)
def pabs : List Rat → Rat → Rat
  | [], _ => 0
  | c :: l, b => (if c < 0 then -c else c) + b * pabs l b
theorem pev_add (p q : List Rat) (x : Rat) : pev (padd p q) x = pev p x + pev q x := by
  induction p generalizing q with
  | nil => simp [padd, pev]; grind
  | cons a p ih =>
    cases q with
    | nil => simp [padd, pev]; grind
    | cons b q => simp only [padd, pev]; rw [ih]; grind
theorem pev_scale (c : Rat) (p : List Rat) (x : Rat) : pev (pscale c p) x = c * pev p x := by
  induction p with
  | nil => simp [pscale, pev]
  | cons a p ih => simp only [pscale, pev]; rw [ih]; grind
theorem pev_mul (p q : List Rat) (x : Rat) : pev (pmul p q) x = pev p x * pev q x := by
  induction p with
  | nil => simp [pmul, pev]
  | cons a p ih => simp only [pmul, pev_add, pev_scale, pev]; rw [ih]; grind
theorem pev_pow (p : List Rat) (n : Nat) (x : Rat) : pev (ppow p n) x = pev p x ^ n := by
  induction n with
  | zero => simp [ppow, pev]; grind
  | succ n ih => simp only [ppow, pev_mul]; rw [ih, Rat.pow_succ]; grind
theorem pabs_nonneg (p : List Rat) {b : Rat} (hb : 0 ≤ b) : 0 ≤ pabs p b := by
  induction p with
  | nil => simp [pabs]
  | cons c p ih =>
    have := Rat.mul_nonneg hb ih
    simp only [pabs]
    split <;> grind
theorem pev_le (p : List Rat) {x b : Rat} (h : -b ≤ x ∧ x ≤ b) : -pabs p b ≤ pev p x ∧ pev p x ≤ pabs p b := by
  have hb : 0 ≤ b := by grind
  induction p with
  | nil => simp [pabs, pev]
  | cons c p ih =>
    have hp := prod_le h ih
    have := pabs_nonneg p hb
    simp only [pabs, pev]
    split <;> constructor <;> grind
/-! ### the polynomial -/
def TT (s : Rat) : Rat := s * (2 + polyR (s * s))
def tco : List Rat := [2, cval K1, cval K2, cval K3, cval K4, cval K5, cval K6, cval K7]
/-- Σ c_j a^(2j+1) d^(2(n-1-j)), n the coefficients' number -/
def hom (a d : Rat) : List Rat → Rat
  | [] => 0
  | c :: l => c * a * (d * d) ^ l.length + a * a * hom a d l
def homP (a d : List Rat) : List Rat → List Rat
  | [] => []
  | c :: l => padd (pscale c (pmul a (ppow (pmul d d) l.length))) (pmul (pmul a a) (homP a d l))
theorem pev_hom (a d : List Rat) (l : List Rat) (x : Rat) : pev (homP a d l) x = hom (pev a x) (pev d x) l := by
  induction l with
  | nil => rfl
  | cons c l ih => simp only [homP, hom, pev_add, pev_scale, pev_mul, pev_pow]; rw [ih]; grind
def odd (s : Rat) : List Rat → Rat
  | [] => 0
  | c :: l => c * s + s * s * odd s l
theorem hom_div (a d : Rat) (hd : d ≠ 0) (l : List Rat) (h : 0 < l.length) : hom a d l * d = odd (a / d) l * (d * d) ^ l.length := by
  induction l with
  | nil => simp at h
  | cons c l ih =>
    have e : a / d * d = a := Rat.div_mul_cancel hd
    simp only [hom, odd, List.length_cons]
    generalize a / d = s at *
    subst e
    cases l with
    | nil => simp [hom, odd]; grind
    | cons c2 l =>
      have := ih (by simp)
      simp only [List.length_cons] at *
      rw [show (d * d) ^ (l.length + 1 + 1) = (d * d) ^ (l.length + 1) * (d * d) from Rat.pow_succ ..]
      generalize (d * d) ^ (l.length + 1) = P at *
      generalize hom (s * d) d (c2 :: l) = Hh at *
      generalize odd s (c2 :: l) = O at *
      grind
theorem odd_TT (s : Rat) : odd s tco = TT s := by
  unfold odd tco TT
  simp only [odd]
  unfold polyR
  generalize cval K1 = k1
  generalize cval K2 = k2
  generalize cval K3 = k3
  generalize cval K4 = k4
  generalize cval K5 = k5
  generalize cval K6 = k6
  generalize cval K7 = k7
  grind
/-- the numerator of what is left, times d^15 -/
def restP (c : Rat) : List Rat :=
  padd (pmul (homP [c, 1] [1, c] tco) [1, c]) (pscale (-1) (pmul (padd [TT c] (homP [0, 1] [1] tco)) (ppow (pmul [1, c] [1, c]) 8)))
theorem hom_one (v : Rat) (l : List Rat) : hom v 1 l = odd v l := by
  induction l with
  | nil => rfl
  | cons c l ih =>
    simp only [hom, odd]
    rw [ih]
    have : ((1 : Rat) * 1) ^ l.length = 1 := by
      rw [Rat.mul_one]
      generalize l.length = n
      induction n with
      | zero => rfl
      | succ n ih => rw [Rat.pow_succ, ih, Rat.mul_one]
    rw [this]; grind
theorem rest_eq (c v : Rat) (hd : 1 + c * v ≠ 0) : pev (restP c) v = (TT ((c + v) / (1 + c * v)) - TT c - TT v) * ((1 + c * v) * (1 + c * v)) ^ 8 := by
  have e1 : pev [c, 1] v = c + v := by simp [pev]; grind
  have e2 : pev [1, c] v = 1 + c * v := by simp [pev]; grind
  have e3 : pev [0, 1] v = v := by simp [pev]; grind
  have e4 : pev [1] v = 1 := by simp [pev]; grind
  have e5 : pev [TT c] v = TT c := by simp [pev]; grind
  unfold restP
  simp only [pev_add, pev_scale, pev_mul, pev_pow, pev_hom, e1, e2, e3, e4, e5]
  rw [hom_div _ _ hd tco (by simp [tco]), odd_TT, hom_one, odd_TT]
  rw [show tco.length = 8 from rfl]
  grind
end Go.Proofs.Ytfaciljklligeaa.Ct
