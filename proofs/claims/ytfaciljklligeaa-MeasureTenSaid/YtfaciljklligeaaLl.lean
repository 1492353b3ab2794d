/- How much a tile is alike: the number, and its bounds. -/
import Derived.Test.YtfaciljklligeaaLk
namespace Go.Proofs.Ytfaciljklligeaa.Ct
open Go.ChangeShapes Go.WideShapes Go.RowKit Mm
/-- the words of the formula -/
def W2 : Nat := 4611686018427387904
def WA : Nat := 4619007182571632067
def WB : Nat := 4633433126971774075
theorem fin_W2 : Fp.fin W2 ∧ Fp.val W2 = 2 := ⟨⟨_, _, _, (by decide +kernel : Ieee.double.read W2 = .number false (2 ^ 52) (-51))⟩, by decide +kernel⟩
theorem fin_WA : Fp.fin WA ∧ 6 ≤ Fp.val WA ∧ Fp.val WA ≤ 7 := ⟨⟨_, _, _, (by decide +kernel : Ieee.double.read WA = .number false (2 ^ 52 + WA % 2 ^ 52) (-1074 + (WA / 2 ^ 52 - 1 : Nat)))⟩, by decide +kernel⟩
theorem fin_WB : Fp.fin WB ∧ 58 ≤ Fp.val WB ∧ Fp.val WB ≤ 59 := ⟨⟨_, _, _, (by decide +kernel : Ieee.double.read WB = .number false (2 ^ 52 + WB % 2 ^ 52) (-1074 + (WB / 2 ^ 52 - 1 : Nat)))⟩, by decide +kernel⟩
/-- sums of a tile as they may be -/
structure Sums (n a b aa bb ab : Nat) : Prop where
  n1 : 1 ≤ n
  n64 : n ≤ 64
  la : a ≤ 255 * n
  lb : b ≤ 255 * n
  laa : aa ≤ 65025 * n
  lbb : bb ≤ 65025 * n
  lab : ab ≤ 65025 * n
  ca : a * a ≤ n * aa
  cb : b * b ≤ n * bb
  cp : (a + b) * (a + b) ≤ n * (aa + bb + 2 * ab)
  cm : ((a : Int) - b) * ((a : Int) - b) + n * (2 * ab) ≤ n * ((aa : Int) + bb)
def F (op : BinOp) (x y r : Nat) : Prop := floatBits op .f64 x y = some r
abbrev foi (n : Nat) : Nat := floatOfInt .f64 (n : Int)
/-- the run of the formula -/
structure LikeRun (n a b aa bb ab p q pp qq pq ga gb gg u v w p2 both w2 b1 c1 above d0 d e0 e below r : Nat) : Prop where
  hp : F .quo (foi a) (foi n) p
  hq : F .quo (foi b) (foi n) q
  hpp : F .mul p p pp
  hqq : F .mul q q qq
  hpq : F .mul p q pq
  hga : F .quo (foi aa) (foi n) ga
  hgb : F .quo (foi bb) (foi n) gb
  hgg : F .quo (foi ab) (foi n) gg
  hu : F .sub ga pp u
  hv : F .sub gb qq v
  hw : F .sub gg pq w
  hp2 : F .mul W2 p p2
  hboth : F .mul p2 q both
  hw2 : F .mul W2 w w2
  hb1 : F .add both WA b1
  hc1 : F .add w2 WB c1
  habove : F .mul b1 c1 above
  hd0 : F .add pp qq d0
  hd : F .add d0 WA d
  he0 : F .add u v e0
  he : F .add e0 WB e
  hbelow : F .mul d e below
  hr : F .quo above below r
/-- the reals behind -/
theorem real_sums {n a b aa bb ab : Nat} (h : Sums n a b aa bb ab) :
    ((a : Rat) / n) * ((a : Rat) / n) ≤ (aa : Rat) / n ∧ ((b : Rat) / n) * ((b : Rat) / n) ≤ (bb : Rat) / n ∧
      ((a : Rat) / n + (b : Rat) / n) * ((a : Rat) / n + (b : Rat) / n) ≤ (aa : Rat) / n + (bb : Rat) / n + 2 * ((ab : Rat) / n) ∧
      ((a : Rat) / n - (b : Rat) / n) * ((a : Rat) / n - (b : Rat) / n) ≤ (aa : Rat) / n + (bb : Rat) / n - 2 * ((ab : Rat) / n) := by
  have hnr : (0 : Rat) < (n : Rat) := by exact_mod_cast h.n1
  have hne := Rat.ne_of_gt hnr
  have hnn : (0 : Rat) < (n : Rat) * (n : Rat) := Rat.mul_pos hnr hnr
  have ea : (a : Rat) / n * n = a := Rat.div_mul_cancel hne
  have eb : (b : Rat) / n * n = b := Rat.div_mul_cancel hne
  have eaa : (aa : Rat) / n * n = aa := Rat.div_mul_cancel hne
  have ebb : (bb : Rat) / n * n = bb := Rat.div_mul_cancel hne
  have eab : (ab : Rat) / n * n = ab := Rat.div_mul_cancel hne
  have ca : (a : Rat) * a ≤ n * aa := by exact_mod_cast h.ca
  have cb : (b : Rat) * b ≤ n * bb := by exact_mod_cast h.cb
  have cp : ((a : Rat) + b) * ((a : Rat) + b) ≤ n * (aa + bb + 2 * ab) := by exact_mod_cast h.cp
  have cm : ((a : Rat) - b) * ((a : Rat) - b) + n * (2 * ab) ≤ n * ((aa : Rat) + bb) := by
    have := h.cm
    have h2 : ((((a : Int) - b) * ((a : Int) - b) + n * (2 * ab) : Int) : Rat) ≤ ((n * ((aa : Int) + bb) : Int) : Rat) := by exact_mod_cast this
    push_cast at h2
    exact h2
  generalize (a : Rat) / n = P at *
  generalize (b : Rat) / n = Q at *
  generalize (aa : Rat) / n = A at *
  generalize (bb : Rat) / n = B at *
  generalize (ab : Rat) / n = G at *
  rw [← ea, ← eaa] at ca
  rw [← eb, ← ebb] at cb
  rw [← ea, ← eb, ← eaa, ← ebb, ← eab] at cp cm
  refine ⟨?_, ?_, ?_, ?_⟩
  · exact Rat.le_of_mul_le_mul_right (c := (n : Rat) * n) (by grind) hnn
  · exact Rat.le_of_mul_le_mul_right (c := (n : Rat) * n) (by grind) hnn
  · exact Rat.le_of_mul_le_mul_right (c := (n : Rat) * n) (by grind) hnn
  · exact Rat.le_of_mul_le_mul_right (c := (n : Rat) * n) (by grind) hnn
theorem eps_val : eps = 13 / 100000000000000000 := rfl
set_option maxHeartbeats 1600000 in
theorem like_ex {n a b aa bb ab : Nat} (h : Sums n a b aa bb ab) :
    ∃ p q pp qq pq ga gb gg u v w p2 both w2 b1 c1 above d0 d e0 e below r, LikeRun n a b aa bb ab p q pp qq pq ga gb gg u v w p2 both w2 b1 c1 above d0 d e0 e below r ∧ Fp.fin r ∧
      -(1 + 1 / 4000000000) ≤ Fp.val r ∧ Fp.val r ≤ 1 + 1 / 4000000000 := by
  obtain ⟨r1, r2, r3, r4⟩ := real_sums h
  obtain ⟨p, hp, fp, np, P0, P1⟩ := quo_int a n h.n1 h.n64 255 (by omega) (by omega) h.la
  obtain ⟨q, hq, fq, nq, Q0, Q1⟩ := quo_int b n h.n1 h.n64 255 (by omega) (by omega) h.lb
  obtain ⟨ga, hga, fga, nga, A0, A1⟩ := quo_int aa n h.n1 h.n64 65025 (by omega) (by omega) h.laa
  obtain ⟨gb, hgb, fgb, ngb, B0, B1⟩ := quo_int bb n h.n1 h.n64 65025 (by omega) (by omega) h.lbb
  obtain ⟨gg, hgg, fgg, ngg, G0, G1⟩ := quo_int ab n h.n1 h.n64 65025 (by omega) (by omega) h.lab
  have k255 : ((255 : Nat) : Rat) = 255 := rfl
  have k65 : ((65025 : Nat) : Rat) = 65025 := rfl
  rw [k255] at np nq P1 Q1
  rw [k65] at nga ngb ngg A1 B1 G1
  generalize (a : Rat) / n = P at *
  generalize (b : Rat) / n = Q at *
  generalize (aa : Rat) / n = A at *
  generalize (bb : Rat) / n = B at *
  generalize (ab : Rat) / n = G at *
  have np1 : Near (Fp.val p) P (1 / 10000000000000) := near_le np (by decide +kernel)
  have nq1 : Near (Fp.val q) Q (1 / 10000000000000) := near_le nq (by decide +kernel)
  have na1 : Near (Fp.val ga) A (26 / 1000000000000) := near_le nga (by decide +kernel)
  have nb1 : Near (Fp.val gb) B (26 / 1000000000000) := near_le ngb (by decide +kernel)
  have ng1 : Near (Fp.val gg) G (26 / 1000000000000) := near_le ngg (by decide +kernel)
  -- products of the reals
  have PP := prod_le (x := P) (y := P) (α := 255) (d := 255) (by grind) (by grind)
  have QQ := prod_le (x := Q) (y := Q) (α := 255) (d := 255) (by grind) (by grind)
  have PQ := prod_le (x := P) (y := Q) (α := 255) (d := 255) (by grind) (by grind)
  have PQ0 := Rat.mul_nonneg P0 Q0
  have PP0 := Rat.mul_nonneg P0 P0
  have QQ0 := Rat.mul_nonneg Q0 Q0
  have mpp := near_mul np1 np1 (α := 255) (β := 255) (by grind) (by grind)
  have mqq := near_mul nq1 nq1 (α := 255) (β := 255) (by grind) (by grind)
  have mpq := near_mul np1 nq1 (α := 255) (β := 255) (by grind) (by grind)
  have mpp1 : Near (Fp.val p * Fp.val p) (P * P) (52 / 1000000000000) := near_le mpp (by decide +kernel)
  have mqq1 : Near (Fp.val q * Fp.val q) (Q * Q) (52 / 1000000000000) := near_le mqq (by decide +kernel)
  have mpq1 : Near (Fp.val p * Fp.val q) (P * Q) (52 / 1000000000000) := near_le mpq (by decide +kernel)
  clear mpp mqq mpq np nq nga ngb ngg
  obtain ⟨pp, hpp, fpp, n1⟩ := mul_near fp fp 65100 (by decide +kernel) (by decide +kernel) (by unfold Near at mpp1; constructor <;> grind)
  obtain ⟨qq, hqq, fqq, n2⟩ := mul_near fq fq 65100 (by decide +kernel) (by decide +kernel) (by unfold Near at mqq1; constructor <;> grind)
  obtain ⟨pq, hpq, fpq, n3⟩ := mul_near fp fq 65100 (by decide +kernel) (by decide +kernel) (by unfold Near at mpq1; constructor <;> grind)
  have npp : Near (Fp.val pp) (P * P) (61 / 1000000000000) := near_le (near_tri n1 mpp1) (by decide +kernel)
  have nqq : Near (Fp.val qq) (Q * Q) (61 / 1000000000000) := near_le (near_tri n2 mqq1) (by decide +kernel)
  have npq : Near (Fp.val pq) (P * Q) (61 / 1000000000000) := near_le (near_tri n3 mpq1) (by decide +kernel)
  clear n1 n2 n3 mpp1 mqq1 mpq1
  have su := near_sub na1 npp
  have sv := near_sub nb1 nqq
  have sw := near_sub ng1 npq
  obtain ⟨u, hu, fu, n1⟩ := sub_near fga fpp 65100 (by decide +kernel) (by decide +kernel) (by unfold Near at su; constructor <;> grind)
  obtain ⟨v, hv, fv, n2⟩ := sub_near fgb fqq 65100 (by decide +kernel) (by decide +kernel) (by unfold Near at sv; constructor <;> grind)
  obtain ⟨w, hw, fw, n3⟩ := sub_near fgg fpq 65100 (by decide +kernel) (by decide +kernel) (by unfold Near at sw; constructor <;> grind)
  have nu : Near (Fp.val u) (A - P * P) (1 / 10000000000) := near_le (near_tri n1 su) (by decide +kernel)
  have nv : Near (Fp.val v) (B - Q * Q) (1 / 10000000000) := near_le (near_tri n2 sv) (by decide +kernel)
  have nw : Near (Fp.val w) (G - P * Q) (1 / 10000000000) := near_le (near_tri n3 sw) (by decide +kernel)
  clear n1 n2 n3 su sv sw na1 nb1 ng1 npq
  -- 2p, both, 2w
  obtain ⟨f2, v2⟩ := fin_W2
  obtain ⟨p2, hp2, fp2, n1⟩ := mul_near f2 fp 600 (by decide +kernel) (by decide +kernel) (by rw [v2]; unfold Near at np1; constructor <;> grind)
  rw [v2] at n1
  have np2 : Near (Fp.val p2) (2 * P) (3 / 10000000000000) := by
    have : Near (2 * Fp.val p) (2 * P) (2 / 10000000000000) := by unfold Near at *; constructor <;> grind
    exact near_le (near_tri n1 this) (by decide +kernel)
  have mb := near_mul np2 nq1 (α := 510) (β := 255) (by grind) (by grind)
  have mb1 : Near (Fp.val p2 * Fp.val q) (2 * P * Q) (13 / 100000000000) := near_le mb (by decide +kernel)
  obtain ⟨both, hboth, fboth, n2⟩ := mul_near fp2 fq 131000 (by decide +kernel) (by decide +kernel) (by unfold Near at mb1; constructor <;> grind)
  have nboth : Near (Fp.val both) (2 * P * Q) (15 / 100000000000) := near_le (near_tri n2 mb1) (by decide +kernel)
  obtain ⟨w2, hw2, fw2, n3⟩ := mul_near f2 fw 131000 (by decide +kernel) (by decide +kernel) (by rw [v2]; unfold Near at nw; constructor <;> grind)
  rw [v2] at n3
  have nw2 : Near (Fp.val w2) (2 * (G - P * Q)) (23 / 100000000000) := by
    have : Near (2 * Fp.val w) (2 * (G - P * Q)) (2 / 10000000000) := by unfold Near at *; constructor <;> grind
    exact near_le (near_tri n3 this) (by decide +kernel)
  clear n1 n2 n3 mb mb1 np2 np1 nq1 nw
  obtain ⟨fA, A6, A7⟩ := fin_WA
  obtain ⟨fB, B58, B59⟩ := fin_WB
  have sb := near_add nboth (near_self (Fp.val WA))
  have sc := near_add nw2 (near_self (Fp.val WB))
  obtain ⟨b1, hb1, fb1, n1⟩ := add_near fboth fA 131100 (by decide +kernel) (by decide +kernel) (by unfold Near at sb; constructor <;> grind)
  obtain ⟨c1, hc1, fc1, n2⟩ := add_near fw2 fB 131200 (by decide +kernel) (by decide +kernel) (by unfold Near at sc; constructor <;> grind)
  have nb1 : Near (Fp.val b1) (2 * P * Q + Fp.val WA) (2 / 10000000000) := near_le (near_tri n1 sb) (by decide +kernel)
  have nc1 : Near (Fp.val c1) (2 * (G - P * Q) + Fp.val WB) (3 / 10000000000) := near_le (near_tri n2 sc) (by decide +kernel)
  clear n1 n2 sb sc nboth nw2
  -- the lower parts
  have sd := near_add npp nqq
  obtain ⟨d0, hd0, fd0, n1⟩ := add_near fpp fqq 131000 (by decide +kernel) (by decide +kernel) (by unfold Near at sd; constructor <;> grind)
  have nd0 : Near (Fp.val d0) (P * P + Q * Q) (15 / 100000000000) := near_le (near_tri n1 sd) (by decide +kernel)
  have sd2 := near_add nd0 (near_self (Fp.val WA))
  obtain ⟨d, hd, fd, n2⟩ := add_near fd0 fA 131100 (by decide +kernel) (by decide +kernel) (by unfold Near at sd2; constructor <;> grind)
  have nd : Near (Fp.val d) (P * P + Q * Q + Fp.val WA) (2 / 10000000000) := near_le (near_tri n2 sd2) (by decide +kernel)
  have se := near_add nu nv
  obtain ⟨e0, he0, fe0, n3⟩ := add_near fu fv 131000 (by decide +kernel) (by decide +kernel) (by unfold Near at se; constructor <;> grind)
  have ne0 : Near (Fp.val e0) (A - P * P + (B - Q * Q)) (22 / 100000000000) := near_le (near_tri n3 se) (by decide +kernel)
  have se2 := near_add ne0 (near_self (Fp.val WB))
  obtain ⟨e, he, fe, n4⟩ := add_near fe0 fB 131200 (by decide +kernel) (by decide +kernel) (by unfold Near at se2; constructor <;> grind)
  have ne : Near (Fp.val e) (A - P * P + (B - Q * Q) + Fp.val WB) (3 / 10000000000) := near_le (near_tri n4 se2) (by decide +kernel)
  clear n1 n2 n3 n4 sd sd2 se se2 nd0 ne0 nu nv npp nqq
  have dif := Rat.mul_nonneg (show 0 ≤ (P - Q) * (P - Q) by
    rcases Rat.le_total (a := P) (b := Q) with hh | hh
    · have := Rat.mul_nonneg (show 0 ≤ Q - P by grind) (show 0 ≤ Q - P by grind); grind
    · exact Rat.mul_nonneg (by grind) (by grind)) (show (0 : Rat) ≤ 1 by decide +kernel)
  have hd5 : 5 ≤ Fp.val d ∧ Fp.val d ≤ 140000 := by unfold Near at nd; constructor <;> grind
  have he57 : 57 ≤ Fp.val e ∧ Fp.val e ≤ 140000 := by unfold Near at ne; constructor <;> grind
  have hb0 : 0 ≤ Fp.val b1 ∧ Fp.val b1 ≤ Fp.val d + 4 / 10000000000 := by unfold Near at nb1 nd; constructor <;> grind
  have hc0 : -(Fp.val e + 6 / 10000000000) ≤ Fp.val c1 ∧ Fp.val c1 ≤ Fp.val e + 6 / 10000000000 := by unfold Near at nc1 ne; constructor <;> grind
  have hT : 285 ≤ Fp.val d * Fp.val e := by
    have h1 := Rat.mul_le_mul_of_nonneg_right hd5.1 (show 0 ≤ Fp.val e by grind)
    grind
  have hT2 : Fp.val d * Fp.val e ≤ 19600000000 := by
    have h1 := Rat.mul_le_mul_of_nonneg_right hd5.2 (show 0 ≤ Fp.val e by grind)
    grind
  have hbc := prod_le (x := Fp.val b1) (y := Fp.val c1) (α := Fp.val d + 4 / 10000000000) (d := Fp.val e + 6 / 10000000000) (by grind) (by grind)
  have t1 : Fp.val e * 5 ≤ Fp.val d * Fp.val e := by have := Rat.mul_le_mul_of_nonneg_right hd5.1 (show 0 ≤ Fp.val e by grind); grind
  have t2 : Fp.val d * 57 ≤ Fp.val d * Fp.val e := Rat.mul_le_mul_of_nonneg_left he57.1 (by grind)
  clear nb1 nc1 nd ne dif r1 r2 r3 r4 PP QQ PQ PQ0 PP0 QQ0
  have hbd : Fp.val b1 * Fp.val c1 ≤ Fp.val d * Fp.val e * (1 + 1 / 10000000000) ∧ -(Fp.val b1 * Fp.val c1) ≤ Fp.val d * Fp.val e * (1 + 1 / 10000000000) := by
    have : (Fp.val d + 4 / 10000000000) * (Fp.val e + 6 / 10000000000) ≤ Fp.val d * Fp.val e * (1 + 1 / 10000000000) := by grind
    exact ⟨Rat.le_trans hbc.1 this, Rat.le_trans hbc.2 this⟩
  obtain ⟨above, habove, fabove, n1⟩ := mul_near fb1 fc1 (2 * (Fp.val d * Fp.val e)) (by grind) (by grind) (by constructor <;> grind)
  obtain ⟨below, hbelow, fbelow, n2⟩ := mul_near fd fe (2 * (Fp.val d * Fp.val e)) (by grind) (by grind) (by constructor <;> grind)
  generalize Fp.val d * Fp.val e = T at *
  generalize Fp.val b1 * Fp.val c1 = S at *
  rw [eps_val] at n1 n2
  unfold Near at n1 n2
  have hbel : T * (1 - 3 / 10000000000000000) ≤ Fp.val below := by grind
  have hbel0 : 0 < Fp.val below := by grind
  have x1 : Fp.val above / Fp.val below ≤ 1 + 12 / 100000000000 := div_le' hbel0 (by grind)
  have x2 : -(1 + 12 / 100000000000) ≤ Fp.val above / Fp.val below := le_div' hbel0 (by grind)
  obtain ⟨r, hr, fr, n3⟩ := div_near fabove fbelow 2 (by decide +kernel) (by decide +kernel) (by grind) (by constructor <;> grind)
  rw [eps_val] at n3
  unfold Near at n3
  exact ⟨p, q, pp, qq, pq, ga, gb, gg, u, v, w, p2, both, w2, b1, c1, above, d0, d, e0, e, below, r, ⟨hp, hq, hpp, hqq, hpq, hga, hgb, hgg, hu, hv, hw, hp2, hboth, hw2, hb1, hc1, habove, hd0, hd, he0, he, hbelow, hr⟩, fr, by grind, by grind⟩
/-- the number itself -/
def likeP (n a b aa bb ab : Nat) : Nat :=
  fo .quo (fo .mul (fo .add (fo .mul (fo .mul W2 (fo .quo (foi a) (foi n))) (fo .quo (foi b) (foi n))) WA)
      (fo .add (fo .mul W2 (fo .sub (fo .quo (foi ab) (foi n)) (fo .mul (fo .quo (foi a) (foi n)) (fo .quo (foi b) (foi n))))) WB))
    (fo .mul (fo .add (fo .add (fo .mul (fo .quo (foi a) (foi n)) (fo .quo (foi a) (foi n))) (fo .mul (fo .quo (foi b) (foi n)) (fo .quo (foi b) (foi n)))) WA)
      (fo .add (fo .add (fo .sub (fo .quo (foi aa) (foi n)) (fo .mul (fo .quo (foi a) (foi n)) (fo .quo (foi a) (foi n)))) (fo .sub (fo .quo (foi bb) (foi n)) (fo .mul (fo .quo (foi b) (foi n)) (fo .quo (foi b) (foi n))))) WB))
theorem F.fo {op : BinOp} {x y r : Nat} (h : F op x y r) : fo op x y = r := fo_some h 0
theorem LikeRun.eq {n a b aa bb ab p q pp qq pq ga gb gg u v w p2 both w2 b1 c1 above d0 d e0 e below r : Nat} (h : LikeRun n a b aa bb ab p q pp qq pq ga gb gg u v w p2 both w2 b1 c1 above d0 d e0 e below r) : likeP n a b aa bb ab = r := by
  unfold likeP
  rw [h.hp.fo, h.hq.fo, h.hpp.fo, h.hqq.fo, h.hpq.fo, h.hga.fo, h.hgb.fo, h.hgg.fo, h.hu.fo, h.hv.fo, h.hw.fo, h.hp2.fo, h.hboth.fo, h.hw2.fo, h.hb1.fo, h.hc1.fo, h.habove.fo, h.hd0.fo, h.hd.fo, h.he0.fo, h.he.fo, h.hbelow.fo, h.hr.fo]
end Go.Proofs.Ytfaciljklligeaa.Ct
