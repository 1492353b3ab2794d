/- Decibels, the plain law: the program's and the document's are near each other. -/
import Derived.Test.YtfaciljklligeaaDb
import Derived.Test.YtfaciljklligeaaKy
namespace Go.Proofs.Ytfaciljklligeaa.Ct
open Go.ChangeShapes Go.WideShapes Go.RowKit Mm
theorem prod_b {x y α β γ : Rat} (hx : -α ≤ x ∧ x ≤ α) (hy : -β ≤ y ∧ y ≤ β) (h : decide (α * β ≤ γ) = true) : -γ ≤ x * y ∧ x * y ≤ γ :=
  pb_of (prod_le hx hy) h
theorem plus_b {x y α β γ : Rat} (hx : -α ≤ x ∧ x ≤ α) (hy : -β ≤ y ∧ y ≤ β) (h : decide (α + β ≤ γ) = true) : -γ ≤ x + y ∧ x + y ≤ γ :=
  sum_b (bb hx) hy h
theorem minus_b {x y α β γ : Rat} (hx : -α ≤ x ∧ x ≤ α) (hy : -β ≤ y ∧ y ≤ β) (h : decide (α + β ≤ γ) = true) : -γ ≤ x - y ∧ x - y ≤ γ := by
  rw [Rat.sub_eq_add_neg]
  exact sum_b (bb hx) (neg_b hy) h
theorem near_b {a A d α γ : Rat} (h : Near a A d) (hA : -α ≤ A ∧ A ≤ α) (k : decide (α + d ≤ γ) = true) : -γ ≤ a ∧ a ≤ γ := by
  have k := of_decide_eq_true k
  unfold Near at h
  constructor <;> grind
theorem poly_b {u : Rat} (hu : -(1 / 10) ≤ u ∧ u ≤ 1 / 10) : -1 ≤ polyR u ∧ polyR u ≤ 1 := by
  have k1 : -1 ≤ cval K1 ∧ cval K1 ≤ 1 := by decide +kernel
  have k2 : -1 ≤ cval K2 ∧ cval K2 ≤ 1 := by decide +kernel
  have k3 : -1 ≤ cval K3 ∧ cval K3 ≤ 1 := by decide +kernel
  have k4 : -1 ≤ cval K4 ∧ cval K4 ≤ 1 := by decide +kernel
  have k5 : -1 ≤ cval K5 ∧ cval K5 ≤ 1 := by decide +kernel
  have k6 : -1 ≤ cval K6 ∧ cval K6 ≤ 1 := by decide +kernel
  have k7 : -1 ≤ cval K7 ∧ cval K7 ≤ 1 := by decide +kernel
  unfold polyR
  have w : -(1 / 100) ≤ u * u ∧ u * u ≤ 1 / 100 := prod_b hu hu (by decide +kernel)
  generalize cval K1 = c1 at *
  generalize cval K2 = c2 at *
  generalize cval K3 = c3 at *
  generalize cval K4 = c4 at *
  generalize cval K5 = c5 at *
  generalize cval K6 = c6 at *
  generalize cval K7 = c7 at *
  generalize u * u = v at *
  have a1 : -2 ≤ c5 + v * c7 ∧ c5 + v * c7 ≤ 2 := plus_b k5 (prod_b w k7 (γ := 1 / 100) (by decide +kernel)) (by decide +kernel)
  have a2 : -2 ≤ c3 + v * (c5 + v * c7) ∧ c3 + v * (c5 + v * c7) ≤ 2 := plus_b k3 (prod_b w a1 (γ := 2 / 100) (by decide +kernel)) (by decide +kernel)
  have a3 : -2 ≤ c1 + v * (c3 + v * (c5 + v * c7)) ∧ c1 + v * (c3 + v * (c5 + v * c7)) ≤ 2 := plus_b k1 (prod_b w a2 (γ := 2 / 100) (by decide +kernel)) (by decide +kernel)
  have a4 := prod_b hu a3 (γ := 2 / 10) (by decide +kernel)
  have b1 : -2 ≤ c4 + v * c6 ∧ c4 + v * c6 ≤ 2 := plus_b k4 (prod_b w k6 (γ := 1 / 100) (by decide +kernel)) (by decide +kernel)
  have b2 : -2 ≤ c2 + v * (c4 + v * c6) ∧ c2 + v * (c4 + v * c6) ≤ 2 := plus_b k2 (prod_b w b1 (γ := 2 / 100) (by decide +kernel)) (by decide +kernel)
  have b3 := prod_b w b2 (γ := 2 / 100) (by decide +kernel)
  exact plus_b a4 b3 (by decide +kernel)
theorem expo_b {x : Nat} (h1 : x < 2 ^ 63) (small : Bool) : -1100 ≤ expoR x small ∧ expoR x small ≤ 1100 := by
  have he : x / 2 ^ 52 < 2048 := by omega
  unfold expoR
  have e0 : (0 : Rat) ≤ ((x / 2 ^ 52 : Nat) : Rat) := by exact_mod_cast Nat.zero_le _
  have e1 : ((x / 2 ^ 52 : Nat) : Rat) ≤ 2048 := by exact_mod_cast Nat.le_of_lt he
  cases small <;> simp <;> constructor <;> grind
theorem quot_b {m : Rat} (h0 : 7071067 / 10000000 ≤ m) (h1 : m ≤ 14142136 / 10000000) : -(2 / 10) ≤ (m - 1) / (m + 1) ∧ (m - 1) / (m + 1) ≤ 2 / 10 := by
  have hp : (0 : Rat) < m + 1 := by grind
  refine ⟨le_div' hp (by grind), div_le' hp (by grind)⟩
theorem log_b {x r : Nat} (h : LogOut x r) (h0 : 0 < x) (h1 : x < 0x7FF0000000000000) : Fp.fin r ∧ -800 ≤ Fp.val r ∧ Fp.val r ≤ 800 := by
  obtain ⟨fr, small, hn, m0, m1, _, _⟩ := h.num h0 h1
  have he := expo_b (show x < 2 ^ 63 by omega) small
  have hk : -(7 / 10) ≤ cval KHi + cval KLo ∧ cval KHi + cval KLo ≤ 7 / 10 := by decide +kernel
  have hs := quot_b m0 m1
  have hu := prod_b hs hs (γ := 1 / 10) (by decide +kernel)
  have hp := poly_b hu
  refine ⟨fr, near_b hn (α := 790) ?_ (by decide +kernel)⟩
  unfold logR
  have e1 := prod_b he hk (γ := 770) (by decide +kernel)
  have e2 := prod_b hs (plus_b (x := 2) (α := 2) ⟨by decide +kernel, by decide +kernel⟩ hp (γ := 3) (by decide +kernel)) (γ := 1) (by decide +kernel)
  exact plus_b e1 e2 (by decide +kernel)
theorem dec_law {r : Nat} (fr : Fp.fin r) (hr : -800 ≤ Fp.val r ∧ Fp.val r ≤ 800) :
    Fp.fin (decP r) ∧ Fp.fin (rdecP r) ∧ ∃ o, floatBits .sub .f64 (decP r) (rdecP r) = some o ∧ ord o 4472454890662775134 = some .lt ∧ ord o 13695826927517550942 = some .gt := by
  obtain ⟨fK, vK⟩ := const_fin KT (by decide +kernel)
  obtain ⟨f10, v10⟩ := const_fin W10 (by decide +kernel)
  obtain ⟨fM, vM⟩ := const_fin M255 (by decide +kernel)
  obtain ⟨fC, vC⟩ := const_fin C65 (by decide +kernel)
  have bK : -(44 / 100) ≤ cval KT ∧ cval KT ≤ 44 / 100 := by decide +kernel
  have b10 : cval W10 = 10 := by decide +kernel
  have bM : -49 ≤ cval M255 ∧ cval M255 ≤ 49 := by decide +kernel
  have bC : -5 ≤ cval C65 ∧ cval C65 ≤ 5 := by decide +kernel
  have bMC : Near (cval M255) (10 * cval C65) (1 / 1000000000000) := by unfold Near; decide +kernel
  rw [b10] at v10
  have p1 := prod_b hr bK (γ := 352) (by decide +kernel)
  obtain ⟨u, eu, fu, nu⟩ := mul_near fr fK (M := 352) (by decide +kernel) (by decide +kernel) (by rw [vK]; exact p1)
  rw [vK] at nu
  have bu := near_b nu p1 (γ := 353) (by decide +kernel)
  have p2 := prod_b (x := 10) (α := 10) ⟨by decide +kernel, by decide +kernel⟩ bu (γ := 3530) (by decide +kernel)
  obtain ⟨v, ev, fv', nv⟩ := mul_near f10 fu (M := 3530) (by decide +kernel) (by decide +kernel) (by rw [v10]; exact p2)
  rw [v10] at nv
  have bv := near_b nv p2 (γ := 3531) (by decide +kernel)
  have p3 := minus_b bM bv (γ := 3580) (by decide +kernel)
  obtain ⟨d, ed, fd', nd⟩ := sub_near fM fv' (M := 3580) (by decide +kernel) (by decide +kernel) (by rw [vM]; exact p3)
  rw [vM] at nd
  have p4 := minus_b bC bu (γ := 358) (by decide +kernel)
  obtain ⟨u2, eu2, fu2, nu2⟩ := sub_near fC fu (M := 358) (by decide +kernel) (by decide +kernel) (by rw [vC]; exact p4)
  rw [vC] at nu2
  have bu2 := near_b nu2 p4 (γ := 359) (by decide +kernel)
  have p5 := prod_b (x := 10) (α := 10) ⟨by decide +kernel, by decide +kernel⟩ bu2 (γ := 3590) (by decide +kernel)
  obtain ⟨d2, ed2, fd2, nd2⟩ := mul_near f10 fu2 (M := 3590) (by decide +kernel) (by decide +kernel) (by rw [v10]; exact p5)
  rw [v10] at nd2
  have heps : eps = 13 / 100000000000000000 := rfl
  rw [heps] at nu nv nd nu2 nd2
  have near : -(1 / 100000000000) ≤ Fp.val d - Fp.val d2 ∧ Fp.val d - Fp.val d2 ≤ 1 / 100000000000 := by
    unfold Near at *
    clear p1 p2 p3 p4 p5 bu bv bu2 bM bC bK vK v10 vM vC hr
    generalize cval M255 = cM at *
    generalize cval C65 = cC at *
    generalize Fp.val d = D at *
    generalize Fp.val d2 = D2 at *
    generalize Fp.val u2 = U2 at *
    generalize Fp.val v = V at *
    generalize Fp.val u = U at *
    constructor <;> grind
  obtain ⟨o, eo, fo', no⟩ := sub_near fd' fd2 (M := 1) (by decide +kernel) (by decide +kernel) (by constructor <;> grind)
  rw [heps] at no
  have bo : -(1 / 10000000000) ≤ Fp.val o ∧ Fp.val o ≤ 1 / 10000000000 := by
    unfold Near at no
    constructor <;> grind
  have e1 : decP r = d := by
    unfold decP fo
    rw [fo_some eu, fo_some ev, fo_some ed]
  have e2 : rdecP r = d2 := by
    unfold rdecP fo
    rw [fo_some eu, fo_some eu2, fo_some ed2]
  rw [e1, e2]
  have c1 : Fp.fin 4472454890662775134 := (const_fin 4472454890662775134 (by decide +kernel)).1
  have c2 : 1 / 1000000000 < Fp.val 4472454890662775134 := by decide +kernel
  have c3 : Fp.fin 13695826927517550942 := ⟨true, _, _, (show Ieee.double.word true (13695826927517550942 - 2 ^ 63) = 13695826927517550942 by decide +kernel) ▸ Fp.read_word true (13695826927517550942 - 2 ^ 63) (by decide +kernel)⟩
  have c4 : Fp.val 13695826927517550942 < -(1 / 1000000000) := by decide +kernel
  refine ⟨fd', fd2, o, eo, (Fp.order_val fo' c1).1.2 ?_, (Fp.order_val fo' c3).2.2.2 ?_⟩ <;> grind
end Go.Proofs.Ytfaciljklligeaa.Ct
