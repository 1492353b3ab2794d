/- Mirrored, turned, with signs exchanged: plain laws. -/
import Derived.Test.YtnepchdpgbdogaaQl
namespace Go.Proofs.Ytnepchdpgbdogaa.Ct
/-! ### sums -/
def sm (n : Nat) (f : Nat → Int) : Int := match n with | 0 => 0 | n + 1 => sm n f + f n
theorem sm_congr {n : Nat} {f g : Nat → Int} (h : ∀ i, i < n → f i = g i) : sm n f = sm n g := by
  induction n with
  | zero => rfl
  | succ n ih => unfold sm; rw [ih fun i hi => h i (by omega), h n (by omega)]
theorem sm_add (n : Nat) (f g : Nat → Int) : sm n (fun i => f i + g i) = sm n f + sm n g := by
  induction n with
  | zero => rfl
  | succ n ih => simp only [sm]; rw [ih]; omega
theorem sm_zero (n : Nat) : sm n (fun _ => 0) = 0 := by
  induction n with
  | zero => rfl
  | succ n ih => simp only [sm]; rw [ih]; rfl
theorem sm_neg (n : Nat) (f : Nat → Int) : sm n (fun i => - f i) = - sm n f := by
  induction n with
  | zero => rfl
  | succ n ih => simp only [sm]; rw [ih]; omega
theorem sm_front (n : Nat) (f : Nat → Int) : sm (n + 1) f = f 0 + sm n (fun i => f (i + 1)) := by
  induction n with
  | zero => simp [sm]
  | succ n ih => rw [sm, ih]; simp only [sm]; omega
theorem sm_rev (n : Nat) (f : Nat → Int) : sm n (fun i => f (n - 1 - i)) = sm n f := by
  induction n with
  | zero => rfl
  | succ n ih =>
    rw [sm_front, sm]
    have : sm n (fun i => f (n + 1 - 1 - (i + 1))) = sm n (fun i => f (n - 1 - i)) := sm_congr fun i _ => by congr 1; omega
    rw [this, ih, show n + 1 - 1 - 0 = n by omega]
    omega
theorem sm_comm (H W : Nat) (f : Nat → Nat → Int) : sm H (fun y => sm W (fun x => f x y)) = sm W (fun x => sm H (fun y => f x y)) := by
  induction W with
  | zero => simp only [sm]; exact sm_zero H
  | succ W ih => simp only [sm]; rw [sm_add, ih]
theorem sm_mul (H W : Nat) (f : Nat → Int) : sm (W * H) f = sm H (fun y => sm W (fun x => f (y * W + x))) := by
  have tail : ∀ m n, sm (n + m) f = sm n f + sm m (fun x => f (n + x)) := by
    intro m n
    induction m with
    | zero => simp [sm]
    | succ m ih => rw [← Nat.add_assoc]; simp only [sm]; rw [ih]; omega
  induction H with
  | zero => rfl
  | succ H ih =>
    rw [Nat.mul_succ, tail, ih]
    simp only [sm]
    rw [Nat.mul_comm W H]
theorem mnS_sm (l : List Bool) (D : Nat → Int) (n : Nat) : mnS l D n = sm n (fun i => if l.getD i false then 0 else D i) := by
  induction n with
  | zero => rfl
  | succ n ih => unfold mnS sm; rw [ih]; cases l.getD n false <;> simp
theorem mnN_sm (l : List Bool) (n : Nat) : (mnN l n : Int) = sm n (fun i => if l.getD i false then 0 else 1) := by
  induction n with
  | zero => rfl
  | succ n ih => unfold mnN sm; rw [← ih]; cases l.getD n false <;> simp
theorem nearI_neg {a b : Int} (hb : 0 < b) : nearI (-a) b = - nearI a b := by
  unfold nearI
  have h0 : b / (2 * b) = 0 := Int.ediv_eq_zero_of_lt (by omega) (by omega)
  rcases Int.lt_trichotomy a 0 with h | h | h
  · rw [if_pos h, if_neg (by omega), show 2 * -a = -2 * a by omega, Int.neg_neg]
  · subst h
    simp [h0]
  · rw [if_neg (by omega : ¬ a < 0), if_pos (by omega), show -2 * -a = 2 * a by omega]
/-! ### the list of neighbours, in any order -/
theorem siP_eq {L M : List (Int × Nat)} (h1 : sumA L L.length = sumA M M.length) (h2 : sumW L L.length = sumW M M.length) : siP L = siP M := by
  unfold siP; rw [h1, h2]
theorem siP_swap12 (a b c d : Option (Int × Nat)) : siP (b.toList ++ a.toList ++ c.toList ++ d.toList) = siP (a.toList ++ b.toList ++ c.toList ++ d.toList) := by
  rcases a with _ | ⟨a1, a2⟩ <;> rcases b with _ | ⟨b1, b2⟩ <;> rcases c with _ | ⟨c1, c2⟩ <;> rcases d with _ | ⟨d1, d2⟩ <;> first
    | rfl
    | (refine siP_eq ?_ ?_ <;> simp [sumA, sumW, wP, farI, dcI] <;> grind)
theorem siP_swap13 (a b c d : Option (Int × Nat)) : siP (c.toList ++ d.toList ++ a.toList ++ b.toList) = siP (a.toList ++ b.toList ++ c.toList ++ d.toList) := by
  rcases a with _ | ⟨a1, a2⟩ <;> rcases b with _ | ⟨b1, b2⟩ <;> rcases c with _ | ⟨c1, c2⟩ <;> rcases d with _ | ⟨d1, d2⟩ <;> first
    | rfl
    | (refine siP_eq ?_ ?_ <;> simp [sumA, sumW, wP, farI, dcI] <;> grind)
theorem nil_swap12 (a b c d : Option (Int × Nat)) : (b.toList ++ a.toList ++ c.toList ++ d.toList = []) = (a.toList ++ b.toList ++ c.toList ++ d.toList = []) := by
  cases a <;> cases b <;> cases c <;> cases d <;> simp
theorem nil_swap13 (a b c d : Option (Int × Nat)) : (c.toList ++ d.toList ++ a.toList ++ b.toList = []) = (a.toList ++ b.toList ++ c.toList ++ d.toList = []) := by
  cases a <;> cases b <;> cases c <;> cases d <;> simp
/-- neighbours with their DCs turned -/
def ngL (L : List (Int × Nat)) : List (Int × Nat) := L.map fun p => (-p.1, p.2)
theorem ngL_len (L : List (Int × Nat)) : (ngL L).length = L.length := List.length_map _
theorem farI_ng (L : List (Int × Nat)) (k : Nat) : farI (ngL L) k = farI L k := by
  unfold farI ngL
  cases h : L[k]? <;> simp [List.getD, h]
theorem dcI_ng (L : List (Int × Nat)) (k : Nat) : dcI (ngL L) k = - dcI L k := by
  unfold dcI ngL
  cases h : L[k]? <;> simp [List.getD, h]
theorem wP_ng (L : List (Int × Nat)) (i k : Nat) : wP (ngL L) i k = wP L i k := by
  induction k with
  | zero => rfl
  | succ k ih => unfold wP; rw [ih, farI_ng]
theorem sumW_ng (L : List (Int × Nat)) (i : Nat) : sumW (ngL L) i = sumW L i := by
  induction i with
  | zero => rfl
  | succ i ih => unfold sumW; rw [ih, wP_ng, ngL_len]
theorem sumA_ng (L : List (Int × Nat)) (i : Nat) : sumA (ngL L) i = - sumA L i := by
  induction i with
  | zero => rfl
  | succ i ih => unfold sumA; rw [ih, wP_ng, ngL_len, dcI_ng, Int.neg_mul]; omega
theorem siP_ng {L : List (Int × Nat)} (h : 0 < sumW L L.length) : siP (ngL L) = - siP L := by
  unfold siP
  rw [ngL_len, sumW_ng, sumA_ng]
  exact nearI_neg (by omega)
theorem sumW_pos {L : List (Int × Nat)} (h : Nbs L) (hn : L ≠ []) : 0 < sumW L L.length := by
  have := (sums_small h L.length (Nat.le_refl _)).1
  have : 0 < L.length := List.length_pos_iff.2 hn
  omega
/-! ### all DCs turned -/
section
variable {W H : Nat} {l l' : List Bool} {D D' : Nat → Int}
theorem at_nat (a b W : Nat) : (((b : Int) * (W : Int)) + (a : Int)).toNat = b * W + a := by
  rw [show ((b : Int) * (W : Int) + (a : Int)) = ((b * W + a : Nat) : Int) by push_cast; rfl]; exact Int.toNat_natCast _
theorem nbF_ng (h : ∀ j, j < W * H → D' j = - D j) {x y dx dy : Int} (f : Nat) : ∀ d, nbF W H l D' x y dx dy f d = (nbF W H l D x y dx dy f d).map fun p => (-p.1, p.2) := by
  induction f with
  | zero => intro d; rfl
  | succ f ih =>
    intro d
    unfold nbF
    by_cases hi : inB W H (x + d * dx) (y + d * dy) = true
    · rw [if_pos hi, if_pos hi]
      by_cases hh : hasB W H l (x + d * dx) (y + d * dy) = true
      · rw [if_pos hh, if_pos hh]
        exact ih (d + 1)
      · rw [if_neg hh, if_neg hh]
        obtain ⟨a, b, ha, hb, hA, hB⟩ := of_inB hi
        rw [ha, hb, at_nat, h _ (idx_lt hA hB)]
        rfl
    · rw [if_neg hi, if_neg hi]
      rfl
theorem nbL_ng (h : ∀ j, j < W * H → D' j = - D j) (x y : Int) : nbL W H l D' x y = ngL (nbL W H l D x y) := by
  unfold nbL nb ngL
  simp only [nbF_ng h, List.map_append]
  congr 1
  · congr 1
    · congr 1
      · cases nbF W H l D x y (-1) 0 16384 1 <;> rfl
      · cases nbF W H l D x y 1 0 16384 1 <;> rfl
    · cases nbF W H l D x y 0 (-1) 16384 1 <;> rfl
  · cases nbF W H l D x y 0 1 16384 1 <;> rfl
theorem mnP_ng (n : Nat) (h : ∀ j, j < n → D' j = - D j) : mnP l D' n = - mnP l D n := by
  have e : mnS l D' n = - mnS l D n := by
    rw [mnS_sm, mnS_sm, ← sm_neg]
    refine sm_congr fun i hi => ?_
    rw [h i hi]
    cases l.getD i false <;> simp
  unfold mnP
  rw [e]
  split
  · rfl
  · exact nearI_neg (by omega)
theorem dcP_ng (hW : W ≤ 8192) (hH : H ≤ 8192) (hD : ∀ i, -32768 ≤ D i ∧ D i ≤ 32767) (h : ∀ j, j < W * H → D' j = - D j) {x y : Int} (hi : inB W H x y = true) : dcP W H l D' x y = - dcP W H l D x y := by
  obtain ⟨a, b, rfl, rfl, ha, hb⟩ := of_inB hi
  unfold dcP
  rw [if_pos hi, if_pos hi]
  split
  · unfold stP
    rw [nbL_ng h, mnP_ng _ h]
    by_cases hn : nbL W H l D a b = []
    · rw [hn, if_pos rfl, if_pos (show ngL [] = [] from rfl)]
    · rw [if_neg hn, if_neg (by unfold ngL; rw [List.map_eq_nil_iff]; exact hn)]
      exact siP_ng (sumW_pos (nbL_nbs hW hH hD (by omega) (by omega)) hn)
  · rw [at_nat]
    exact h _ (idx_lt ha hb)
/-! ### left to right -/
/-- the place of a column from the other side -/
structure Lefts (W H : Nat) (l l' : List Bool) (D D' : Nat → Int) : Prop where
  fl : ∀ x y, x < W → y < H → l'.getD (y * W + (W - 1 - x)) false = l.getD (y * W + x) false
  dc : ∀ x y, x < W → y < H → D' (y * W + (W - 1 - x)) = D (y * W + x)
theorem inB_left (x y : Int) : inB W H ((W : Int) - 1 - x) y = inB W H x y := by
  unfold inB
  congr 1
  refine propext ⟨fun h => ?_, fun h => ?_⟩ <;> omega
theorem hasB_left (hl : Lefts W H l l' D D') (x y : Int) : hasB W H l' ((W : Int) - 1 - x) y = hasB W H l x y := by
  unfold hasB
  rw [inB_left]
  cases hi : inB W H x y
  · rfl
  · obtain ⟨a, b, rfl, rfl, ha, hb⟩ := of_inB hi
    rw [show (W : Int) - 1 - a = ((W - 1 - a : Nat) : Int) by omega, at_nat, at_nat, hl.fl a b ha hb]
theorem nbF_left (hl : Lefts W H l l' D D') {x y dx dy : Int} (f : Nat) : ∀ d, nbF W H l' D' ((W : Int) - 1 - x) y (-dx) dy f d = nbF W H l D x y dx dy f d := by
  induction f with
  | zero => intro d; rfl
  | succ f ih =>
    intro d
    unfold nbF
    have e : (W : Int) - 1 - x + d * -dx = (W : Int) - 1 - (x + d * dx) := by rw [Int.mul_neg]; omega
    rw [e, inB_left, hasB_left hl]
    by_cases hi : inB W H (x + d * dx) (y + d * dy) = true
    · rw [if_pos hi, if_pos hi]
      by_cases hh : hasB W H l (x + d * dx) (y + d * dy) = true
      · rw [if_pos hh, if_pos hh]
        exact ih (d + 1)
      · rw [if_neg hh, if_neg hh]
        obtain ⟨a, b, ha, hb, hA, hB⟩ := of_inB hi
        rw [ha, hb, show (W : Int) - 1 - a = ((W - 1 - a : Nat) : Int) by omega, at_nat, at_nat, hl.dc a b hA hB]
    · rw [if_neg hi, if_neg hi]
theorem nbL_left (hl : Lefts W H l l' D D') (x y : Int) : nbL W H l' D' ((W : Int) - 1 - x) y =
    (nb W H l D x y 1 0).toList ++ (nb W H l D x y (-1) 0).toList ++ (nb W H l D x y 0 (-1)).toList ++ (nb W H l D x y 0 1).toList := by
  unfold nbL nb
  have e1 := nbF_left hl (x := x) (y := y) (dx := 1) (dy := 0) 16384 1
  have e2 := nbF_left hl (x := x) (y := y) (dx := -1) (dy := 0) 16384 1
  have e3 := nbF_left hl (x := x) (y := y) (dx := 0) (dy := -1) 16384 1
  have e4 := nbF_left hl (x := x) (y := y) (dx := 0) (dy := 1) 16384 1
  simp only [Int.neg_neg, Int.neg_zero] at e1 e2 e3 e4
  rw [e1, e2, e3, e4]
theorem sm_left (f g : Nat → Int) (h : ∀ x y, x < W → y < H → g (y * W + (W - 1 - x)) = f (y * W + x)) : sm (W * H) g = sm (W * H) f := by
  rw [sm_mul, sm_mul]
  refine sm_congr fun y hy => ?_
  rw [← sm_rev W (fun x => g (y * W + x))]
  exact sm_congr fun x hx => h x y hx hy
theorem mnP_of_sums (n m : Nat) (h1 : mnS l' D' n = mnS l D m) (h2 : (mnN l' n : Int) = mnN l m) : mnP l' D' n = mnP l D m := by
  have h3 : mnN l' n = mnN l m := by omega
  unfold mnP
  rw [h1, h3]
theorem dcP_left (hl : Lefts W H l l' D D') {x y : Int} (hi : inB W H x y = true) : dcP W H l' D' ((W : Int) - 1 - x) y = dcP W H l D x y := by
  unfold dcP
  rw [inB_left, hasB_left hl, if_pos hi, if_pos hi]
  split
  · unfold stP
    rw [nbL_left hl]
    have hm : mnP l' D' (W * H) = mnP l D (W * H) := by
      refine mnP_of_sums _ _ ?_ ?_
      · rw [mnS_sm, mnS_sm]
        exact sm_left _ _ fun x y hx hy => by rw [hl.fl x y hx hy, hl.dc x y hx hy]
      · rw [mnN_sm, mnN_sm]
        exact sm_left _ _ fun x y hx hy => by rw [hl.fl x y hx hy]
    rw [hm]
    unfold nbL
    simp only [nil_swap12 (nb W H l D x y (-1) 0), siP_swap12 (nb W H l D x y (-1) 0)]
  · obtain ⟨a, b, rfl, rfl, ha, hb⟩ := of_inB hi
    rw [show (W : Int) - 1 - a = ((W - 1 - a : Nat) : Int) by omega, at_nat, at_nat, hl.dc a b ha hb]
/-! ### rows and columns exchanged -/
structure Swaps (W H : Nat) (l l' : List Bool) (D D' : Nat → Int) : Prop where
  fl : ∀ x y, x < W → y < H → l'.getD (x * H + y) false = l.getD (y * W + x) false
  dc : ∀ x y, x < W → y < H → D' (x * H + y) = D (y * W + x)
theorem inB_swap (x y : Int) : inB H W y x = inB W H x y := by
  unfold inB
  congr 1
  refine propext ⟨fun h => ?_, fun h => ?_⟩ <;> omega
theorem hasB_swap (hl : Swaps W H l l' D D') (x y : Int) : hasB H W l' y x = hasB W H l x y := by
  unfold hasB
  rw [inB_swap]
  cases hi : inB W H x y
  · rfl
  · obtain ⟨a, b, rfl, rfl, ha, hb⟩ := of_inB hi
    rw [at_nat, at_nat, hl.fl a b ha hb]
theorem nbF_swap (hl : Swaps W H l l' D D') {x y dx dy : Int} (f : Nat) : ∀ d, nbF H W l' D' y x dy dx f d = nbF W H l D x y dx dy f d := by
  induction f with
  | zero => intro d; rfl
  | succ f ih =>
    intro d
    unfold nbF
    rw [inB_swap, hasB_swap hl]
    by_cases hi : inB W H (x + d * dx) (y + d * dy) = true
    · rw [if_pos hi, if_pos hi]
      by_cases hh : hasB W H l (x + d * dx) (y + d * dy) = true
      · rw [if_pos hh, if_pos hh]
        exact ih (d + 1)
      · rw [if_neg hh, if_neg hh]
        obtain ⟨a, b, ha, hb, hA, hB⟩ := of_inB hi
        rw [ha, hb, at_nat, at_nat, hl.dc a b hA hB]
    · rw [if_neg hi, if_neg hi]
theorem nbL_swap (hl : Swaps W H l l' D D') (x y : Int) : nbL H W l' D' y x =
    (nb W H l D x y 0 (-1)).toList ++ (nb W H l D x y 0 1).toList ++ (nb W H l D x y (-1) 0).toList ++ (nb W H l D x y 1 0).toList := by
  unfold nbL nb
  rw [nbF_swap hl (x := x) (y := y) (dx := 1) (dy := 0), nbF_swap hl (x := x) (y := y) (dx := -1) (dy := 0), nbF_swap hl (x := x) (y := y) (dx := 0) (dy := 1), nbF_swap hl (x := x) (y := y) (dx := 0) (dy := -1)]
theorem sm_swap (f g : Nat → Int) (h : ∀ x y, x < W → y < H → g (x * H + y) = f (y * W + x)) : sm (H * W) g = sm (W * H) f := by
  rw [sm_mul, sm_mul, sm_comm H W (fun x y => f (y * W + x))]
  exact sm_congr fun x hx => sm_congr fun y hy => h x y hx hy
theorem dcP_swap (hl : Swaps W H l l' D D') {x y : Int} (hi : inB W H x y = true) : dcP H W l' D' y x = dcP W H l D x y := by
  unfold dcP
  rw [inB_swap, hasB_swap hl, if_pos hi, if_pos hi]
  split
  · unfold stP
    rw [nbL_swap hl]
    have hm : mnP l' D' (H * W) = mnP l D (W * H) := by
      refine mnP_of_sums _ _ ?_ ?_
      · rw [mnS_sm, mnS_sm]
        exact sm_swap _ _ fun x y hx hy => by rw [hl.fl x y hx hy, hl.dc x y hx hy]
      · rw [mnN_sm, mnN_sm]
        exact sm_swap _ _ fun x y hx hy => by rw [hl.fl x y hx hy]
    rw [hm]
    unfold nbL
    simp only [nil_swap13 (nb W H l D x y (-1) 0), siP_swap13 (nb W H l D x y (-1) 0)]
  · obtain ⟨a, b, rfl, rfl, ha, hb⟩ := of_inB hi
    rw [at_nat, at_nat, hl.dc a b ha hb]
end
end Go.Proofs.Ytnepchdpgbdogaa.Ct
