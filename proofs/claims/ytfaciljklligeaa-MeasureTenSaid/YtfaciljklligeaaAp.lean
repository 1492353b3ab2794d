/- How far two images are apart, and their peak. -/
import Derived.Test.YtfaciljklligeaaPr
namespace Go.Proofs.Ytfaciljklligeaa.Ct
open Go.ChangeShapes Go.WideShapes Go.RowKit Mm
def byC (l : List Nat) : List Value := l.map fun (b : Nat) => Value.int .u8 (b : Int)
def Byts (l : List Nat) : Prop := ∀ b ∈ l, b ≤ 255
theorem byC_get {l : List Nat} {k : Nat} (h : k < l.length) : (byC l)[k]? = some (.int .u8 ((l.getD k 0 : Nat) : Int)) := by simp [byC, h]
theorem Byts.at_ {l : List Nat} (h : Byts l) (k : Nat) : l.getD k 0 ≤ 255 := by
  by_cases hk : k < l.length
  · have : l.getD k 0 = l[k] := by simp [hk]
    rw [this]; exact h _ (List.getElem_mem hk)
  · have : l.getD k 0 = 0 := by simp [List.getD, List.getElem?_eq_none (Nat.le_of_not_lt hk)]
    omega
def dI (l l2 : List Nat) (k : Nat) : Int := (l.getD k 0 : Int) - (l2.getD k 0 : Int)
def sqK (l l2 : List Nat) : Nat → Int
  | 0 => 0
  | k + 1 => sqK l l2 k + dI l l2 k * dI l l2 k
def pkK (l l2 : List Nat) : Nat → Int
  | 0 => 0
  | k + 1 => max (pkK l l2 k) (max (dI l l2 k) (- dI l l2 k))
theorem sq_byte (x y : Nat) (hx : x ≤ 255) (hy : y ≤ 255) : 0 ≤ ((x : Int) - y) * ((x : Int) - y) ∧ ((x : Int) - y) * ((x : Int) - y) ≤ 65025 := by
  rcases Int.le_total (y : Int) x with h | h
  · exact ⟨Int.mul_nonneg (by omega) (by omega), Int.mul_le_mul (c := 255) (d := 255) (by omega) (by omega) (by omega) (by omega)⟩
  · rw [show ((x : Int) - y) * ((x : Int) - y) = ((y : Int) - x) * ((y : Int) - x) by rw [← Int.neg_mul_neg, Int.neg_sub]]
    exact ⟨Int.mul_nonneg (by omega) (by omega), Int.mul_le_mul (c := 255) (d := 255) (by omega) (by omega) (by omega) (by omega)⟩
theorem sqK_le {l l2 : List Nat} (h : Byts l) (h2 : Byts l2) (k : Nat) : 0 ≤ sqK l l2 k ∧ sqK l l2 k ≤ 65025 * k := by
  induction k with
  | zero => simp [sqK]
  | succ k ih =>
    have := sq_byte _ _ (h.at_ k) (h2.at_ k)
    unfold sqK dI
    omega
theorem pkK_le {l l2 : List Nat} (h : Byts l) (h2 : Byts l2) (k : Nat) : 0 ≤ pkK l l2 k ∧ pkK l l2 k ≤ 255 := by
  induction k with
  | zero => simp [pkK]
  | succ k ih =>
    have := h.at_ k
    have := h2.at_ k
    unfold pkK dI
    omega
theorem div_le' {a b c : Rat} (hb : 0 < b) (h : a ≤ c * b) : a / b ≤ c := by
  have e : a / b * b = a := Rat.div_mul_cancel (Rat.ne_of_gt hb)
  exact Rat.le_of_mul_le_mul_right (by rw [e]; exact h) hb
theorem le_div' {a b c : Rat} (hb : 0 < b) (h : c * b ≤ a) : c ≤ a / b := by
  have e : a / b * b = a := Rat.div_mul_cancel (Rat.ne_of_gt hb)
  exact Rat.le_of_mul_le_mul_right (by rw [e]; exact h) hb
/-- the mean square -/
def apartP (l l2 : List Nat) : Nat := fo .quo (floatOfInt .f64 (sqK l l2 l.length)) (floatOfInt .f64 (l.length : Int))
theorem apart_bits {l l2 : List Nat} (h : Byts l) (h2 : Byts l2) (h0 : 0 < l.length) (hn : l.length ≤ 17179344900) :
    floatBits .quo .f64 (floatOfInt .f64 (sqK l l2 l.length)) (floatOfInt .f64 (l.length : Int)) = some (apartP l l2) ∧ Fp.fin (apartP l l2) ∧
      ∃ v, Fp.Nq v ((sqK l l2 l.length : Rat) / (l.length : Rat)) ∧ Fp.Rd (Fp.val (apartP l l2)) v := by
  obtain ⟨s0, s1⟩ := sqK_le h h2 l.length
  obtain ⟨s, hs⟩ : ∃ s : Nat, sqK l l2 l.length = s := ⟨(sqK l l2 l.length).toNat, by omega⟩
  have hs1 : s ≤ 65025 * l.length := by omega
  obtain ⟨f1, v1⟩ := foi_val s (by omega)
  obtain ⟨f2, v2⟩ := foi_val l.length (by omega)
  have hnr : (0 : Rat) < (l.length : Rat) := by exact_mod_cast h0
  have hle : (s : Rat) / (l.length : Rat) ≤ 65025 := by
    refine div_le' hnr ?_
    exact_mod_cast hs1
  have hge : 0 ≤ (s : Rat) / (l.length : Rat) := by
    refine le_div' hnr ?_
    rw [Rat.zero_mul]
    exact_mod_cast Nat.zero_le s
  have hP : (65025 : Rat) < Fp.p2 1022 := by
    have h1 : Fp.p2 16 < Fp.p2 1022 := Fp.p2_lt (by omega)
    have h2 : Fp.p2 16 = 65536 := by decide +kernel
    grind
  obtain ⟨r, v, hr, hf, hq, hd⟩ := Fp.div_rd f1 f2 (by rw [v2]; grind) (by rw [v1, v2]; grind) (by rw [v1, v2]; grind)
  have hb : floatBits .quo .f64 (floatOfInt .f64 (s : Int)) (floatOfInt .f64 (l.length : Int)) = some r := hr
  have ha : apartP l l2 = r := by unfold apartP fo; rw [hs]; exact fo_some hb 0
  rw [ha, hs]
  refine ⟨hb, hf, v, ?_, hd⟩
  rw [v1, v2] at hq
  rw [show (((s : Nat) : Int) : Rat) = (s : Rat) from rfl]
  exact hq
section
variable (w : World) (W H C : Int) (A : Option Addr) (c : Nat) (l : List Nat) (W2 H2 C2 : Int) (A2 : Option Addr) (c2 : Nat) (l2 : List Nat)
def ApartPost (e : Ending) (w' : World) : Prop :=
  e = .returned (.tuple #[.float .f64 (if pairE W H C l.length W2 H2 C2 l2.length = 0 then apartP l l2 else 0), .int .i64 (pairE W H C l.length W2 H2 C2 l2.length)]) ∧ Only No w w'
theorem pairE_zero {W H C : Int} {n : Nat} {W2 H2 C2 : Int} {n2 : Nat} (h : pairE W H C n W2 H2 C2 n2 = 0) : W = W2 ∧ H = H2 ∧ C = C2 ∧ n = n2 ∧ mayP W H C n ∧ 0 < n ∧ n ≤ 17179344900 := by
  unfold pairE at h
  split at h
  · rename_i hm
    rw [Bool.and_eq_true] at hm
    obtain ⟨m1, m2⟩ := hm
    unfold mayB at m1 m2
    have m1 := of_decide_eq_true m1
    have m2 := of_decide_eq_true m2
    split at h
    · rename_i hd
      obtain ⟨rfl, rfl, rfl⟩ := hd
      have p := may_prod m1.1 m1.2.1 m1.2.2.1
      have e1 := m1.2.2.2
      have e2 := m2.2.2.2
      exact ⟨rfl, rfl, rfl, by omega, m1, by omega, by omega⟩
    · omega
  · omega
set_option maxHeartbeats 1600000 in
theorem apart19 (hr : Rds w 1 A l.length (byC l)) (hr2 : Rds w 1 A2 l2.length (byC l2)) (hb : Byts l) (hb2 : Byts l2) :
    Calls Try.prog 19 #[imgV W H C A l.length c, imgV W2 H2 C2 A2 l2.length c2] w (ApartPost w W H C l W2 H2 C2 l2) := by
  have hp := fun w => pair38 w W H C A l.length c W2 H2 C2 A2 l2.length c2
  unfold PairPost at hp
  by_cases h0 : pairE W H C l.length W2 H2 C2 l2.length = 0
  · have hpost : Hid (ApartPost w W H C l W2 H2 C2 l2 = fun e w' => e = .returned (.tuple #[.float .f64 (apartP l l2), .int .i64 0]) ∧ Only No w w') := by
      unfold Hid ApartPost; rw [h0]; rfl
    rw [hpost.out]
    rw [h0] at hp
    obtain ⟨rfl, rfl, rfl, hn, _, hpos, hle⟩ := pairE_zero h0
    obtain ⟨ad, rfl, hlt1, hc⟩ := hr.2 hpos
    obtain ⟨ad2, rfl, hlt2, hc2⟩ := hr2.2 (by omega)
    have hrun : ∀ w, (binOp .quo 25 (.float .f64 (floatOfInt .f64 (sqK l l2 l.length))) (.float .f64 (floatOfInt .f64 (l.length : Int)))).run Try.prog w = .ok (.float .f64 (apartP l l2)) w := fun w => run_float_arith w .quo 25 .f64 _ _ _ (apart_bits hb hb2 hpos hle).1
    replace hn := Lib.hid hn
    replace h0 := Lib.hid h0
    have HR := Lib.hid hr
    have HR2 := Lib.hid hr2
    clear hr hr2 hc hc2
    unfold imgV imgA at *
    go_enter Try.func19, Try.ntmps19
    go_wp2_with fail
    obtain ⟨b1, b2, o2⟩ := boxes w #[.int .i64 W, .int .i64 H, .int .i64 C, .slice (some ad) l.length c] #[.int .i64 W, .int .i64 H, .int .i64 C, .slice (some ad2) l2.length c2]
    generalize ((w.alloc (Obj.cells #[.int .i64 W, .int .i64 H, .int .i64 C, .slice (some ad) l.length c] 32)).alloc (Obj.cells #[.int .i64 W, .int .i64 H, .int .i64 C, .slice (some ad2) l2.length c2] 32)) = w2 at *
    refine (hp w2).mono ?_
    rintro e w3 ⟨rfl, o3⟩
    obtain ⟨_, _, _, k3⟩ := cells4 (b2.only o3 id)
    obtain ⟨_, _, _, j3⟩ := cells4 (b1.only o3 id)
    have O3 := Lib.hid (o2.trans o3)
    clear b1 b2 o2 o3 hp
    go_wp2_with fail
    go_loop [7, 20] (fun s i => ∃ k : Nat, k ≤ l.length ∧ i = .int .i64 k ∧ s = .int .i64 (sqK l l2 k)) (fun _ i => l.length - (intOf i).toNat)
    case atStart => exact ⟨0, Nat.zero_le _, rfl, rfl⟩
    case round =>
      obtain ⟨k, hk, rfl, rfl⟩ := hrel
      have sb := sqK_le hb hb2 k
      have s0 := sb.1
      have s1 : sqK l l2 k ≤ 1117096902122500 := by omega
      by_cases hlt : k < l.length
      · have hlt2 : k < l2.length := by have := hn.out; omega
        obtain ⟨ad', e', q1⟩ := (HR.out.no O3.out).at_ hpos (byC_get hlt)
        obtain rfl : ad = ad' := by simpa using e'
        obtain ⟨ad', e', q2⟩ := (HR2.out.no O3.out).at_ (by omega) (byC_get hlt2)
        obtain rfl : ad2 = ad' := by simpa using e'
        have hx := hb.at_ k
        have hy := hb2.at_ k
        have hs : Hid (sqK l l2 (k + 1) = sqK l l2 k + ((l.getD k 0 : Nat) - (l2.getD k 0 : Nat) : Int) * ((l.getD k 0 : Nat) - (l2.getD k 0 : Nat) : Int)) := rfl
        have hz := sq_byte _ _ hx hy
        generalize l.getD k 0 = x at *
        generalize l2.getD k 0 = y at *
        obtain ⟨z0, z1⟩ := hz
        go_wp2
        go_round
        case rel => exact ⟨k + 1, by omega, by go_num, by rw [hs.out]⟩
        case measure => simp [intOf]; omega
      · obtain rfl : k = l.length := by omega
        go_wp2
        go_ret2
        exact ⟨rfl, O3.out⟩
  · have hpost : Hid (ApartPost w W H C l W2 H2 C2 l2 = fun e w' => e = .returned (.tuple #[.float .f64 0, .int .i64 (pairE W H C l.length W2 H2 C2 l2.length)]) ∧ Only No w w') := by
      unfold Hid ApartPost; rw [if_neg h0]
    rw [hpost.out]
    have d : (pairE W H C l.length W2 H2 C2 l2.length != 0) = true := by simpa using h0
    generalize pairE W H C l.length W2 H2 C2 l2.length = r at *
    replace h0 := Lib.hid h0
    clear hr hr2 hpost
    unfold imgV imgA at *
    go_enter Try.func19, Try.ntmps19
    go_wp2_with fail
    obtain ⟨b1, b2, o2⟩ := boxes w #[.int .i64 W, .int .i64 H, .int .i64 C, .slice A l.length c] #[.int .i64 W2, .int .i64 H2, .int .i64 C2, .slice A2 l2.length c2]
    generalize ((w.alloc (Obj.cells #[.int .i64 W, .int .i64 H, .int .i64 C, .slice A l.length c] 32)).alloc (Obj.cells #[.int .i64 W2, .int .i64 H2, .int .i64 C2, .slice A2 l2.length c2] 32)) = w2 at *
    refine (hp w2).mono ?_
    rintro e w3 ⟨rfl, o3⟩
    have O3 := Lib.hid (o2.trans o3)
    clear b1 b2 o2 o3 hp
    go_wp2_with fail
    go_ret2
    exact ⟨rfl, O3.out⟩
set_option maxHeartbeats 1600000 in
theorem rapart20 (hr : Rds w 1 A l.length (byC l)) (hr2 : Rds w 1 A2 l2.length (byC l2)) (hb : Byts l) (hb2 : Byts l2) :
    Calls Try.prog 20 #[imgV W H C A l.length c, imgV W2 H2 C2 A2 l2.length c2] w (ApartPost w W H C l W2 H2 C2 l2) := by
  have hp := fun w => rpair39 w W H C A l.length c W2 H2 C2 A2 l2.length c2
  unfold PairPost at hp
  by_cases h0 : pairE W H C l.length W2 H2 C2 l2.length = 0
  · have hpost : Hid (ApartPost w W H C l W2 H2 C2 l2 = fun e w' => e = .returned (.tuple #[.float .f64 (apartP l l2), .int .i64 0]) ∧ Only No w w') := by
      unfold Hid ApartPost; rw [h0]; rfl
    rw [hpost.out]
    rw [h0] at hp
    obtain ⟨rfl, rfl, rfl, hn, _, hpos, hle⟩ := pairE_zero h0
    obtain ⟨ad, rfl, hlt1, hc⟩ := hr.2 hpos
    obtain ⟨ad2, rfl, hlt2, hc2⟩ := hr2.2 (by omega)
    have hrun : ∀ w, (binOp .quo 25 (.float .f64 (floatOfInt .f64 (sqK l l2 l.length))) (.float .f64 (floatOfInt .f64 (l.length : Int)))).run Try.prog w = .ok (.float .f64 (apartP l l2)) w := fun w => run_float_arith w .quo 25 .f64 _ _ _ (apart_bits hb hb2 hpos hle).1
    replace hn := Lib.hid hn
    replace h0 := Lib.hid h0
    have HR := Lib.hid hr
    have HR2 := Lib.hid hr2
    clear hr hr2 hc hc2
    unfold imgV imgA at *
    go_enter Try.func20, Try.ntmps20
    go_wp2_with fail
    obtain ⟨b1, b2, o2⟩ := boxes w #[.int .i64 W, .int .i64 H, .int .i64 C, .slice (some ad) l.length c] #[.int .i64 W, .int .i64 H, .int .i64 C, .slice (some ad2) l2.length c2]
    generalize ((w.alloc (Obj.cells #[.int .i64 W, .int .i64 H, .int .i64 C, .slice (some ad) l.length c] 32)).alloc (Obj.cells #[.int .i64 W, .int .i64 H, .int .i64 C, .slice (some ad2) l2.length c2] 32)) = w2 at *
    refine (hp w2).mono ?_
    rintro e w3 ⟨rfl, o3⟩
    obtain ⟨_, _, _, k3⟩ := cells4 (b2.only o3 id)
    obtain ⟨_, _, _, j3⟩ := cells4 (b1.only o3 id)
    have O3 := Lib.hid (o2.trans o3)
    clear b1 b2 o2 o3 hp
    go_wp2_with fail
    go_loopw [7, 8] (fun s i wr => ∃ k d : Nat, k ≤ l.length ∧ i = .int .i64 k ∧ s = .int .i64 (sqK l l2 k) ∧ wr = w3.drewN d) (fun _ i _ => l.length - (intOf i).toNat)
    case atStart => exact ⟨0, 0, Nat.zero_le _, rfl, rfl, rfl⟩
    case round =>
      obtain ⟨k, d, hk, rfl, rfl, rfl⟩ := hrel
      have sb := sqK_le hb hb2 k
      have s0 := sb.1
      have s1 : sqK l l2 k ≤ 1117096902122500 := by omega
      by_cases hlt : k < l.length
      · have hlt2 : k < l2.length := by have := hn.out; omega
        obtain ⟨ad', e', q1⟩ := (HR.out.no O3.out).at_ hpos (byC_get hlt)
        obtain rfl : ad = ad' := by simpa using e'
        obtain ⟨ad', e', q2⟩ := (HR2.out.no O3.out).at_ (by omega) (byC_get hlt2)
        obtain rfl : ad2 = ad' := by simpa using e'
        have hx := hb.at_ k
        have hy := hb2.at_ k
        have hs : Hid (sqK l l2 (k + 1) = sqK l l2 k + ((l.getD k 0 : Nat) - (l2.getD k 0 : Nat) : Int) * ((l.getD k 0 : Nat) - (l2.getD k 0 : Nat) : Int)) := rfl
        have hz := sq_byte _ _ hx hy
        generalize l.getD k 0 = x at *
        generalize l2.getD k 0 = y at *
        obtain ⟨z0, z1⟩ := hz
        have e1 : IntKind.i64.wrap ((x : Int) - (y : Int)) = (x : Int) - (y : Int) := IntWalk.i64_in _ (by omega)
        have i1 : (k : Int) < (l.length : Int) := by omega
        have i2 : (k : Int) < (l2.length : Int) := by omega
        have i3 : (0 : Int) ≤ (k : Int) := by omega
        go_wp2_with fail
        go_quiet (fail)
        go_wp2
        go_roundw
        case rel => exact ⟨k + 1, _, by omega, by go_num, by rw [hs.out], by first | rfl | (rw [World.drewN_drewN])⟩
        case measure => simp [intOf]; omega
      · obtain rfl : k = l.length := by omega
        go_wp2
        go_ret2
        exact ⟨rfl, O3.out.drewN _⟩
  · have hpost : Hid (ApartPost w W H C l W2 H2 C2 l2 = fun e w' => e = .returned (.tuple #[.float .f64 0, .int .i64 (pairE W H C l.length W2 H2 C2 l2.length)]) ∧ Only No w w') := by
      unfold Hid ApartPost; rw [if_neg h0]
    rw [hpost.out]
    have d : (pairE W H C l.length W2 H2 C2 l2.length != 0) = true := by simpa using h0
    generalize pairE W H C l.length W2 H2 C2 l2.length = r at *
    replace h0 := Lib.hid h0
    clear hr hr2 hpost
    unfold imgV imgA at *
    go_enter Try.func20, Try.ntmps20
    go_wp2_with fail
    obtain ⟨b1, b2, o2⟩ := boxes w #[.int .i64 W, .int .i64 H, .int .i64 C, .slice A l.length c] #[.int .i64 W2, .int .i64 H2, .int .i64 C2, .slice A2 l2.length c2]
    generalize ((w.alloc (Obj.cells #[.int .i64 W, .int .i64 H, .int .i64 C, .slice A l.length c] 32)).alloc (Obj.cells #[.int .i64 W2, .int .i64 H2, .int .i64 C2, .slice A2 l2.length c2] 32)) = w2 at *
    refine (hp w2).mono ?_
    rintro e w3 ⟨rfl, o3⟩
    have O3 := Lib.hid (o2.trans o3)
    clear b1 b2 o2 o3 hp
    go_wp2_with fail
    go_ret2
    exact ⟨rfl, O3.out⟩
end
end Go.Proofs.Ytfaciljklligeaa.Ct
