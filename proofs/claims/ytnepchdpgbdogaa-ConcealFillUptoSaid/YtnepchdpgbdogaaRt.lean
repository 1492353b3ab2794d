/- The reference: Fits, DC, Same; what a map and a grid were. -/
import Derived.Test.YtnepchdpgbdogaaRi
import Derived.Test.YtnepchdpgbdogaaSm
import Derived.Test.YtnepchdpgbdogaaAv
import Derived.Test.YtnepchdpgbdogaaRw
import Derived.Test.YtnepchdpgbdogaaQw
namespace Go.Proofs.Ytnepchdpgbdogaa.Ct
open Go.ChangeShapes Go.WideShapes Go.RowKit Mm
theorem fits29 (w : World) (W H : Nat) (gw gh : Int) (A F : Option Addr) (n c m fc : Nat) (hm : m = W * H) (hW : W ≤ 8192) (hH : H ≤ 8192) :
    Calls Try.prog 29 #[gridI gw gh A n c, .int .i64 W, .int .i64 H, .slice F m fc] w fun e w' => e = .returned (.bool (decide (gw = W ∧ gh = H ∧ n = W * H))) ∧ Only No w w' := by
  have hmul : W * H ≤ 8192 * 8192 := Nat.mul_le_mul hW hH
  have em : IntKind.i64.wrap ((W : Int) * (H : Int)) = ((W * H : Nat) : Int) := by
    rw [IntWalk.i64_in _ (by rw [← Int.natCast_mul]; omega), ← Int.natCast_mul]
  obtain ⟨N, hN⟩ : ∃ N, N = W * H := ⟨_, rfl⟩
  rw [← hN] at em hm hmul ⊢
  subst hm
  replace hN := Lib.hid hN
  have gW : (0 : Int) ≤ W := by omega
  have gH : (0 : Int) ≤ H := by omega
  unfold gridI
  by_cases h1 : gw = W
  · subst h1
    by_cases h2 : gh = H
    · subst h2
      by_cases h3 : n = m
      · subst h3
        go_enter Try.func29, Try.ntmps29
        go_wp2_with fail
        go_ret
        exact ⟨by simp, (Only.refl No w).alloc _⟩
      · have h3' : ((n : Int) == (m : Int)) = false := by simp; omega
        have h3i : ¬ (n : Int) = (m : Int) := by omega
        have hd : decide ((W : Int) = W ∧ (H : Int) = H ∧ n = m) = false := by simp [h3]
        rw [hd]
        go_enter Try.func29, Try.ntmps29
        go_wp2_with fail
        go_ret
        exact ⟨by simp, (Only.refl No w).alloc _⟩
    · have h2' : (gh == (H : Int)) = false := by simp [h2]
      have hd : decide ((W : Int) = W ∧ gh = H ∧ n = m) = false := by simp [h2]
      rw [hd]
      go_enter Try.func29, Try.ntmps29
      go_wp2_with fail
      go_ret
      exact ⟨by simp, (Only.refl No w).alloc _⟩
  · have h1' : (gw == (W : Int)) = false := by simp [h1]
    have hd : decide (gw = W ∧ gh = H ∧ n = m) = false := by simp [h1]
    rw [hd]
    go_enter Try.func29, Try.ntmps29
    go_wp2_with fail
    go_ret
    exact ⟨by simp, (Only.refl No w).alloc _⟩
/-- what DC tells of any grid -/
def dcR (gw gh : Int) (W H : Nat) (l : List Bool) (bs : List (List Int)) (x y : Int) : Int := if gw = W ∧ gh = H ∧ bs.length = W * H then dcP W H l (dcs bs) x y else 0
set_option maxHeartbeats 1600000 in
theorem dc13 (w : World) (W H : Nat) (gw gh : Int) (A F : Option Addr) (n c m fc : Nat) (l : List Bool) (bs : List (List Int)) (hl : l.length = m) (hbl : bs.length = n) (hm : m = W * H) (hA : Rds w 64 A n (bsC bs)) (hb : Bls bs) (hF : Rds w 1 F m (boC l)) (hW : W ≤ 8192) (hH : H ≤ 8192) (x y : Int) (hx : -9223372036854775808 ≤ x ∧ x ≤ 9223372036854775807) (hy : -9223372036854775808 ≤ y ∧ y ≤ 9223372036854775807) :
    Calls Try.prog 13 #[gridI gw gh A n c, .int .i64 W, .int .i64 H, .slice F m fc, .int .i64 x, .int .i64 y] w fun e w' => e = .returned (.int .i16 (dcR gw gh W H l bs x y)) ∧ Only No w w' := by
  have hmul : W * H ≤ 8192 * 8192 := Nat.mul_le_mul hW hH
  replace hA := Lib.hid hA
  replace hb := Lib.hid hb
  replace hF := Lib.hid hF
  replace hm := Lib.hid hm
  have hr : Hid (dcR gw gh W H l bs x y = if gw = W ∧ gh = H ∧ n = W * H then dcP W H l (dcs bs) x y else 0) := Lib.hid (by unfold dcR; rw [hbl])
  unfold gridI
  go_enter Try.func13, Try.ntmps13
  go_upto_region 1 with (fail)
  generalize hw1 : (w.alloc (Obj.cells #[.int .i64 gw, .int .i64 gh, .slice A n c] 24)) = w1
  have o1 : Hid (Only No w w1) := Lib.hid (by rw [← hw1]; exact (Only.refl No w).alloc _)
  have b1 : Blk w1 w.heap.size 24 #[.int .i64 gw, .int .i64 gh, .slice A n c] := by rw [← hw1]; exact Blk.new _ _ _
  clear hw1
  have c0 := b1.cell 0
  have c1 := b1.cell 1
  have c2 := b1.cell 2
  simp only [List.getElem?_toArray, List.getElem?_cons_zero, List.getElem?_cons_succ] at c0 c1 c2
  replace b1 := Lib.hid b1
  have h29 := fits29 w1 W H gw gh A F n c m fc hm.out hW hH
  unfold gridI at h29
  obtain ⟨fb, hfb⟩ : ∃ fb, fb = decide (gw = (W : Int) ∧ gh = (H : Int) ∧ n = W * H) := ⟨_, rfl⟩
  rw [← hfb] at h29
  replace hfb := Lib.hid hfb
  go_upto_region 2 with (go_at_call 29; refine h29.mono ?_; clear h29; rintro e w2 ⟨rfl, o2⟩; have O2 := Lib.hid (o1.out.trans o2); have B2 := Lib.hid (b1.out.only o2 id); clear o2)
  by_cases hf : gw = W ∧ gh = H ∧ n = W * H
  · obtain rfl : fb = true := by rw [hfb.out]; exact decide_eq_true hf
    obtain ⟨rfl, rfl, hn⟩ := hf
    obtain rfl : n = m := by have := hm.out; omega
    have hr2 : Hid (dcR W H W H l bs x y = dcP W H l (dcs bs) x y) := Lib.hid (by rw [hr.out, if_pos ⟨rfl, rfl, hn⟩])
    replace hn := Lib.hid hn
    cases hi : inB W H x y
    · have hz : Hid (dcR W H W H l bs x y = 0) := Lib.hid (by rw [hr2.out]; unfold dcP; rw [if_neg (by rw [hi]; decide)])
      have hi2 : ¬ (0 ≤ x ∧ x < W ∧ 0 ≤ y ∧ y < H) := by unfold inB at hi; simpa using hi
      replace hi := Lib.hid hi
      by_cases h1 : x < 0
      · go_wp2_with fail
        go_ret
        exact ⟨by rw [hz.out]; rfl, O2.out⟩
      · by_cases h2 : (W : Int) ≤ x
        · go_wp2_with fail
          go_ret
          exact ⟨by rw [hz.out]; rfl, O2.out⟩
        · by_cases h3 : y < 0
          · go_wp2_with fail
            go_ret
            exact ⟨by rw [hz.out]; rfl, O2.out⟩
          · have h4 : (H : Int) ≤ y := by omega
            go_wp2_with fail
            go_ret
            exact ⟨by rw [hz.out]; rfl, O2.out⟩
    · obtain ⟨a, b, ha, hb', hAa, hBb⟩ := of_inB hi
      have g0 : ¬ x < 0 := by omega
      have g1 : ¬ (W : Int) ≤ x := by omega
      have g2 : ¬ y < 0 := by omega
      have g3 : ¬ (H : Int) ≤ y := by omega
      have hlt : b * W + a < W * H := idx_lt hAa hBb
      obtain ⟨t, ht⟩ : ∃ t : Nat, t = b * W + a := ⟨_, rfl⟩
      have htn : t < n := by have := hn.out; omega
      have htn' : (t : Int) < n := by omega
      have e5 : ∃ s, IntKind.i64.wrap (y * (W : Int)) = s ∧ IntKind.i64.wrap (s + x) = (t : Int) := by
        subst ha hb'
        refine ⟨((b * W : Nat) : Int), ?_, ?_⟩
        · rw [IntWalk.i64_in _ (by push_cast at hlt hmul ⊢; have : ((b * W : Nat) : Int) ≤ 67108864 := by omega
                                   push_cast at this; omega)]; push_cast; rfl
        · rw [IntWalk.i64_in _ (by omega)]; rw [ht]; push_cast; rfl
      obtain ⟨s, e5, e6⟩ := e5
      have e8 : ((y * (W : Int)) + x).toNat = t := by
        subst ha hb'
        rw [show ((b : Int) * (W : Int) + (a : Int)) = ((b * W + a : Nat) : Int) by push_cast; rfl, ht]; exact Int.toNat_natCast _
      obtain ⟨adf, rfl, hcf⟩ := (hF.out.no O2.out).at_ (i := t) (u := .bool (l.getD t false)) (by omega) (by simp [boC, show t < l.length by omega])
      have hhas : Hid (hasB W H l x y = l.getD t false) := Lib.hid (by
        unfold hasB
        rw [hi, e8, Bool.true_and])
      cases hh : l.getD t false
      · have hz : Hid (dcR W H W H l bs x y = dcs bs t) := Lib.hid (by rw [hr2.out]; unfold dcP; rw [if_pos hi, hhas.out, hh, if_neg (by decide), e8])
        rw [hh] at hcf
        obtain ⟨adg, rfl, hcg⟩ := (hA.out.no O2.out).at_ (i := t * 64 + 0) (u := .int .i16 (dcs bs t)) (by omega) (by rw [bsC_get hb.out t 0 (by omega) (by omega)]; rfl)
        rw [Nat.add_zero] at hcg
        have d2 := B2.out.cell 2
        simp only [List.getElem?_toArray, List.getElem?_cons_zero, List.getElem?_cons_succ] at d2
        replace ht := Lib.hid ht
        replace e8 := Lib.hid e8
        replace hi := Lib.hid hi
        clear hlt ha hb' hAa hBb
        go_wp2_with fail
        go_ret
        exact ⟨by rw [hz.out]; rfl, O2.out⟩
      · have hz : Hid (dcR W H W H l bs x y = stP W H l (dcs bs) x y) := Lib.hid (by rw [hr2.out]; unfold dcP; rw [if_pos hi, hhas.out, hh, if_pos rfl])
        rw [hh] at hcf
        have d0 := B2.out.cell 0
        have d1 := B2.out.cell 1
        have d2 := B2.out.cell 2
        simp only [List.getElem?_toArray, List.getElem?_cons_zero, List.getElem?_cons_succ] at d0 d1 d2
        have px : 0 ≤ x ∧ x < W := by omega
        have py : 0 ≤ y ∧ y < H := by omega
        have h30 := standIn30 w2 W H A (some adf) n c fc l bs (by omega) hbl hn.out (hA.out.no O2.out) hb.out (hF.out.no O2.out) hW hH x y px py
        have hsb := stP_bounds hW hH (l := l) (dcs_bounds hb.out) px py
        have ew : IntKind.i16.wrap (stP W H l (dcs bs) x y) = stP W H l (dcs bs) x y := wrap16 _ hsb
        unfold gridI at h30
        replace ht := Lib.hid ht
        replace e8 := Lib.hid e8
        replace hi := Lib.hid hi
        clear hlt ha hb' hAa hBb
        go_wp2_with (go_at_call 30; refine h30.mono ?_; clear h30; rintro e w3 ⟨rfl, o3⟩)
        go_ret
        exact ⟨by rw [hz.out]; rfl, O2.out.trans o3⟩
  · obtain rfl : fb = false := by rw [hfb.out]; exact decide_eq_false hf
    have hz : Hid (dcR gw gh W H l bs x y = 0) := Lib.hid (by rw [hr.out, if_neg hf])
    replace hf := Lib.hid hf
    go_wp2_with fail
    go_ret
    exact ⟨by rw [hz.out]; rfl, O2.out⟩
theorem flags31 (w : World) (B g W H : Nat) (l : List Bool) (h : MapAt w B g W H l) :
    Calls Try.prog 31 #[P g] w fun e w' => ∃ v, e = .returned v ∧ w'.ownsRow w.heap.size 4 1 v l.length (boC l) ∧ Only No w w' := by
  have hW := h.w8
  have hH := h.h8
  have hmul : W * H ≤ 8192 * 8192 := Nat.mul_le_mul hW hH
  have hlen := h.len
  obtain ⟨A, c, n, hb, hr, _⟩ := h.ex
  have c2 := hb.cell 2
  simp only [List.getElem?_toArray, List.getElem?_cons_zero, List.getElem?_cons_succ] at c2
  have hl := hb.lt
  have h35 := clone35 w A c l hr (by omega) (fun e => by
    rcases Nat.eq_zero_or_pos l.length with h0 | h0
    · exact h0
    · obtain ⟨ad, e', _⟩ := hr.2 h0
      rw [e] at e'
      cases e')
  replace hb := Lib.hid hb
  replace hr := Lib.hid hr
  replace hlen := Lib.hid hlen
  go_enter Try.func31, Try.ntmps31
  go_wp2_with (go_at_call 35; refine h35.mono ?_; clear h35; rintro e w1 ⟨v, rfl, hv, ho⟩)
  go_ret
  exact ⟨_, rfl, hv, ho⟩
theorem still15 (w : World) (B g W H : Nat) (l : List Bool) (F : Option Addr) (fc m : Nat) (h : MapAt w B g W H l) (hm : l.length = m) (hF : Rds w 1 F m (boC l)) :
    Calls Try.prog 15 #[P g, .int .i64 W, .int .i64 H, .slice F m fc] w fun e w' => e = .returned (.bool true) ∧ Only No w w' := by
  have hW := h.w8
  have hH := h.h8
  have hmul : W * H ≤ 8192 * 8192 := Nat.mul_le_mul hW hH
  have hlen := h.len
  have h31 := flags31 w B g W H l h
  rw [hm] at h31
  have hmb : m ≤ 67108864 := by omega
  replace h := Lib.hid h
  replace hF := Lib.hid hF
  have d1 : ((W : Int) != (W : Int)) = false := by simp
  have d2 : ((H : Int) != (H : Int)) = false := by simp
  have d3 : ((m : Int) != (m : Int)) = false := by simp
  replace hlen := Lib.hid hlen
  go_enter Try.func15, Try.ntmps15
  go_upto_region 2 with (go_at_call 31; refine h31.mono ?_; clear h31; rintro e w1 ⟨v, rfl, hv, ho⟩; obtain ⟨A1, c1, rfl⟩ := own_slice hv; have R1 := Lib.hid (Rds.of_own hv); have O1 := Lib.hid ho; clear hv ho)
  have h32 := size32 w1 g W H B l (h.out.no O1.out)
  go_wp2_with (go_at_call 32; refine h32.mono ?_; clear h32; rintro e w2 ⟨rfl, q, rfl⟩)
  obtain ⟨w2, hw2⟩ : ∃ w2, w2 = w1.drewN q := ⟨_, rfl⟩
  rw [← hw2]
  have O2 : Hid (Only No w w2) := Lib.hid (by rw [hw2]; exact O1.out.drewN _)
  have R2 : Hid (Rds w2 1 A1 m (boC l)) := Lib.hid (by rw [hw2]; exact R1.out.no ((Only.refl No w1).drewN q))
  clear hw2
  go_loopw [12] (fun v12 wr => ∃ i : Nat, v12 = .int .i64 i ∧ i ≤ m ∧ Hid (Only No w2 wr)) (fun v12 _ => m - (intOf v12).toNat)
  case atStart => exact ⟨0, rfl, by omega, Lib.hid (Only.refl _ _)⟩
  case round =>
    obtain ⟨i, rfl, hi, hI⟩ := hrel
    by_cases hlt : i < m
    · have hlt' : (i : Int) < m := by omega
      obtain ⟨ad, rfl, hc1⟩ := (R2.out.no hI.out).at_ (i := i) (u := .bool (l.getD i false)) (by omega) (by simp [boC, show i < l.length by omega])
      obtain ⟨ad2, rfl, hc2⟩ := (hF.out.no (O2.out.trans hI.out)).at_ (i := i) (u := .bool (l.getD i false)) (by omega) (by simp [boC, show i < l.length by omega])
      generalize l.getD i false = bb at hc1 hc2
      have dd : (bb != bb) = false := by simp
      go_wp2_with fail
      go_quiet (fail)
      go_wp2_with fail
      go_roundw
      case rel => exact ⟨i + 1, by go_num, by omega, Lib.hid (hI.out.drewN _)⟩
      case measure => simp [intOf]; omega
    · have hlt' : ¬ (i : Int) < m := by omega
      go_wp2_with fail
      go_ret
      exact ⟨rfl, O2.out.trans hI.out⟩
set_option maxHeartbeats 1600000 in
theorem same18_yes (w : World) (gw gh : Int) (A B : Option Addr) (c d n : Nat) (bs : List (List Int)) (hA : Rds w 64 A bs.length (bsC bs)) (hB : Rds w 64 B bs.length (bsC bs)) (hb : Bls bs) (hn : n = bs.length) (h64 : n ≤ 1048576) :
    Calls Try.prog 18 #[gridI gw gh A n c, gridI gw gh B n d] w fun e w' => e = .returned (.bool true) ∧ Only No w w' := by
  replace hA := Lib.hid hA
  replace hB := Lib.hid hB
  replace hb := Lib.hid hb
  replace hn := Lib.hid hn
  have d1 : (gw != gw) = false := by simp
  have d2 : (gh != gh) = false := by simp
  have d3 : ((n : Int) != (n : Int)) = false := by simp
  unfold gridI
  go_enter Try.func18, Try.ntmps18
  go_upto_region 1 with (fail)
  generalize hw1 : ((w.alloc (Obj.cells #[.int .i64 gw, .int .i64 gh, .slice A n c] 24)).alloc (Obj.cells #[.int .i64 gw, .int .i64 gh, .slice B n d] 24)) = w1
  have o1 : Hid (Only No w w1) := Lib.hid (by rw [← hw1]; exact ((Only.refl No w).alloc _).alloc _)
  have b1 : Blk w1 w.heap.size 24 #[.int .i64 gw, .int .i64 gh, .slice A n c] := by rw [← hw1]; exact (Blk.new _ _ _).alloc _
  have b2 : Blk w1 (w.heap.size + 1) 24 #[.int .i64 gw, .int .i64 gh, .slice B n d] := by rw [← hw1]; exact blk_new1' _ _ _ _
  clear hw1
  have c0 := b1.cell 0
  have c1 := b1.cell 1
  have c2 := b1.cell 2
  have e0 := b2.cell 0
  have e1 := b2.cell 1
  have e2 := b2.cell 2
  simp only [List.getElem?_toArray, List.getElem?_cons_zero, List.getElem?_cons_succ] at c0 c1 c2 e0 e1 e2
  replace b1 := Lib.hid b1
  replace b2 := Lib.hid b2
  go_wp2_with fail
  go_loopw [5] (fun v5 wr => ∃ i : Nat, v5 = .int .i64 i ∧ i ≤ n ∧ ∃ m, wr = w1.drewN m) (fun v5 _ => n - (intOf v5).toNat)
  case atStart => exact ⟨0, rfl, by omega, 0, rfl⟩
  case round =>
    obtain ⟨i, rfl, hi, m, rfl⟩ := hrel
    by_cases hlt : i < n
    · have hlt' : (i : Int) < n := by omega
      have hib : i < bs.length := by rw [← hn.out]; exact hlt
      obtain ⟨ad, rfl, hc1⟩ := bl_cells hb.out (hA.out.no o1.out) i hib
      obtain ⟨ad2, rfl, hc2⟩ := bl_cells hb.out (hB.out.no o1.out) i hib
      have hl := bl_len hb.out i hib
      have hl64 : (bs.getD i []).length = 64 := by rw [blC_length] at hl; exact hl
      generalize bs.getD i [] = b at hc1 hc2 hl hl64
      replace hc1 := Lib.hid hc1
      replace hc2 := Lib.hid hc2
      go_wp2_with fail
      refine wp_region_quiet_lit (by kernel_rfl) (by kernel_rfl) ?_
      repeat (first
        | ((with_reducible refine wq_load48 (ad.add (i * 64)) (blC b) ?_ hl (fun w' hw' => ?_) ?_)
           · rfl
           · obtain ⟨k, rfl⟩ := hw'
             exact hc1.out)
        | ((with_reducible refine wq_load48 (ad2.add (i * 64)) (blC b) ?_ hl (fun w' hw' => ?_) ?_)
           · rfl
           · obtain ⟨k, rfl⟩ := hw'
             exact hc2.out)
        | ((with_reducible refine wq_neq48 b b ?_ ?_ hl64 hl64 ?_)
           · rfl
           · rfl)
        | quiet_step (fail))
      refine wpQuiet_nil ?_
      intro _ hw'
      obtain ⟨nq, hw''⟩ := hw'
      subst hw''
      have hdd : (!decide (b = b)) = false := by simp
      go_wp2_with fail
      go_roundw
      case rel => exact ⟨i + 1, by go_num, by omega, _, rfl⟩
      case measure => simp [intOf]; omega
    · have hlt' : ¬ (i : Int) < n := by omega
      go_wp2_with fail
      go_ret
      exact ⟨by simp, o1.out.drewN _⟩

set_option maxHeartbeats 1600000 in
theorem kept14 (w : World) (gw gh : Int) (G c' n : Nat) (A : Option Addr) (c : Nat) (bs : List (List Int)) (hl : bs.length = n) (hA : Rds w 64 A n (bsC bs)) (hb : Bls bs) (hc : n + 8 ≤ c') (hr : Row w G (bs ++ marks 8)) (hn : n ≤ 1048576) :
    Calls Try.prog 14 #[gridI gw gh (some ⟨G, 0, none⟩) n c', gridI gw gh A n c] w fun e w' => e = .returned (.bool true) ∧ Only No w w' := by
  have hbm : Hid (Bls (bs ++ marks 8)) := Lib.hid (bls_append hb (bls_marks 8))
  have hlm : (bs ++ marks 8).length = n + 8 := by rw [List.length_append, hl]; rfl
  have hrd : Hid (Rds w 64 (some ⟨G, 0, none⟩) (n + 8) (bsC (bs ++ marks 8))) := Lib.hid (by
    have := hr.rds hbm.out (n := n + 8) (by omega)
    rwa [List.take_of_length_le (by omega)] at this)
  have hrb : Hid (Rds w 64 (some ⟨G, 0, none⟩) n (bsC bs)) := Lib.hid (by
    have := hr.rds hbm.out (n := n) (by omega)
    rwa [List.take_append_of_le_length (by omega), List.take_of_length_le (by omega)] at this)
  replace hA := Lib.hid hA
  replace hb := Lib.hid hb
  clear hr
  unfold gridI
  go_enter Try.func14, Try.ntmps14
  go_upto_region 1 with (fail)
  generalize hw1 : ((w.alloc (Obj.cells #[.int .i64 gw, .int .i64 gh, .slice (some ⟨G, 0, none⟩) n c'] 24)).alloc (Obj.cells #[.int .i64 gw, .int .i64 gh, .slice A n c] 24)) = w1
  have o1 : Hid (Only No w w1) := Lib.hid (by rw [← hw1]; exact ((Only.refl No w).alloc _).alloc _)
  have b1 : Blk w1 w.heap.size 24 #[.int .i64 gw, .int .i64 gh, .slice (some ⟨G, 0, none⟩) n c'] := by rw [← hw1]; exact (Blk.new _ _ _).alloc _
  have b2 : Blk w1 (w.heap.size + 1) 24 #[.int .i64 gw, .int .i64 gh, .slice A n c] := by rw [← hw1]; exact blk_new1' _ _ _ _
  clear hw1
  have c0 := b1.cell 0
  have c1 := b1.cell 1
  have c2 := b1.cell 2
  have e0 := b2.cell 0
  have e1 := b2.cell 1
  have e2 := b2.cell 2
  simp only [List.getElem?_toArray, List.getElem?_cons_zero, List.getElem?_cons_succ] at c0 c1 c2 e0 e1 e2
  replace b1 := Lib.hid b1
  replace b2 := Lib.hid b2
  have hci : (n : Int) + 8 ≤ c' := by omega
  have hz1 : IntKind.i64.wrap ((n : Int) + 8) = (n : Int) + 8 := IntWalk.i64_in _ (by omega)
  go_wp2_with fail
  go_loopw [6] (fun v6 wr => wr = w1 ∧ ∃ i : Nat, v6 = .int .i64 i ∧ n ≤ i ∧ i ≤ n + 8) (fun v6 _ => n + 8 - (intOf v6).toNat)
  case atStart => exact ⟨rfl, n, rfl, by omega, by omega⟩
  case round =>
    obtain ⟨rfl, i, rfl, hi0, hi⟩ := hrel
    by_cases hlt : i < n + 8
    · have hlt' : (i : Int) < (n : Int) + 8 := by omega
      have hil : i < (bs ++ marks 8).length := by omega
      obtain ⟨ad, hc3, hcs⟩ := bl_cells hbm.out (show Rds wr 64 (some ⟨G, 0, none⟩) (bs ++ marks 8).length (bsC (bs ++ marks 8)) by rw [hlm]; exact hrd.out.no o1.out) i hil
      cases hc3
      have hgd : (bs ++ marks 8).getD i [] = markB := by
        rw [List.getD_eq_getElem?_getD, List.getElem?_append_right (by omega), marks, List.getElem?_replicate, if_pos (by omega)]
        rfl
      rw [hgd] at hcs
      have h64 : (blC markB).length = 64 := rfl
      have hl64 : markB.length = 64 := rfl
      rw [Mm.add_plain] at hcs
      replace hcs := Lib.hid hcs
      replace hlm := Lib.hid hlm
      replace hgd := Lib.hid hgd
      replace hil := Lib.hid hil
      have hdd : (!decide (markB = markB)) = false := by simp
      go_wp2_with (first
        | ((with_reducible refine wl_load48 ⟨G, i * 64, none⟩ (blC markB) ?_ h64 hcs.out ?_)
           · rfl)
        | ((with_reducible refine wl_neq48 markB markB ?_ ?_ hl64 hl64 ?_)
           · rfl
           · rfl))
      go_roundw
      case rel => exact ⟨by first | rfl | trivial, i + 1, by go_num, by omega, by omega⟩
      case measure => simp [intOf]; omega
    · have hlt' : ¬ (i : Int) < (n : Int) + 8 := by omega
      have h18 := same18_yes wr gw gh (some ⟨G, 0, none⟩) A c' c n bs (by rw [hl]; exact hrb.out.no o1.out) (by rw [hl]; exact hA.out.no o1.out) hb.out hl.symm hn
      unfold gridI at h18
      go_wp2_with (go_at_call 18; refine h18.mono ?_; clear h18; rintro e w2 ⟨rfl, o2⟩)
      go_ret
      exact ⟨rfl, o1.out.trans o2⟩
end Go.Proofs.Ytnepchdpgbdogaa.Ct
