/- The mean of all that is to be believed. -/
import Derived.Test.YtnepchdpgbdogaaSw
import Derived.Test.YtnepchdpgbdogaaBk
namespace Go.Proofs.Ytnepchdpgbdogaa.Ct
open Go.ChangeShapes Go.WideShapes Go.RowKit Mm
theorem idx_of {W H i : Nat} (h : i < W * H) : 0 < W ∧ i % W < W ∧ i / W < H ∧ i / W * W + i % W = i := by
  have hW : 0 < W := Nat.pos_of_ne_zero (by rintro rfl; simp at h)
  exact ⟨hW, Nat.mod_lt _ hW, (Nat.div_lt_iff_lt_mul hW).2 (by rw [Nat.mul_comm]; exact h), Nat.div_add_mod' i W⟩
theorem hasB_idx {W H i : Nat} {l : List Bool} (h : i < W * H) : hasB W H l ((i % W : Nat) : Int) ((i / W : Nat) : Int) = l.getD i false := by
  obtain ⟨_, h1, h2, h3⟩ := idx_of h
  unfold hasB
  rw [inB_nat h1 h2, Bool.true_and]
  have : ((((i / W : Nat) : Int) * (W : Int) + ((i % W : Nat) : Int))).toNat = i := by
    rw [show ((((i / W : Nat) : Int) * (W : Int) + ((i % W : Nat) : Int))) = ((i / W * W + i % W : Nat) : Int) by push_cast; rfl, h3]
    exact Int.toNat_natCast _
  rw [this]
def mnS (l : List Bool) (D : Nat → Int) : Nat → Int
  | 0 => 0
  | i + 1 => if l.getD i false then mnS l D i else mnS l D i + D i
def mnN (l : List Bool) : Nat → Nat
  | 0 => 0
  | i + 1 => if l.getD i false then mnN l i else mnN l i + 1
def mnP (l : List Bool) (D : Nat → Int) (n : Nat) : Int := if mnN l n = 0 then 0 else nearI (mnS l D n) (mnN l n)
theorem mn_bounds (l : List Bool) {D : Nat → Int} (hD : ∀ i, -32768 ≤ D i ∧ D i ≤ 32767) (i : Nat) : mnN l i ≤ i ∧ -32768 * (mnN l i : Int) ≤ mnS l D i ∧ mnS l D i ≤ 32767 * (mnN l i : Int) := by
  induction i with
  | zero => simp [mnN, mnS]
  | succ i ih =>
    have := hD i
    unfold mnN mnS
    split <;> (push_cast; omega)
theorem mnP_bounds (l : List Bool) {D : Nat → Int} (hD : ∀ i, -32768 ≤ D i ∧ D i ≤ 32767) (n : Nat) : -32768 ≤ mnP l D n ∧ mnP l D n ≤ 32767 := by
  obtain ⟨h1, h2, h3⟩ := mn_bounds l hD n
  unfold mnP
  split
  · omega
  · exact nearI_bounds (by omega) h2 h3
set_option maxHeartbeats 1600000 in
theorem mean28 (w : World) (B W H : Nat) (l : List Bool) (bs : List (List Int)) (A : Option Addr) (c g : Nat) (hg : GridAt w B W H A bs) (hm : MapAt w B g W H l) (hB : B ≤ w.heap.size) :
    Calls Try.prog 28 #[gridV W H A bs.length c, P g] w fun e w' => e = .returned (.int .i16 (mnP l (dcs bs) bs.length)) ∧ Only No w w' := by
  have hmp := mnP_bounds l (dcs_bounds hg.bls) bs.length
  have h8 := hm.w8
  have h9 := hm.h8
  have hmul : W * H ≤ 8192 * 8192 := Nat.mul_le_mul h8 h9
  have hlen := hg.len
  have hbl := Lib.hid hg.bls
  have hn1 : bs.length ≤ 67108864 := by omega
  replace hlen := Lib.hid hlen
  have hg1 := Lib.hid (hg.mono hB)
  have hm1 := Lib.hid (hm.mono hB)
  replace hg := Lib.hid hg
  replace hm := Lib.hid hm
  clear hmul
  unfold gridV
  go_enter Try.func28, Try.ntmps28
  go_wp2_with fail
  generalize hw1 : (w.alloc (Obj.cells #[.int .i64 W, .int .i64 H, .slice A bs.length c] 24)) = w1
  have o1 : Hid (Only No w w1) := Lib.hid (by rw [← hw1]; exact (Only.refl No w).alloc _)
  have b1 : Hid (Blk w1 w.heap.size 24 #[.int .i64 W, .int .i64 H, .slice A bs.length c]) := Lib.hid (by rw [← hw1]; exact Blk.new _ _ _)
  clear hw1
  go_loopw [5, 6, 12] (fun v5 v6 v12 wr => ∃ i : Nat, v12 = .int .i64 i ∧ i ≤ bs.length ∧ v5 = .int .i64 (mnS l (dcs bs) i) ∧ v6 = .int .i64 (mnN l i : Nat) ∧ Hid (Only No w1 wr)) (fun _ _ v12 _ => bs.length - (intOf v12).toNat)
  case atStart => exact ⟨0, rfl, by omega, rfl, rfl, Lib.hid (Only.refl _ _)⟩
  case round =>
    obtain ⟨i, rfl, hi, rfl, rfl, hO⟩ := hrel
    obtain ⟨q1, q2, q3⟩ := mn_bounds l (dcs_bounds hbl.out) i
    by_cases hlt : i < bs.length
    · have hlt' : (i : Int) < bs.length := by omega
      obtain ⟨ad, rfl, hcs⟩ := bl_cells hbl.out (hg1.out.no (o1.out.trans hO.out)).rds i hlt
      have h64 := bl_len hbl.out i hlt
      have hb0 : (bs.getD i []).getD 0 0 = dcs bs i := rfl
      generalize bs.getD i [] = b at hcs h64 hb0
      obtain ⟨G, hG⟩ : ∃ G, G = wr.heap.size := ⟨_, rfl⟩
      obtain ⟨k1, k2, k3, k4⟩ := idx_of (show i < W * H by rw [← hlen.out]; exact hlt)
      have hh := hasB_idx (l := l) (show i < W * H by rw [← hlen.out]; exact hlt)
      go_wp2_with (first
        | (with_reducible refine wl_load48 (ad.add (i * 64)) (blC b) ?_ h64 hcs ?_
           · rfl)
        | (with_reducible refine wl_store48 wr.heap.size _ (blC b) ?_ ?_ (Blk.new wr 48 _) ?_ h64 (blC_one b) ?_
           · rfl
           · rfl
           · rfl
           intro w5 hb5 ho5
           have O5 : Hid (Only No w1 w5) := Lib.hid (hO.out.then ((Only.refl (One wr.heap.size) wr).alloc _ |>.trans ho5) (fun i h => .inr (by have := hO.out.size; have h : i = wr.heap.size := h.symm ▸ rfl; omega)))
           have B5 := Lib.hid hb5
           clear hb5 ho5 hcs))
      have b5 := b1.out.only O5.out id
      have c0 := b5.cell 0
      simp only [List.getElem?_toArray, List.getElem?_cons_zero] at c0
      have m5 := Lib.hid (hm1.out.no (o1.out.trans O5.out))
      have d0 := B5.out.cell 0
      have hd0 : (blC b).toArray[0]? = some (.int .i16 (dcs bs i)) := by
        rw [← hb0]
        rw [blC_length] at h64
        simp [blC, h64]
      rw [hd0] at d0
      have hW0 : ¬ (W : Int) = 0 := by omega
      have e1 : (i : Int).tmod (W : Int) = ((i % W : Nat) : Int) := by rw [Int.tmod_eq_emod_of_nonneg (by omega)]; rfl
      have e2 : (i : Int).tdiv (W : Int) = ((i / W : Nat) : Int) := by rw [Int.tdiv_eq_ediv_of_nonneg (by omega)]; rfl
      obtain ⟨r1, r2, r3⟩ := mn_bounds l (dcs_bounds hbl.out) (i + 1)
      have f1 := dcs_bounds hbl.out i
      clear b5 hb0 hd0 h64
      generalize hqx : i % W = qx at *
      generalize hqy : i / W = qy at *
      replace e1 := Lib.hid e1
      replace e2 := Lib.hid e2
      have e3 : IntKind.i64.wrap (qx : Int) = (qx : Int) := IntWalk.i64_in _ (by omega)
      have e4 : IntKind.i64.wrap (qy : Int) = (qy : Int) := IntWalk.i64_in _ (by omega)
      replace e1 := e1.out
      replace e2 := e2.out
      have hW1 : ¬ W = 0 := by omega
      cases hf : l.getD i false
      · have eN : mnN l (i + 1) = mnN l i + 1 := by rw [mnN, hf]; rfl
        have eS : mnS l (dcs bs) (i + 1) = mnS l (dcs bs) i + dcs bs i := by rw [mnS, hf]; rfl
        rw [eN, eS] at r2 r3
        have e5 : IntKind.i64.wrap (mnS l (dcs bs) i + dcs bs i) = mnS l (dcs bs) i + dcs bs i := IntWalk.i64_in _ (by push_cast at r2 r3; omega)
        have e6 : IntKind.i64.wrap (dcs bs i) = dcs bs i := IntWalk.i64_in _ (by omega)
        have hq : ∀ n, Calls Try.prog 25 #[P g, .int .i64 qx, .int .i64 qy] (w5.drewN n) fun e w' => e = .returned (.bool false) ∧ ∃ m, w' = (w5.drewN n).drewN m := fun n => by
          have := has25 _ g W H _ l (m5.out.drewN n) qx qy
          rw [hh, hf] at this
          exact this
        clear hh
        go_quiet ((go_at_call 25; exact Calls.quiet_of (hq _)))
        go_wp2_with fail
        go_roundw
        case rel => exact ⟨i + 1, by go_num, by omega, by rw [eS], by rw [eN]; go_num, Lib.hid (by first | exact O5.out | exact O5.out.drewN _)⟩
        case measure => simp [intOf]; omega
      · have eN : mnN l (i + 1) = mnN l i := by rw [mnN, hf]; rfl
        have eS : mnS l (dcs bs) (i + 1) = mnS l (dcs bs) i := by rw [mnS, hf]; rfl
        have hq : ∀ n, Calls Try.prog 25 #[P g, .int .i64 qx, .int .i64 qy] (w5.drewN n) fun e w' => e = .returned (.bool true) ∧ ∃ m, w' = (w5.drewN n).drewN m := fun n => by
          have := has25 _ g W H _ l (m5.out.drewN n) qx qy
          rw [hh, hf] at this
          exact this
        clear hh
        go_quiet ((go_at_call 25; exact Calls.quiet_of (hq _)))
        go_wp2_with fail
        go_roundw
        case rel => exact ⟨i + 1, by go_num, by omega, by rw [eS], by rw [eN], Lib.hid (by first | exact O5.out | exact O5.out.drewN _)⟩
        case measure => simp [intOf]; omega
    · have hlt' : ¬ (i : Int) < bs.length := by omega
      obtain rfl : i = bs.length := by omega
      by_cases h0 : mnN l bs.length = 0
      · have h0' : (((mnN l bs.length : Nat) : Int) == 0) = true := by simp [h0]
        have h0'' : ((mnN l bs.length : Nat) : Int) = 0 := by omega
        go_wp2_with fail
        go_ret
        refine ⟨?_, o1.out.trans hO.out⟩
        simp [mnP, h0]
      · have h0' : (((mnN l bs.length : Nat) : Int) == 0) = false := by simp [h0]
        go_wp2_with fail
        refine (nearest39 _ _ _ (by omega) (by omega)).mono ?_
        rintro e w3 ⟨rfl, rfl⟩
        go_wp2_with fail
        go_ret
        refine ⟨?_, o1.out.trans hO.out⟩
        have h16 := wrap16 _ hmp
        unfold mnP at h16
        rw [if_neg h0] at h16
        simp [mnP, h0, h16]
end Go.Proofs.Ytnepchdpgbdogaa.Ct
