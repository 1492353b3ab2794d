/- DC: the walk. -/
import Derived.Test.YtnepchdpgbdogaaDc
namespace Go.Proofs.Ytnepchdpgbdogaa.Ct
open Go.ChangeShapes Go.WideShapes Go.RowKit Mm
theorem dc12_nil (w : World) (gw gh : Int) (A : Option Addr) (n c : Nat) (x y : Int) :
    Calls Try.prog 12 #[gridI gw gh A n c, .pointer none, .int .i64 x, .int .i64 y] w fun e w' => e = .returned (.int .i16 0) ∧ Only No w w' := by
  unfold gridI
  go_enter Try.func12, Try.ntmps12
  go_wp2_with fail
  go_ret
  exact ⟨by simp, ((Only.refl No w).alloc _).alloc _⟩
theorem dc12_unfit (w : World) (B W H : Nat) (l : List Bool) (gw gh : Int) (A : Option Addr) (n c g : Nat) (hm : MapAt w B g W H l) (hn : ¬ (gw = W ∧ gh = H ∧ n = W * H)) (hB : B ≤ w.heap.size) (x y : Int) :
    Calls Try.prog 12 #[gridI gw gh A n c, P g, .int .i64 x, .int .i64 y] w fun e w' => e = .returned (.int .i16 0) ∧ Only No w w' := by
  have hm1 := Lib.hid (hm.mono hB)
  replace hm := Lib.hid hm
  replace hn := Lib.hid hn
  unfold gridI
  go_enter Try.func12, Try.ntmps12
  go_wp2_with fail
  generalize hw1 : ((w.alloc (Obj.cells #[.int .i64 gw, .int .i64 gh, .slice A n c] 24)).alloc (Obj.cells #[P g] 31)) = w1
  have o1 : Only No w w1 := by rw [← hw1]; exact ((Only.refl No w).alloc _).alloc _
  refine (fits24_no w1 _ W H l gw gh A n c g (hm1.out.no o1) hn.out o1.size).mono ?_
  rintro e w2 ⟨rfl, o2⟩
  replace o1 := Lib.hid (o1.trans o2)
  clear hw1 o2
  go_wp2_with fail
  go_ret
  exact ⟨by simp, o1.out⟩
theorem dc12_out (w : World) (B W H : Nat) (l : List Bool) (A : Option Addr) (n c g : Nat) (hm : MapAt w B g W H l) (hn : n = W * H) (hB : B ≤ w.heap.size) (x y : Int) (hi : inB W H x y = false) :
    Calls Try.prog 12 #[gridI W H A n c, P g, .int .i64 x, .int .i64 y] w fun e w' => e = .returned (.int .i16 0) ∧ Only No w w' := by
  have hm1 := Lib.hid (hm.mono hB)
  replace hm := Lib.hid hm
  have hi2 : ¬ (0 ≤ x ∧ x < W ∧ 0 ≤ y ∧ y < H) := by unfold inB at hi; simpa using hi
  replace hn := Lib.hid hn
  replace hi := Lib.hid hi
  unfold gridI
  go_enter Try.func12, Try.ntmps12
  go_wp2_with fail
  generalize hw1 : ((w.alloc (Obj.cells #[.int .i64 W, .int .i64 H, .slice A n c] 24)).alloc (Obj.cells #[P g] 31)) = w1
  have o1 : Only No w w1 := by rw [← hw1]; exact ((Only.refl No w).alloc _).alloc _
  have b1 : Blk w1 w.heap.size 24 #[.int .i64 W, .int .i64 H, .slice A n c] := by rw [← hw1]; exact (Blk.new _ _ _).alloc _
  refine (fits24_yes w1 _ W H l A n c g (hm1.out.no o1) hn.out o1.size).mono ?_
  rintro e w2 ⟨rfl, o2⟩
  have b2 := b1.only o2 id
  have c0 := b2.cell 0
  have c1 := b2.cell 1
  simp only [List.getElem?_toArray, List.getElem?_cons_zero, List.getElem?_cons_succ] at c0 c1
  replace o1 := Lib.hid (o1.trans o2)
  clear hw1 o2 b1 b2
  go_wp2_with fail
  all_goals first
    | (go_ret; exact ⟨by simp, o1.out⟩)
    | (exfalso; omega)
set_option maxHeartbeats 1600000 in
theorem dc12_in (w : World) (B W H : Nat) (l : List Bool) (bs : List (List Int)) (A : Option Addr) (c g : Nat) (hg : GridAt w B W H A bs) (hm : MapAt w B g W H l) (hB : B ≤ w.heap.size) (x y : Int) (hi : inB W H x y = true) :
    Calls Try.prog 12 #[gridI W H A bs.length c, P g, .int .i64 x, .int .i64 y] w fun e w' => e = .returned (.int .i16 (dcP W H l (dcs bs) x y)) ∧ Only No w w' := by
  obtain ⟨a', b', ha', hb', hA, hBb⟩ := of_inB hi
  have hW := hm.w8
  have hH := hm.h8
  have hlt : b' * W + a' < W * H := idx_lt hA hBb
  have hmu : W * H ≤ 8192 * 8192 := Nat.mul_le_mul hW hH
  have hlen := hg.len
  have g0 : ¬ x < 0 := by omega
  have g1 : ¬ (W : Int) ≤ x := by omega
  have g2 : ¬ y < 0 := by omega
  have g3 : ¬ (H : Int) ≤ y := by omega
  have hdec : decide (x < 0) = false := decide_eq_false g0
  have hdec1 : decide ((W : Int) ≤ x) = false := decide_eq_false g1
  have hdec2 : decide (y < 0) = false := decide_eq_false g2
  have hdec3 : decide ((H : Int) ≤ y) = false := decide_eq_false g3
  have px : 0 ≤ x ∧ x < W := by omega
  have py : 0 ≤ y ∧ y < H := by omega
  obtain ⟨t, ht⟩ : ∃ t : Nat, t = b' * W + a' := ⟨_, rfl⟩
  have e5 : ∃ s, IntKind.i64.wrap (y * (W : Int)) = s ∧ IntKind.i64.wrap (s + x) = (t : Int) := by
    subst ha' hb'
    refine ⟨((b' * W : Nat) : Int), ?_, ?_⟩
    · rw [IntWalk.i64_in _ (by have : ((b' * W : Nat) : Int) ≤ 67108864 := by omega
                               push_cast at this; omega)]; push_cast; rfl
    · rw [IntWalk.i64_in _ (by omega)]; rw [ht]; push_cast; rfl
  obtain ⟨s, e5, e6⟩ := e5
  have e7 : (t : Int) < bs.length := by omega
  have e8 : ((y * (W : Int)) + x).toNat = t := by
    subst ha' hb'
    rw [show ((b' : Int) * (W : Int) + (a' : Int)) = ((b' * W + a' : Nat) : Int) by push_cast; rfl, ht]; exact Int.toNat_natCast _
  have hdb := dcs_bounds hg.bls t
  have hv : dcP W H l (dcs bs) x y = if hasB W H l x y = true then stP W H l (dcs bs) x y else dcs bs t := by
    unfold dcP; rw [if_pos hi, e8]
  rw [hv]
  have hn : bs.length = W * H := hlen
  have hg1 := Lib.hid (hg.mono hB)
  have hm1 := Lib.hid (hm.mono hB)
  replace hm := Lib.hid hm
  replace hg := Lib.hid hg
  replace hn := Lib.hid hn
  replace hi := Lib.hid hi
  replace e8 := Lib.hid e8
  replace ht := Lib.hid ht
  clear hv hlt hmu hlen ha' hb' hA hBb
  unfold gridI
  go_enter Try.func12, Try.ntmps12
  go_wp2_with fail
  generalize hw1 : ((w.alloc (Obj.cells #[.int .i64 W, .int .i64 H, .slice A bs.length c] 24)).alloc (Obj.cells #[P g] 31)) = w1
  have o1 : Only No w w1 := by rw [← hw1]; exact ((Only.refl No w).alloc _).alloc _
  have b1 : Blk w1 w.heap.size 24 #[.int .i64 W, .int .i64 H, .slice A bs.length c] := by rw [← hw1]; exact (Blk.new _ _ _).alloc _
  have b2 : Blk w1 (w.heap.size + 1) 31 #[P g] := by rw [← hw1]; exact blk_new1 _ _ _ _
  refine (fits24_yes w1 _ W H l A bs.length c g (hm1.out.no o1) hn.out o1.size).mono ?_
  rintro e w2 ⟨rfl, o2⟩
  have B1 := b1.only o2 id
  have B2 := b2.only o2 id
  have c0 := B1.cell 0
  have c1 := B1.cell 1
  have c2 := B1.cell 2
  have c3 := B2.cell 0
  simp only [List.getElem?_toArray, List.getElem?_cons_zero, List.getElem?_cons_succ] at c0 c1 c2 c3
  replace o1 := Lib.hid (o1.trans o2)
  replace B1 := Lib.hid B1
  replace B2 := Lib.hid B2
  clear hw1 o2 b1 b2
  obtain ⟨ad, rfl, hcs⟩ := (hg1.out.no o1.out).rds.at_ (i := t * 64 + 0) (u := .int .i16 (dcs bs t)) (by omega) (by rw [bsC_get hg1.out.bls t 0 (by omega) (by omega)]; rfl)
  rw [Nat.add_zero] at hcs
  go_wp2_with fail
  refine (has25 w2 g W H _ l (hm1.out.no o1.out) x y).mono ?_
  rintro e w3 ⟨rfl, m, rfl⟩
  cases hh : hasB W H l x y
  · go_wp2_with fail
    all_goals
      go_ret
      exact ⟨by simp, o1.out.drewN _⟩
  · go_wp2_with fail
    refine (stand27 (w2.drewN m) w.heap.size W H l bs (some ad) c g w.heap.size (w.heap.size + 1) (hg1.out.no (o1.out.drewN _)) (hm1.out.no (o1.out.drewN _)) o1.out.size x y px py (B1.out.drewN _) (B2.out.drewN _)).mono ?_
    rintro e w4 ⟨rfl, o4⟩
    have O4 := Lib.hid ((o1.out.drewN m).trans o4)
    clear o4
    go_wp2_with fail
    go_ret
    exact ⟨by simp, O4.out⟩
end Go.Proofs.Ytnepchdpgbdogaa.Ct
