/- The reference: side, standIn. -/
import Derived.Test.YtnepchdpgbdogaaRn
namespace Go.Proofs.Ytnepchdpgbdogaa.Ct
open Go.ChangeShapes Go.WideShapes Go.RowKit Mm
def sdI (o : Option (Int × Nat)) : Int := match o with | none => 0 | some p => p.1
def sdN (o : Option (Int × Nat)) : Nat := match o with | none => 0 | some p => p.2
set_option maxHeartbeats 1600000 in
theorem side40 (w : World) (W H : Nat) (A F : Option Addr) (n c fc : Nat) (l : List Bool) (bs : List (List Int)) (hl : l.length = n) (hbl : bs.length = n) (hn : n = W * H) (hA : Rds w 64 A n (bsC bs)) (hb : Bls bs) (hF : Rds w 1 F n (boC l)) (hW : W ≤ 8192) (hH : H ≤ 8192) (x y : Int) (px : 0 ≤ x ∧ x < W) (py : 0 ≤ y ∧ y < H) (dx dy : Int) (hD : Dir dx dy) :
    Calls Try.prog 40 #[gridI W H A n c, .slice F n fc, .int .i64 x, .int .i64 y, .int .i64 dx, .int .i64 dy] w fun e w' => e = .returned (.tuple #[.int .i64 (sdI (nb W H l (dcs bs) x y dx dy)), .int .i64 (sdN (nb W H l (dcs bs) x y dx dy))]) ∧ Only No w w' := by
  have hmul : W * H ≤ 8192 * 8192 := Nat.mul_le_mul hW hH
  replace hA := Lib.hid hA
  replace hb := Lib.hid hb
  replace hF := Lib.hid hF
  replace hD := Lib.hid hD
  replace hn := Lib.hid hn
  unfold gridI
  go_enter Try.func40, Try.ntmps40
  go_wp2_with fail
  generalize hw1 : (w.alloc (Obj.cells #[.int .i64 W, .int .i64 H, .slice A n c] 24)) = w1
  have o1 : Hid (Only No w w1) := Lib.hid (by rw [← hw1]; exact (Only.refl No w).alloc _)
  have b1 : Blk w1 w.heap.size 24 #[.int .i64 W, .int .i64 H, .slice A n c] := by rw [← hw1]; exact Blk.new _ _ _
  have c0 := b1.cell 0
  have c1 := b1.cell 1
  have c2 := b1.cell 2
  simp only [List.getElem?_toArray, List.getElem?_cons_zero, List.getElem?_cons_succ] at c0 c1 c2
  replace b1 := Lib.hid b1
  have hA1 := Lib.hid (hA.out.no o1.out)
  have hF1 := Lib.hid (hF.out.no o1.out)
  clear hw1
  go_loopw [14] (fun v14 wr => wr = w1 ∧ ∃ d : Nat, v14 = .int .i64 d ∧ 1 ≤ d ∧ d ≤ 8192 ∧ Hid (nbF W H l (dcs bs) x y dx dy (16384 + 1 - d) d = nb W H l (dcs bs) x y dx dy)) (fun v14 _ => 8192 - (intOf v14).toNat)
  case atStart => exact ⟨rfl, 1, rfl, by omega, by omega, Lib.hid rfl⟩
  case round =>
    obtain ⟨rfl, d, rfl, hd1, hd2, hT⟩ := hrel
    obtain ⟨m1, m2, m3, m4⟩ := dir_mul hD.out d
    obtain ⟨p, hp⟩ : ∃ p, p = (d : Int) * dx := ⟨_, rfl⟩
    obtain ⟨q, hq⟩ : ∃ q, q = (d : Int) * dy := ⟨_, rfl⟩
    obtain ⟨a, ha⟩ : ∃ a, a = x + p := ⟨_, rfl⟩
    obtain ⟨b, hb'⟩ : ∃ b, b = y + q := ⟨_, rfl⟩
    rw [← hp] at m1 m2
    rw [← hq] at m3 m4
    have e1 : IntKind.i64.wrap ((d : Int) * dx) = p := by rw [← hp]; exact IntWalk.i64_in _ (by omega)
    have e2 : IntKind.i64.wrap ((d : Int) * dy) = q := by rw [← hq]; exact IntWalk.i64_in _ (by omega)
    have e3 : IntKind.i64.wrap (x + p) = a := by rw [← ha]; exact IntWalk.i64_in _ (by omega)
    have e4 : IntKind.i64.wrap (y + q) = b := by rw [← hb']; exact IntWalk.i64_in _ (by omega)
    have hab : x + (d : Int) * dx = a ∧ y + (d : Int) * dy = b := by rw [ha, hb', hp, hq]; exact ⟨rfl, rfl⟩
    have hr : -16384 ≤ a ∧ a ≤ 16384 ∧ -16384 ≤ b ∧ b ≤ 16384 := by omega
    replace hab := Lib.hid hab
    clear ha hb' hp hq m1 m2 m3 m4
    cases hi : inB W H a b
    · have hi2 : ¬ (0 ≤ a ∧ a < W ∧ 0 ≤ b ∧ b < H) := by unfold inB at hi; simpa using hi
      have hR : Hid (nb W H l (dcs bs) x y dx dy = none) := Lib.hid (by rw [← hT.out]; exact nbF_out (by rw [hab.out.1, hab.out.2]; exact hi))
      replace hi := Lib.hid hi
      by_cases h1 : a < 0
      · go_wp2_with fail
        go_ret2
        exact ⟨by rw [hR.out]; rfl, o1.out⟩
      · by_cases h2 : (W : Int) ≤ a
        · go_wp2_with fail
          go_ret2
          exact ⟨by rw [hR.out]; rfl, o1.out⟩
        · by_cases h3 : b < 0
          · go_wp2_with fail
            go_ret2
            exact ⟨by rw [hR.out]; rfl, o1.out⟩
          · have h4 : (H : Int) ≤ b := by omega
            go_wp2_with fail
            go_ret2
            exact ⟨by rw [hR.out]; rfl, o1.out⟩
    · obtain ⟨a', b', ha', hb', hAa, hBb⟩ := of_inB hi
      have g0 : ¬ a < 0 := by omega
      have g1' : ¬ (W : Int) ≤ a := by omega
      have g2' : ¬ b < 0 := by omega
      have g3' : ¬ (H : Int) ≤ b := by omega
      have hdlt : d < 8192 := dir_far hW hH hD.out px py (by rw [hab.out.1, hab.out.2]; exact hi)
      obtain ⟨f, hf⟩ : ∃ f, 16384 + 1 - d = f + 1 := ⟨16384 - d, by omega⟩
      have hlt : b' * W + a' < W * H := idx_lt hAa hBb
      obtain ⟨t, ht⟩ : ∃ t : Nat, t = b' * W + a' := ⟨_, rfl⟩
      have htn : t < n := by rw [hn.out, ht]; exact hlt
      have htn' : (t : Int) < n := by omega
      have e5 : ∃ s, IntKind.i64.wrap (b * (W : Int)) = s ∧ IntKind.i64.wrap (s + a) = (t : Int) := by
        subst ha' hb'
        refine ⟨((b' * W : Nat) : Int), ?_, ?_⟩
        · rw [IntWalk.i64_in _ (by push_cast at hlt hmul ⊢; have : ((b' * W : Nat) : Int) ≤ 67108864 := by omega
                                   push_cast at this; omega)]; push_cast; rfl
        · rw [IntWalk.i64_in _ (by omega)]; rw [ht]; push_cast; rfl
      obtain ⟨s, e5, e6⟩ := e5
      have e8 : ((b * (W : Int)) + a).toNat = t := by
        subst ha' hb'
        rw [show ((b' : Int) * (W : Int) + (a' : Int)) = ((b' * W + a' : Nat) : Int) by push_cast; rfl, ht]; exact Int.toNat_natCast _
      obtain ⟨adf, rfl, hcf⟩ := hF1.out.at_ (i := t) (u := .bool (l.getD t false)) (by omega) (by simp [boC, show t < l.length by omega])
      obtain ⟨adg, rfl, hcg⟩ := hA1.out.at_ (i := t * 64 + 0) (u := .int .i16 (dcs bs t)) (by omega) (by rw [bsC_get hb.out t 0 (by omega) (by omega)]; rfl)
      rw [Nat.add_zero] at hcg
      have hdb := dcs_bounds hb.out t
      have e9 : IntKind.i64.wrap (dcs bs t) = dcs bs t := IntWalk.i64_in _ (by omega)
      have hhas : Hid (hasB W H l a b = l.getD t false) := Lib.hid (by
        unfold hasB
        rw [hi, e8, Bool.true_and])
      replace ht := Lib.hid ht
      replace e8 := Lib.hid e8
      replace hf := Lib.hid hf
      replace hi := Lib.hid hi
      clear hlt ha' hb' hAa hBb
      cases hh : l.getD t false
      · have hR : Hid (nb W H l (dcs bs) x y dx dy = some (dcs bs t, d)) := Lib.hid (by
          rw [← hT.out, hf.out, nbF_not (by rw [hab.out.1, hab.out.2]; exact hi.out) (by rw [hab.out.1, hab.out.2, hhas.out]; exact hh), hab.out.1, hab.out.2, e8.out])
        rw [hh] at hcf
        go_wp2_with fail
        go_ret2
        exact ⟨by rw [hR.out]; rfl, o1.out⟩
      · have hR : Hid (nbF W H l (dcs bs) x y dx dy (16384 + 1 - (d + 1)) (d + 1) = nb W H l (dcs bs) x y dx dy) := Lib.hid (by
          rw [← hT.out, hf.out, nbF_has (by rw [hab.out.1, hab.out.2]; exact hi.out) (by rw [hab.out.1, hab.out.2, hhas.out]; exact hh), show 16384 + 1 - (d + 1) = f by have := hf.out; omega])
        rw [hh] at hcf
        go_wp2_with fail
        go_roundw
        case rel => exact ⟨by first | rfl | trivial, d + 1, by go_num, by omega, by omega, hR⟩
        case measure => simp [intOf]; omega
/-! ### the sums over four sides -/
def v4 (o1 o2 o3 o4 : Option (Int × Nat)) : Nat → Int | 0 => sdI o1 | 1 => sdI o2 | 2 => sdI o3 | _ => sdI o4
def d4 (o1 o2 o3 o4 : Option (Int × Nat)) : Nat → Nat | 0 => sdN o1 | 1 => sdN o2 | 2 => sdN o3 | _ => sdN o4
def rW (d : Nat → Nat) (i : Nat) : Nat → Nat | 0 => 1 | k + 1 => if k ≠ i ∧ 0 < d k then rW d i k * d k else rW d i k
def rA (v : Nat → Int) (d : Nat → Nat) : Nat → Int | 0 => 0 | i + 1 => if 0 < d i then rA v d i + v i * (rW d i 4 : Nat) else rA v d i
def rS (d : Nat → Nat) : Nat → Nat | 0 => 0 | i + 1 => if 0 < d i then rS d i + rW d i 4 else rS d i
def Dp (o : Option (Int × Nat)) : Prop := ∀ p, o = some p → 0 < p.2
theorem sums4 {o1 o2 o3 o4 : Option (Int × Nat)} (h1 : Dp o1) (h2 : Dp o2) (h3 : Dp o3) (h4 : Dp o4) :
    rA (v4 o1 o2 o3 o4) (d4 o1 o2 o3 o4) 4 = sumA (o1.toList ++ o2.toList ++ o3.toList ++ o4.toList) (o1.toList ++ o2.toList ++ o3.toList ++ o4.toList).length ∧
    rS (d4 o1 o2 o3 o4) 4 = sumW (o1.toList ++ o2.toList ++ o3.toList ++ o4.toList) (o1.toList ++ o2.toList ++ o3.toList ++ o4.toList).length := by
  rcases o1 with _ | ⟨a1, a2⟩ <;> rcases o2 with _ | ⟨b1, b2⟩ <;> rcases o3 with _ | ⟨c1, c2⟩ <;> rcases o4 with _ | ⟨e1, e2⟩ <;>
    (try have k1 := h1 _ rfl) <;> (try have k2 := h2 _ rfl) <;> (try have k3 := h3 _ rfl) <;> (try have k4 := h4 _ rfl) <;>
    simp_all [rA, rS, rW, v4, d4, sdI, sdN, sumA, sumW, wP, farI, dcI]
end Go.Proofs.Ytnepchdpgbdogaa.Ct
