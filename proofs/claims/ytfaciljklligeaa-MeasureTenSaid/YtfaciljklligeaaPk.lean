/- The peak of two images. -/
import Derived.Test.YtfaciljklligeaaAp
namespace Go.Proofs.Ytfaciljklligeaa.Ct
open Go.ChangeShapes Go.WideShapes Go.RowKit Mm
section
variable (w : World) (W H C : Int) (A : Option Addr) (c : Nat) (l : List Nat) (W2 H2 C2 : Int) (A2 : Option Addr) (c2 : Nat) (l2 : List Nat)
def PeakPost (e : Ending) (w' : World) : Prop :=
  e = .returned (.tuple #[.int .i64 (if pairE W H C l.length W2 H2 C2 l2.length = 0 then pkK l l2 l.length else 0), .int .i64 (pairE W H C l.length W2 H2 C2 l2.length)]) ∧ Only No w w'
set_option maxHeartbeats 1600000 in
theorem peak21 (hr : Rds w 1 A l.length (byC l)) (hr2 : Rds w 1 A2 l2.length (byC l2)) (hb : Byts l) (hb2 : Byts l2) :
    Calls Try.prog 21 #[imgV W H C A l.length c, imgV W2 H2 C2 A2 l2.length c2] w (PeakPost w W H C l W2 H2 C2 l2) := by
  have hp := fun w => pair38 w W H C A l.length c W2 H2 C2 A2 l2.length c2
  unfold PairPost at hp
  by_cases h0 : pairE W H C l.length W2 H2 C2 l2.length = 0
  · have hpost : Hid (PeakPost w W H C l W2 H2 C2 l2 = fun e w' => e = .returned (.tuple #[.int .i64 (pkK l l2 l.length), .int .i64 0]) ∧ Only No w w') := by
      unfold Hid PeakPost; rw [h0]; rfl
    rw [hpost.out]
    rw [h0] at hp
    obtain ⟨rfl, rfl, rfl, hn, _, hpos, hle⟩ := pairE_zero h0
    obtain ⟨ad, rfl, hlt1, hc⟩ := hr.2 hpos
    obtain ⟨ad2, rfl, hlt2, hc2⟩ := hr2.2 (by omega)
    replace hn := Lib.hid hn
    replace h0 := Lib.hid h0
    have HR := Lib.hid hr
    have HR2 := Lib.hid hr2
    clear hr hr2 hc hc2
    unfold imgV imgA at *
    go_enter Try.func21, Try.ntmps21
    go_wp2_with fail
    obtain ⟨b1, b2, o2⟩ := boxes w #[.int .i64 W, .int .i64 H, .int .i64 C, .slice (some ad) l.length c] #[.int .i64 W, .int .i64 H, .int .i64 C, .slice (some ad2) l2.length c2]
    generalize ((w.alloc (Obj.cells #[.int .i64 W, .int .i64 H, .int .i64 C, .slice (some ad) l.length c] 32)).alloc (Obj.cells #[.int .i64 W, .int .i64 H, .int .i64 C, .slice (some ad2) l2.length c2] 32)) = w2 at *
    refine (hp w2).mono ?_
    rintro e w3 ⟨rfl, o3⟩
    obtain ⟨_, _, _, k3⟩ := cells4 (b2.only o3 id)
    obtain ⟨_, _, _, j3⟩ := cells4 (b1.only o3 id)
    have O3 := Lib.hid (o2.trans o3)
    clear b1 b2 o2 o3 hp
    go_wp2_with fail
    go_loop [7, 20] (fun s i => ∃ k : Nat, k ≤ l.length ∧ i = .int .i64 k ∧ s = .int .i64 (pkK l l2 k)) (fun _ i => l.length - (intOf i).toNat)
    case atStart => exact ⟨0, Nat.zero_le _, rfl, rfl⟩
    case round =>
      obtain ⟨k, hk, rfl, rfl⟩ := hrel
      have sb := pkK_le hb hb2 k
      have s0 := sb.1
      have s1 := sb.2
      by_cases hlt : k < l.length
      · have hlt2 : k < l2.length := by have := hn.out; omega
        obtain ⟨ad', e', q1⟩ := (HR.out.no O3.out).at_ hpos (byC_get hlt)
        obtain rfl : ad = ad' := by simpa using e'
        obtain ⟨ad', e', q2⟩ := (HR2.out.no O3.out).at_ (by omega) (byC_get hlt2)
        obtain rfl : ad2 = ad' := by simpa using e'
        have hx := hb.at_ k
        have hy := hb2.at_ k
        have hs : Hid (pkK l l2 (k + 1) = max (pkK l l2 k) (max ((l.getD k 0 : Nat) - (l2.getD k 0 : Nat) : Int) (-((l.getD k 0 : Nat) - (l2.getD k 0 : Nat) : Int)))) := rfl
        generalize l.getD k 0 = x at *
        generalize l2.getD k 0 = y at *
        go_wp2
        go_round
        case rel => exact ⟨k + 1, by omega, by go_num, by rw [hs.out]; exact congrArg _ (by omega)⟩
        case measure => simp [intOf]; omega
      · obtain rfl : k = l.length := by omega
        go_wp2
        go_ret2
        exact ⟨rfl, O3.out⟩
  · have hpost : Hid (PeakPost w W H C l W2 H2 C2 l2 = fun e w' => e = .returned (.tuple #[.int .i64 0, .int .i64 (pairE W H C l.length W2 H2 C2 l2.length)]) ∧ Only No w w') := by
      unfold Hid PeakPost; rw [if_neg h0]
    rw [hpost.out]
    have d : (pairE W H C l.length W2 H2 C2 l2.length != 0) = true := by simpa using h0
    generalize pairE W H C l.length W2 H2 C2 l2.length = r at *
    replace h0 := Lib.hid h0
    clear hr hr2 hpost
    unfold imgV imgA at *
    go_enter Try.func21, Try.ntmps21
    go_wp2_with fail
    obtain ⟨b1, b2, o2⟩ := boxes w #[.int .i64 W, .int .i64 H, .int .i64 C, .slice A l.length c] #[.int .i64 W2, .int .i64 H2, .int .i64 C2, .slice A2 l2.length c2]
    generalize ((w.alloc (Obj.cells #[.int .i64 W, .int .i64 H, .int .i64 C, .slice A l.length c] 32)).alloc (Obj.cells #[.int .i64 W2, .int .i64 H2, .int .i64 C2, .slice A2 l2.length c2] 32)) = w2 at *
    refine (hp w2).mono ?_
    rintro e w3 ⟨rfl, o3⟩
    have O3 := Lib.hid (o2.trans o3)
    clear b1 b2 o2 o3 hp
    go_wp2_with fail
    go_ret2
    exact ⟨rfl, O3.out⟩
set_option maxHeartbeats 1600000 in
theorem rpeak22 (hr : Rds w 1 A l.length (byC l)) (hr2 : Rds w 1 A2 l2.length (byC l2)) (hb : Byts l) (hb2 : Byts l2) :
    Calls Try.prog 22 #[imgV W H C A l.length c, imgV W2 H2 C2 A2 l2.length c2] w (PeakPost w W H C l W2 H2 C2 l2) := by
  have hp := fun w => rpair39 w W H C A l.length c W2 H2 C2 A2 l2.length c2
  unfold PairPost at hp
  by_cases h0 : pairE W H C l.length W2 H2 C2 l2.length = 0
  · have hpost : Hid (PeakPost w W H C l W2 H2 C2 l2 = fun e w' => e = .returned (.tuple #[.int .i64 (pkK l l2 l.length), .int .i64 0]) ∧ Only No w w') := by
      unfold Hid PeakPost; rw [h0]; rfl
    rw [hpost.out]
    rw [h0] at hp
    obtain ⟨rfl, rfl, rfl, hn, _, hpos, hle⟩ := pairE_zero h0
    obtain ⟨ad, rfl, hlt1, hc⟩ := hr.2 hpos
    obtain ⟨ad2, rfl, hlt2, hc2⟩ := hr2.2 (by omega)
    replace hn := Lib.hid hn
    replace h0 := Lib.hid h0
    have HR := Lib.hid hr
    have HR2 := Lib.hid hr2
    clear hr hr2 hc hc2
    unfold imgV imgA at *
    go_enter Try.func22, Try.ntmps22
    go_wp2_with fail
    obtain ⟨b1, b2, o2⟩ := boxes w #[.int .i64 W, .int .i64 H, .int .i64 C, .slice (some ad) l.length c] #[.int .i64 W, .int .i64 H, .int .i64 C, .slice (some ad2) l2.length c2]
    generalize ((w.alloc (Obj.cells #[.int .i64 W, .int .i64 H, .int .i64 C, .slice (some ad) l.length c] 32)).alloc (Obj.cells #[.int .i64 W, .int .i64 H, .int .i64 C, .slice (some ad2) l2.length c2] 32)) = w2 at *
    refine (hp w2).mono ?_
    rintro e w3 ⟨rfl, o3⟩
    obtain ⟨_, _, _, k3⟩ := cells4 (b2.only o3 id)
    obtain ⟨_, _, _, j3⟩ := cells4 (b1.only o3 id)
    have O3 := Lib.hid (o2.trans o3)
    clear b1 b2 o2 o3 hp
    go_wp2_with fail
    go_loopw [7, 8] (fun s i wr => ∃ k d : Nat, k ≤ l.length ∧ i = .int .i64 k ∧ s = .int .i64 (pkK l l2 k) ∧ wr = w3.drewN d) (fun _ i _ => l.length - (intOf i).toNat)
    case atStart => exact ⟨0, 0, Nat.zero_le _, rfl, rfl, rfl⟩
    case round =>
      obtain ⟨k, d, hk, rfl, rfl, rfl⟩ := hrel
      have sb := pkK_le hb hb2 k
      have s0 := sb.1
      have s1 := sb.2
      by_cases hlt : k < l.length
      · have hlt2 : k < l2.length := by have := hn.out; omega
        obtain ⟨ad', e', q1⟩ := (HR.out.no O3.out).at_ hpos (byC_get hlt)
        obtain rfl : ad = ad' := by simpa using e'
        obtain ⟨ad', e', q2⟩ := (HR2.out.no O3.out).at_ (by omega) (byC_get hlt2)
        obtain rfl : ad2 = ad' := by simpa using e'
        have hx := hb.at_ k
        have hy := hb2.at_ k
        have hs : Hid (pkK l l2 (k + 1) = max (pkK l l2 k) (max ((l.getD k 0 : Nat) - (l2.getD k 0 : Nat) : Int) (-((l.getD k 0 : Nat) - (l2.getD k 0 : Nat) : Int)))) := rfl
        generalize l.getD k 0 = x at *
        generalize l2.getD k 0 = y at *
        have e1 : IntKind.i64.wrap ((x : Int) - (y : Int)) = (x : Int) - (y : Int) := IntWalk.i64_in _ (by omega)
        have i1 : (k : Int) < (l.length : Int) := by omega
        have i2 : (k : Int) < (l2.length : Int) := by omega
        have i3 : (0 : Int) ≤ (k : Int) := by omega
        go_wp2_with fail
        go_quiet (fail)
        go_wp2
        all_goals
          go_roundw
          case rel => exact ⟨k + 1, _, by omega, by go_num, by rw [hs.out]; exact congrArg _ (by omega), by first | rfl | (rw [World.drewN_drewN])⟩
          case measure => simp [intOf]; omega
      · obtain rfl : k = l.length := by omega
        go_wp2
        go_ret2
        exact ⟨rfl, O3.out.drewN _⟩
  · have hpost : Hid (PeakPost w W H C l W2 H2 C2 l2 = fun e w' => e = .returned (.tuple #[.int .i64 0, .int .i64 (pairE W H C l.length W2 H2 C2 l2.length)]) ∧ Only No w w') := by
      unfold Hid PeakPost; rw [if_neg h0]
    rw [hpost.out]
    have d : (pairE W H C l.length W2 H2 C2 l2.length != 0) = true := by simpa using h0
    generalize pairE W H C l.length W2 H2 C2 l2.length = r at *
    replace h0 := Lib.hid h0
    clear hr hr2 hpost
    unfold imgV imgA at *
    go_enter Try.func22, Try.ntmps22
    go_wp2_with fail
    obtain ⟨b1, b2, o2⟩ := boxes w #[.int .i64 W, .int .i64 H, .int .i64 C, .slice A l.length c] #[.int .i64 W2, .int .i64 H2, .int .i64 C2, .slice A2 l2.length c2]
    generalize ((w.alloc (Obj.cells #[.int .i64 W, .int .i64 H, .int .i64 C, .slice A l.length c] 32)).alloc (Obj.cells #[.int .i64 W2, .int .i64 H2, .int .i64 C2, .slice A2 l2.length c2] 32)) = w2 at *
    refine (hp w2).mono ?_
    rintro e w3 ⟨rfl, o3⟩
    have O3 := Lib.hid (o2.trans o3)
    clear b1 b2 o2 o3 hp
    go_wp2_with fail
    go_ret2
    exact ⟨rfl, O3.out⟩
end
end Go.Proofs.Ytfaciljklligeaa.Ct
