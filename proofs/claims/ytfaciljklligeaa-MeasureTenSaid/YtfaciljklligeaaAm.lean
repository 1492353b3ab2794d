/- How much two images are alike, and the errors. -/
import Derived.Test.YtfaciljklligeaaAl
namespace Go.Proofs.Ytfaciljklligeaa.Ct
open Go.ChangeShapes Go.WideShapes Go.RowKit Mm
theorem dims_of {W H C : Int} {n : Nat} (h : mayP W H C n) : ∃ a b c : Nat, W = a ∧ H = b ∧ C = c ∧ Dims a b c n := by
  obtain ⟨⟨h1, h2⟩, ⟨h3, h4⟩, ⟨h5, h6⟩, h7⟩ := h
  obtain ⟨a, rfl⟩ : ∃ a : Nat, W = a := ⟨W.toNat, by omega⟩
  obtain ⟨b, rfl⟩ : ∃ a : Nat, H = a := ⟨H.toNat, by omega⟩
  obtain ⟨c, rfl⟩ : ∃ a : Nat, C = a := ⟨C.toNat, by omega⟩
  exact ⟨a, b, c, rfl, rfl, rfl, by omega, by omega, by omega, by omega, by omega, by omega, by exact_mod_cast h7⟩
set_option maxHeartbeats 1600000 in
theorem alike23 (w : World) (W H C : Int) (A : Option Addr) (c : Nat) (l : List Nat) (W2 H2 C2 : Int) (A2 : Option Addr) (c2 : Nat) (l2 : List Nat) (hr : Rds w 1 A l.length (byC l)) (hr2 : Rds w 1 A2 l2.length (byC l2)) (hb : Byts l) (hb2 : Byts l2) :
    Calls Try.prog 23 #[imgV W H C A l.length c, imgV W2 H2 C2 A2 l2.length c2] w (AlikePost w W H C l W2 H2 C2 l2) := by
  by_cases h0 : pairE W H C l.length W2 H2 C2 l2.length = 0
  · obtain ⟨rfl, rfl, rfl, hn, hm, _, _⟩ := pairE_zero h0
    obtain ⟨a, b, k, rfl, rfl, rfl, hD⟩ := dims_of hm
    unfold AlikePost
    rw [h0]
    exact alike23_ok w a b k A c l A2 c2 l2 hD hn h0 hr hr2 hb hb2
  · have hp := fun w => pair38 w W H C A l.length c W2 H2 C2 A2 l2.length c2
    unfold PairPost at hp
    have hpost : Hid (AlikePost w W H C l W2 H2 C2 l2 = fun e w' => ∃ r, FEq r 0 ∧ e = .returned (.tuple #[.float .f64 r, .int .i64 (pairE W H C l.length W2 H2 C2 l2.length)]) ∧ Only No w w') := by
      unfold Hid AlikePost; rw [if_neg h0]
    rw [hpost.out]
    have d : (pairE W H C l.length W2 H2 C2 l2.length != 0) = true := by simpa using h0
    generalize pairE W H C l.length W2 H2 C2 l2.length = r at *
    replace h0 := Lib.hid h0
    clear hr hr2 hpost
    unfold imgV imgA at *
    go_enter Try.func23, Try.ntmps23
    go_wp2_with fail
    obtain ⟨b1, b2, o2⟩ := boxes w #[.int .i64 W, .int .i64 H, .int .i64 C, .slice A l.length c] #[.int .i64 W2, .int .i64 H2, .int .i64 C2, .slice A2 l2.length c2]
    generalize ((w.alloc (Obj.cells #[.int .i64 W, .int .i64 H, .int .i64 C, .slice A l.length c] 32)).alloc (Obj.cells #[.int .i64 W2, .int .i64 H2, .int .i64 C2, .slice A2 l2.length c2] 32)) = w2 at *
    refine (hp w2).mono ?_
    rintro e w3 ⟨rfl, o3⟩
    have O3 := Lib.hid (o2.trans o3)
    clear b1 b2 o2 o3 hp
    go_wp2_with fail
    go_ret2
    exact ⟨0, .refl _, rfl, O3.out⟩
set_option maxHeartbeats 1600000 in
theorem ralike24 (w : World) (W H C : Int) (A : Option Addr) (c : Nat) (l : List Nat) (W2 H2 C2 : Int) (A2 : Option Addr) (c2 : Nat) (l2 : List Nat) (hr : Rds w 1 A l.length (byC l)) (hr2 : Rds w 1 A2 l2.length (byC l2)) (hb : Byts l) (hb2 : Byts l2) :
    Calls Try.prog 24 #[imgV W H C A l.length c, imgV W2 H2 C2 A2 l2.length c2] w (AlikePost w W H C l W2 H2 C2 l2) := by
  by_cases h0 : pairE W H C l.length W2 H2 C2 l2.length = 0
  · obtain ⟨rfl, rfl, rfl, hn, hm, _, _⟩ := pairE_zero h0
    obtain ⟨a, b, k, rfl, rfl, rfl, hD⟩ := dims_of hm
    unfold AlikePost
    rw [h0]
    exact ralike24_ok w a b k A c l A2 c2 l2 hD hn h0 hr hr2 hb hb2
  · have hp := fun w => rpair39 w W H C A l.length c W2 H2 C2 A2 l2.length c2
    unfold PairPost at hp
    have hpost : Hid (AlikePost w W H C l W2 H2 C2 l2 = fun e w' => ∃ r, FEq r 0 ∧ e = .returned (.tuple #[.float .f64 r, .int .i64 (pairE W H C l.length W2 H2 C2 l2.length)]) ∧ Only No w w') := by
      unfold Hid AlikePost; rw [if_neg h0]
    rw [hpost.out]
    have d : (pairE W H C l.length W2 H2 C2 l2.length != 0) = true := by simpa using h0
    generalize pairE W H C l.length W2 H2 C2 l2.length = r at *
    replace h0 := Lib.hid h0
    clear hr hr2 hpost
    unfold imgV imgA at *
    go_enter Try.func24, Try.ntmps24
    go_wp2_with fail
    obtain ⟨b1, b2, o2⟩ := boxes w #[.int .i64 W, .int .i64 H, .int .i64 C, .slice A l.length c] #[.int .i64 W2, .int .i64 H2, .int .i64 C2, .slice A2 l2.length c2]
    generalize ((w.alloc (Obj.cells #[.int .i64 W, .int .i64 H, .int .i64 C, .slice A l.length c] 32)).alloc (Obj.cells #[.int .i64 W2, .int .i64 H2, .int .i64 C2, .slice A2 l2.length c2] 32)) = w2 at *
    refine (hp w2).mono ?_
    rintro e w3 ⟨rfl, o3⟩
    have O3 := Lib.hid (o2.trans o3)
    clear b1 b2 o2 o3 hp
    go_wp2_with fail
    go_ret2
    exact ⟨0, .refl _, rfl, O3.out⟩
end Go.Proofs.Ytfaciljklligeaa.Ct
