/- Images: may two be held against each other? -/
import Derived.Test.YtfaciljklligeaaIm
namespace Go.Proofs.Ytfaciljklligeaa.Ct
open Go.ChangeShapes Go.WideShapes Go.RowKit Mm
theorem blk_new1 (w : World) (o : Obj) (t : TypeId) (cs : Array Value) : Blk ((w.alloc o).alloc (.cells cs t)) (w.heap.size + 1) t cs := by
  have := Blk.new (w.alloc o) t cs
  simpa using this
theorem boxes (w : World) (ca cb : Array Value) : Blk ((w.alloc (.cells ca 32)).alloc (.cells cb 32)) w.heap.size 32 ca ∧ Blk ((w.alloc (.cells ca 32)).alloc (.cells cb 32)) (w.heap.size + 1) 32 cb ∧ Only No w ((w.alloc (.cells ca 32)).alloc (.cells cb 32)) :=
  ⟨(Blk.new w 32 ca).alloc _, blk_new1 w _ 32 cb, ((Only.refl No w).alloc _).alloc _⟩
def pairE (W H C : Int) (n : Nat) (W2 H2 C2 : Int) (n2 : Nat) : Int := if mayB W H C n && mayB W2 H2 C2 n2 then (if W = W2 ∧ H = H2 ∧ C = C2 then 0 else 300) else 251
section
variable (w : World) (W H C : Int) (A : Option Addr) (n c : Nat) (W2 H2 C2 : Int) (A2 : Option Addr) (n2 c2 : Nat)
def PairPost (e : Ending) (w' : World) : Prop := e = .returned (.int .i64 (pairE W H C n W2 H2 C2 n2)) ∧ Only No w w'
set_option maxHeartbeats 800000 in
theorem pair38 : Calls Try.prog 38 #[imgV W H C A n c, imgV W2 H2 C2 A2 n2 c2] w (PairPost w W H C n W2 H2 C2 n2) := by
  have hd : Hid (pairE W H C n W2 H2 C2 n2 = if mayB W H C n && mayB W2 H2 C2 n2 then (if W = W2 ∧ H = H2 ∧ C = C2 then 0 else 300) else 251) := rfl
  have m1 := fun w => may53 w W H C A n c
  have m2 := fun w => may53 w W2 H2 C2 A2 n2 c2
  cases h1 : mayB W H C n
  · rw [h1] at m1
    have hp : Hid (pairE W H C n W2 H2 C2 n2 = 251) := by rw [hd.out]; unfold Hid; simp [h1]
    clear h1
    unfold imgV imgA at *
    go_enter Try.func38, Try.ntmps38
    go_wp2_with fail
    obtain ⟨b1, b2, o2⟩ := boxes w #[.int .i64 W, .int .i64 H, .int .i64 C, .slice A n c] #[.int .i64 W2, .int .i64 H2, .int .i64 C2, .slice A2 n2 c2]
    generalize ((w.alloc (Obj.cells #[.int .i64 W, .int .i64 H, .int .i64 C, .slice A n c] 32)).alloc (Obj.cells #[.int .i64 W2, .int .i64 H2, .int .i64 C2, .slice A2 n2 c2] 32)) = w2 at *
    refine (m1 w2).mono ?_
    rintro e w3 ⟨rfl, o3⟩
    have O3 := Lib.hid (o2.trans o3)
    clear b1 b2 o2 o3
    go_wp2_with fail
    go_ret
    exact ⟨by rw [hp.out]; rfl, O3.out⟩
  · cases h2 : mayB W2 H2 C2 n2
    · rw [h1] at m1
      rw [h2] at m2
      have hp : Hid (pairE W H C n W2 H2 C2 n2 = 251) := by rw [hd.out]; unfold Hid; simp [h1, h2]
      clear h1 h2
      unfold imgV imgA at *
      go_enter Try.func38, Try.ntmps38
      go_wp2_with fail
      obtain ⟨b1, b2, o2⟩ := boxes w #[.int .i64 W, .int .i64 H, .int .i64 C, .slice A n c] #[.int .i64 W2, .int .i64 H2, .int .i64 C2, .slice A2 n2 c2]
      generalize ((w.alloc (Obj.cells #[.int .i64 W, .int .i64 H, .int .i64 C, .slice A n c] 32)).alloc (Obj.cells #[.int .i64 W2, .int .i64 H2, .int .i64 C2, .slice A2 n2 c2] 32)) = w2 at *
      refine (m1 w2).mono ?_
      rintro e w3 ⟨rfl, o3⟩
      have O3 := Lib.hid (o2.trans o3)
      obtain ⟨k0, k1, k2, k3⟩ := cells4 (b2.only o3 id)
      clear b1 b2 o2 o3
      go_wp2_with fail
      refine (m2 w3).mono ?_
      rintro e w4 ⟨rfl, o4⟩
      replace O3 := Lib.hid (O3.out.trans o4)
      clear o4
      go_wp2_with fail
      go_ret
      exact ⟨by rw [hp.out]; rfl, O3.out⟩
    · rw [h1] at m1
      rw [h2] at m2
      have hp : Hid (pairE W H C n W2 H2 C2 n2 = if W = W2 ∧ H = H2 ∧ C = C2 then 0 else 300) := by rw [hd.out]; unfold Hid; simp [h1, h2]
      clear h1 h2
      unfold imgV imgA at *
      go_enter Try.func38, Try.ntmps38
      go_wp2_with fail
      obtain ⟨b1, b2, o2⟩ := boxes w #[.int .i64 W, .int .i64 H, .int .i64 C, .slice A n c] #[.int .i64 W2, .int .i64 H2, .int .i64 C2, .slice A2 n2 c2]
      generalize ((w.alloc (Obj.cells #[.int .i64 W, .int .i64 H, .int .i64 C, .slice A n c] 32)).alloc (Obj.cells #[.int .i64 W2, .int .i64 H2, .int .i64 C2, .slice A2 n2 c2] 32)) = w2 at *
      refine (m1 w2).mono ?_
      rintro e w3 ⟨rfl, o3⟩
      have O3 := Lib.hid (o2.trans o3)
      have B1 := Lib.hid (b1.only o3 id)
      have B2 := Lib.hid (b2.only o3 id)
      obtain ⟨k0, k1, k2, k3⟩ := cells4 B2.out
      clear b1 b2 o2 o3
      go_wp2_with fail
      refine (m2 w3).mono ?_
      rintro e w4 ⟨rfl, o4⟩
      clear k0 k1 k2 k3
      obtain ⟨k0, k1, k2, k3⟩ := cells4 (B2.out.only o4 id)
      obtain ⟨j0, j1, j2, j3⟩ := cells4 (B1.out.only o4 id)
      replace O3 := Lib.hid (O3.out.trans o4)
      clear o4 B1 B2
      by_cases hW : W = W2
      · subst hW
        by_cases hH : H = H2
        · subst hH
          by_cases hC : C = C2
          · subst hC
            go_wp2_with fail
            go_ret
            exact ⟨by rw [hp.out, if_pos (by simp)]; rfl, O3.out⟩
          · have d : (C != C2) = true := by simpa using hC
            replace hC := Lib.hid hC
            go_wp2_with fail
            go_ret
            exact ⟨by rw [hp.out, if_neg (fun h => hC.out h.2.2)]; rfl, O3.out⟩
        · have d : (H != H2) = true := by simpa using hH
          replace hH := Lib.hid hH
          go_wp2_with fail
          go_ret
          exact ⟨by rw [hp.out, if_neg (fun h => hH.out h.2.1)]; rfl, O3.out⟩
      · have d : (W != W2) = true := by simpa using hW
        replace hW := Lib.hid hW
        go_wp2_with fail
        go_ret
        exact ⟨by rw [hp.out, if_neg (fun h => hW.out h.1)]; rfl, O3.out⟩
set_option maxHeartbeats 800000 in
theorem rpair39 : Calls Try.prog 39 #[imgV W H C A n c, imgV W2 H2 C2 A2 n2 c2] w (PairPost w W H C n W2 H2 C2 n2) := by
  have hd : Hid (pairE W H C n W2 H2 C2 n2 = if mayB W H C n && mayB W2 H2 C2 n2 then (if W = W2 ∧ H = H2 ∧ C = C2 then 0 else 300) else 251) := rfl
  have m1 := fun w => rmay54 w W H C A n c
  have m2 := fun w => rmay54 w W2 H2 C2 A2 n2 c2
  cases h1 : mayB W H C n
  · cases h2 : mayB W2 H2 C2 n2
    · rw [h1] at m1
      rw [h2] at m2
      have hp : Hid (pairE W H C n W2 H2 C2 n2 = 251) := by rw [hd.out]; unfold Hid; simp [h1, h2]
      clear h1 h2
      unfold imgV imgA at *
      go_enter Try.func39, Try.ntmps39
      go_wp2_with fail
      obtain ⟨b1, b2, o2⟩ := boxes w #[.int .i64 W, .int .i64 H, .int .i64 C, .slice A n c] #[.int .i64 W2, .int .i64 H2, .int .i64 C2, .slice A2 n2 c2]
      generalize ((w.alloc (Obj.cells #[.int .i64 W, .int .i64 H, .int .i64 C, .slice A n c] 32)).alloc (Obj.cells #[.int .i64 W2, .int .i64 H2, .int .i64 C2, .slice A2 n2 c2] 32)) = w2 at *
      refine (m1 w2).mono ?_
      rintro e w3 ⟨rfl, o3⟩
      have O3 := Lib.hid (o2.trans o3)
      have B1 := Lib.hid (b1.only o3 id)
      have B2 := Lib.hid (b2.only o3 id)
      obtain ⟨k0, k1, k2, k3⟩ := cells4 B2.out
      clear b1 b2 o2 o3
      go_wp2_with fail
      refine (m2 w3).mono ?_
      rintro e w4 ⟨rfl, o4⟩
      clear k0 k1 k2 k3
      obtain ⟨k0, k1, k2, k3⟩ := cells4 (B2.out.only o4 id)
      obtain ⟨j0, j1, j2, j3⟩ := cells4 (B1.out.only o4 id)
      replace O3 := Lib.hid (O3.out.trans o4)
      clear o4 B1 B2
      go_wp2_with fail
      go_ret
      exact ⟨by rw [hp.out]; rfl, O3.out⟩
    · rw [h1] at m1
      rw [h2] at m2
      have hp : Hid (pairE W H C n W2 H2 C2 n2 = 251) := by rw [hd.out]; unfold Hid; simp [h1, h2]
      clear h1 h2
      unfold imgV imgA at *
      go_enter Try.func39, Try.ntmps39
      go_wp2_with fail
      obtain ⟨b1, b2, o2⟩ := boxes w #[.int .i64 W, .int .i64 H, .int .i64 C, .slice A n c] #[.int .i64 W2, .int .i64 H2, .int .i64 C2, .slice A2 n2 c2]
      generalize ((w.alloc (Obj.cells #[.int .i64 W, .int .i64 H, .int .i64 C, .slice A n c] 32)).alloc (Obj.cells #[.int .i64 W2, .int .i64 H2, .int .i64 C2, .slice A2 n2 c2] 32)) = w2 at *
      refine (m1 w2).mono ?_
      rintro e w3 ⟨rfl, o3⟩
      have O3 := Lib.hid (o2.trans o3)
      have B1 := Lib.hid (b1.only o3 id)
      have B2 := Lib.hid (b2.only o3 id)
      obtain ⟨k0, k1, k2, k3⟩ := cells4 B2.out
      clear b1 b2 o2 o3
      go_wp2_with fail
      refine (m2 w3).mono ?_
      rintro e w4 ⟨rfl, o4⟩
      clear k0 k1 k2 k3
      obtain ⟨k0, k1, k2, k3⟩ := cells4 (B2.out.only o4 id)
      obtain ⟨j0, j1, j2, j3⟩ := cells4 (B1.out.only o4 id)
      replace O3 := Lib.hid (O3.out.trans o4)
      clear o4 B1 B2
      go_wp2_with fail
      go_ret
      exact ⟨by rw [hp.out]; rfl, O3.out⟩
  · cases h2 : mayB W2 H2 C2 n2
    · rw [h1] at m1
      rw [h2] at m2
      have hp : Hid (pairE W H C n W2 H2 C2 n2 = 251) := by rw [hd.out]; unfold Hid; simp [h1, h2]
      clear h1 h2
      unfold imgV imgA at *
      go_enter Try.func39, Try.ntmps39
      go_wp2_with fail
      obtain ⟨b1, b2, o2⟩ := boxes w #[.int .i64 W, .int .i64 H, .int .i64 C, .slice A n c] #[.int .i64 W2, .int .i64 H2, .int .i64 C2, .slice A2 n2 c2]
      generalize ((w.alloc (Obj.cells #[.int .i64 W, .int .i64 H, .int .i64 C, .slice A n c] 32)).alloc (Obj.cells #[.int .i64 W2, .int .i64 H2, .int .i64 C2, .slice A2 n2 c2] 32)) = w2 at *
      refine (m1 w2).mono ?_
      rintro e w3 ⟨rfl, o3⟩
      have O3 := Lib.hid (o2.trans o3)
      have B1 := Lib.hid (b1.only o3 id)
      have B2 := Lib.hid (b2.only o3 id)
      obtain ⟨k0, k1, k2, k3⟩ := cells4 B2.out
      clear b1 b2 o2 o3
      go_wp2_with fail
      refine (m2 w3).mono ?_
      rintro e w4 ⟨rfl, o4⟩
      clear k0 k1 k2 k3
      obtain ⟨k0, k1, k2, k3⟩ := cells4 (B2.out.only o4 id)
      obtain ⟨j0, j1, j2, j3⟩ := cells4 (B1.out.only o4 id)
      replace O3 := Lib.hid (O3.out.trans o4)
      clear o4 B1 B2
      go_wp2_with fail
      go_ret
      exact ⟨by rw [hp.out]; rfl, O3.out⟩
    · rw [h1] at m1
      rw [h2] at m2
      have hp : Hid (pairE W H C n W2 H2 C2 n2 = if W = W2 ∧ H = H2 ∧ C = C2 then 0 else 300) := by rw [hd.out]; unfold Hid; simp [h1, h2]
      clear h1 h2
      unfold imgV imgA at *
      go_enter Try.func39, Try.ntmps39
      go_wp2_with fail
      obtain ⟨b1, b2, o2⟩ := boxes w #[.int .i64 W, .int .i64 H, .int .i64 C, .slice A n c] #[.int .i64 W2, .int .i64 H2, .int .i64 C2, .slice A2 n2 c2]
      generalize ((w.alloc (Obj.cells #[.int .i64 W, .int .i64 H, .int .i64 C, .slice A n c] 32)).alloc (Obj.cells #[.int .i64 W2, .int .i64 H2, .int .i64 C2, .slice A2 n2 c2] 32)) = w2 at *
      refine (m1 w2).mono ?_
      rintro e w3 ⟨rfl, o3⟩
      have O3 := Lib.hid (o2.trans o3)
      have B1 := Lib.hid (b1.only o3 id)
      have B2 := Lib.hid (b2.only o3 id)
      obtain ⟨k0, k1, k2, k3⟩ := cells4 B2.out
      clear b1 b2 o2 o3
      go_wp2_with fail
      refine (m2 w3).mono ?_
      rintro e w4 ⟨rfl, o4⟩
      clear k0 k1 k2 k3
      obtain ⟨k0, k1, k2, k3⟩ := cells4 (B2.out.only o4 id)
      obtain ⟨j0, j1, j2, j3⟩ := cells4 (B1.out.only o4 id)
      replace O3 := Lib.hid (O3.out.trans o4)
      clear o4 B1 B2
      by_cases hW : W = W2
      · subst hW
        by_cases hH : H = H2
        · subst hH
          by_cases hC : C = C2
          · subst hC
            go_wp2_with fail
            go_ret
            exact ⟨by rw [hp.out, if_pos (by simp)]; rfl, O3.out⟩
          · have d : (C != C2) = true := by simpa using hC
            replace hC := Lib.hid hC
            go_wp2_with fail
            go_ret
            exact ⟨by rw [hp.out, if_neg (fun h => hC.out h.2.2)]; rfl, O3.out⟩
        · have d : (H != H2) = true := by simpa using hH
          replace hH := Lib.hid hH
          go_wp2_with fail
          go_ret
          exact ⟨by rw [hp.out, if_neg (fun h => hH.out h.2.1)]; rfl, O3.out⟩
      · have d : (W != W2) = true := by simpa using hW
        replace hW := Lib.hid hW
        go_wp2_with fail
        go_ret
        exact ⟨by rw [hp.out, if_neg (fun h => hW.out h.1)]; rfl, O3.out⟩
end
end Go.Proofs.Ytfaciljklligeaa.Ct
