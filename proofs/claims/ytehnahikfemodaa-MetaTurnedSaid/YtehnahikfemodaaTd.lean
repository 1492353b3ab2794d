/- What a directory's row says: the program's. -/
import Derived.Test.YtehnahikfemodaaNum
import Derived.Deep.DeepCutAuto
namespace Go.Proofs.Ytehnahikfemodaa.Ct
open Go.ChangeShapes Go.WideShapes Go.RowKit Mm
/-- what the row at a says -/
def rowTurn (t : ByteArray) (high : Bool) (a : Nat) : Int :=
  if numN t (a + 2) 2 high = 3 ∧ numN t (a + 4) 4 high = 1 ∧ 1 ≤ numN t (a + 8) 2 high ∧ numN t (a + 8) 2 high ≤ 8 then numN t (a + 8) 2 high else 0
theorem wrap8i (y : Nat) (h : y ≤ 8) : IntKind.i8.wrap (y : Int) = (y : Int) := by
  match y, h with
  | 0, _ => rfl
  | 1, _ => rfl
  | 2, _ => rfl
  | 3, _ => rfl
  | 4, _ => rfl
  | 5, _ => rfl
  | 6, _ => rfl
  | 7, _ => rfl
  | 8, _ => rfl
set_option maxRecDepth 100000 in
set_option maxHeartbeats 3200000 in
theorem turned38 (t : ByteArray) (high : Bool) (a : Nat) (w : World) (hs : t.size ≤ 9223372036854775807) (h : a + 12 ≤ t.size) :
    Calls Try.prog 38 #[.agg #[.string t, .bool high], .int .i64 a] w fun e w' => e = .returned (.int .i8 (rowTurn t high a)) ∧ Only No w w' := by
  have h' : (a : Int) + 12 ≤ t.size := by omega
  have e2 : ((a + 2 : Nat) : Int) = (a : Int) + 2 := by omega
  have e4 : ((a + 4 : Nat) : Int) = (a : Int) + 4 := by omega
  have e8 : ((a + 8 : Nat) : Int) = (a : Int) + 8 := by omega
  have n1 := number_yes t high (a + 2) 2 
  have n2 := number_yes t high (a + 4) 4
  have n3 := number_yes t high (a + 8) 2
  rw [e2] at n1
  rw [e4] at n2
  rw [e8] at n3
  replace n1 := Lib.hid n1
  replace n2 := Lib.hid n2
  replace n3 := Lib.hid n3
  have hR : rowTurn t high a = if numN t (a + 2) 2 high = 3 ∧ numN t (a + 4) 4 high = 1 ∧ 1 ≤ numN t (a + 8) 2 high ∧ numN t (a + 8) 2 high ≤ 8 then (numN t (a + 8) 2 high : Int) else 0 := by unfold rowTurn; split <;> rfl
  replace hR := Lib.hid hR
  clear e2 e4 e8
  go_enter Try.func38, Try.ntmps38
  go_wp2_with fail
  obtain ⟨W, hW⟩ : ∃ W, W = w.alloc (.cells #[.string t, .bool high] 60) := ⟨_, rfl⟩
  rw [← hW]
  obtain ⟨g, hg⟩ : ∃ g, g = w.heap.size := ⟨_, rfl⟩
  rw [← hg]
  have hb : Hid (Blk W g 60 #[.string t, .bool high]) := Lib.hid (by rw [hW, hg]; exact Blk.new _ _ _)
  have oW : Hid (Only No w W) := Lib.hid (by rw [hW]; exact (Only.refl _ _).alloc _)
  clear hW hg
  refine (n1.out W hs (by omega) (by omega)).mono ?_
  rintro e w1 ⟨rfl, o1⟩
  have c0 : w1.cell? ⟨g, 0, none⟩ = some (.string t) := (hb.out.only o1 id).cell 0
  have c1 : w1.cell? ⟨g, 1, none⟩ = some (.bool high) := (hb.out.only o1 id).cell 1
  replace o1 := Lib.hid o1
  generalize hk1 : numN t (a + 2) 2 high = k1 at *
  go_wp2_with fail
  refine (n2.out w1 hs (by omega) (by omega)).mono ?_
  rintro e w2 ⟨rfl, o2⟩
  have d0 : w2.cell? ⟨g, 0, none⟩ = some (.string t) := ((hb.out.only o1.out id).only o2 id).cell 0
  have d1 : w2.cell? ⟨g, 1, none⟩ = some (.bool high) := ((hb.out.only o1.out id).only o2 id).cell 1
  replace o2 := Lib.hid o2
  generalize hk2 : numN t (a + 4) 4 high = k2 at *
  clear c0 c1
  go_wp2_with fail
  refine (n3.out w2 hs (by omega) (by omega)).mono ?_
  rintro e w3 ⟨rfl, o3⟩
  replace o3 := Lib.hid o3
  have hk3 := valN_le t (a + 8) 2 high 2 (by omega)
  rw [show valN t (a + 8) 2 high 2 = numN t (a + 8) 2 high from rfl] at hk3
  have oF : Hid (Only No w w3) := Lib.hid (((oW.out.trans o1.out).trans o2.out).trans o3.out)
  generalize numN t (a + 8) 2 high = k3 at *
  clear d0 d1 n1 n2 n3 hk1 hk2
  have t1 : ((k1 : Int) == 3) = decide (k1 = 3) := by rw [Bool.eq_iff_iff]; simp; omega
  have t2 : ((k2 : Int) == 1) = decide (k2 = 1) := by rw [Bool.eq_iff_iff]; simp; omega
  by_cases b1 : k1 = 3
  · obtain rfl := b1
    by_cases b2 : k2 = 1
    · obtain rfl := b2
      by_cases b3 : 1 ≤ k3
      · by_cases b4 : k3 ≤ 8
        · have hw8 := wrap8i k3 b4
          have hd3 : decide ((k3 : Int) < 1) = false := decide_eq_false (by omega)
          have hd4 : decide ((8 : Int) < (k3 : Int)) = false := decide_eq_false (by omega)
          clear t1 t2
          go_wp2_with fail
          go_ret
          exact ⟨by rw [hR.out, if_pos (by simp [b3, b4])]; rfl, oF.out⟩
        · have hd3 : decide ((k3 : Int) < 1) = false := decide_eq_false (by omega)
          have hd4 : decide ((8 : Int) < (k3 : Int)) = true := decide_eq_true (by omega)
          clear t1 t2
          go_wp2_with fail
          go_ret
          exact ⟨by rw [hR.out, if_neg (by simp [b4])]; rfl, oF.out⟩
      · have hd3 : decide ((k3 : Int) < 1) = true := decide_eq_true (by omega)
        clear t1 t2
        go_wp2_with fail
        go_ret
        exact ⟨by rw [hR.out, if_neg (by intro h; exact b3 h.2.2.1)]; rfl, oF.out⟩
    · have hd2 : ((k2 : Int) == 1) = false := by rw [t2]; exact decide_eq_false b2
      clear t1 t2
      go_wp2_with fail
      go_ret
      exact ⟨by rw [hR.out, if_neg (by intro h; exact b2 h.2.1)]; rfl, oF.out⟩
  · have hd1 : ((k1 : Int) == 3) = false := by rw [t1]; exact decide_eq_false b1
    clear t1 t2
    go_wp2_with fail
    go_ret
    exact ⟨by rw [hR.out, if_neg (by intro h; exact b1 h.1)]; rfl, oF.out⟩
end Go.Proofs.Ytehnahikfemodaa.Ct
