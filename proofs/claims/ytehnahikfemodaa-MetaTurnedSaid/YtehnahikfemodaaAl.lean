/- A density and a profile are read again, Adobe's transform is found, and how an image is turned. -/
import Derived.Test.YtehnahikfemodaaBk
import Derived.Test.YtehnahikfemodaaTrn
import Derived.Test.YtehnahikfemodaaJfifW
import Derived.Test.YtehnahikfemodaaJfM
namespace Go.Proofs.Ytehnahikfemodaa.Ct
open Go.ChangeShapes Go.WideShapes Go.RowKit Mm
theorem jfB_data (M m U X Y : Int) : (jfB M m U X Y).data.toList = [74, 70, 73, 70, 0, UInt8.ofNat M.toNat, UInt8.ofNat m.toNat, UInt8.ofNat U.toNat, UInt8.ofNat (clamp X / 256).toNat, UInt8.ofNat (clamp X % 256).toNat, UInt8.ofNat (clamp Y / 256).toNat, UInt8.ofNat (clamp Y % 256).toNat, 0, 0] := by
  unfold jfB
  simp only [ByteArray.data_append, Array.toList_append, strOfNums_data]
  rfl
theorem byteAt_list (s : ByteArray) (l : List UInt8) (h : s.data.toList = l) (i : Nat) : byteAt s i = ((l[i]?).getD 0).toNat := by
  unfold byteAt
  rw [← h, Array.getElem?_toList]
theorem jfif_one (M m U X Y : Int) (hM : 0 ≤ M ∧ M ≤ 255) (hm : 0 ≤ m ∧ m ≤ 255) (hU : 0 ≤ U ∧ U ≤ 255) (hX : 0 ≤ X ∧ X ≤ 65535) (hY : 0 ≤ Y ∧ Y ≤ 65535) (l : List Ex) (hl : l.find? isJfif = some (224, jfB M m U X Y)) :
    jfifOf l = (dnV M m U X Y, true) := by
  have cX : clamp X = X := by unfold clamp; rw [if_neg (by omega), if_neg (by omega)]
  have cY : clamp Y = Y := by unfold clamp; rw [if_neg (by omega), if_neg (by omega)]
  have hb := byteAt_list _ _ (jfB_data M m U X Y)
  unfold jfifOf
  rw [hl]
  dsimp only
  rw [hb 5, hb 6, hb 7, hb 8, hb 9, hb 10, hb 11, cX, cY]
  have b1 : ((UInt8.ofNat M.toNat).toNat : Int) = M := by rw [UInt8.toNat_ofNat']; omega
  have b2 : ((UInt8.ofNat m.toNat).toNat : Int) = m := by rw [UInt8.toNat_ofNat']; omega
  have b3 : ((UInt8.ofNat U.toNat).toNat : Int) = U := by rw [UInt8.toNat_ofNat']; omega
  have b4 : 256 * ((UInt8.ofNat (X / 256).toNat).toNat : Int) + ((UInt8.ofNat (X % 256).toNat).toNat : Int) = X := by rw [UInt8.toNat_ofNat', UInt8.toNat_ofNat']; omega
  have b5 : 256 * ((UInt8.ofNat (Y / 256).toNat).toNat : Int) + ((UInt8.ofNat (Y % 256).toNat).toNat : Int) = Y := by rw [UInt8.toNat_ofNat', UInt8.toNat_ofNat']; omega
  simp only [List.getElem?_cons_succ, List.getElem?_cons_zero, Option.getD_some]
  rw [b1, b2, b3, b4, b5]
theorem jfif_is (M m U X Y : Int) : isJfif (224, jfB M m U X Y) = true := by
  unfold isJfif isKind
  dsimp only
  have h1 : begins (jfB M m U X Y) jfifH = true := by
    unfold jfB
    rw [ByteArray.append_assoc, ByteArray.append_assoc, ByteArray.append_assoc]
    exact begins_app _ _
  have h2 : (14 : Int) ≤ ((jfB M m U X Y).size : Int) := by
    have : (jfB M m U X Y).size = (jfB M m U X Y).data.toList.length := by rw [Array.length_toList]; rfl
    rw [this, jfB_data]
    simp only [List.length_cons, List.length_nil]
    omega
  rw [h1, decide_eq_true h2]
  rfl
abbrev exS : ByteArray := { data := #[69, 120, 105, 102, 0, 0, 77, 77, 0, 42, 0, 0, 0, 8, 0, 1, 1, 18, 0, 3, 0, 0, 0, 1, 0, 6, 0, 0] }
abbrev adS : ByteArray := { data := #[65, 100, 111, 98, 101, 0, 100, 0, 0, 0, 0, 2] }
theorem turned_six : turnedOf [(225, exS)] = 6 := by decide +kernel
theorem adobe_two : adobeOf [(238, adS)] = 2 := by decide +kernel
theorem pcs_wpl (s : ByteArray) (N : Nat) : pcs (wpl s N) = wpl s N := by
  unfold pcs
  rw [List.filter_eq_self]
  intro x hx
  obtain ⟨k, _, rfl⟩ := wpl_mem hx
  exact isPc_piece s k
abbrev abS : ByteArray := { data := #[97, 98] }
theorem ab_prof : profR (profL abS) = (abS, 0) := by
  have h : abS.size ≤ 16707345 := by decide
  unfold profR profL
  rw [if_pos h, pcs_wpl]
  exact prof_perm h (List.Perm.refl _)
theorem ab_len : (profL abS).length = 1 := by
  unfold profL
  rw [if_pos (by decide), wpl_len]
  decide
theorem ab_sz : Pf.szs tt (pcs (profL abS)) ≤ 140737488351232 := by
  unfold profL
  rw [if_pos (by decide), pcs_wpl, show allP abS = 1 from by decide]
  have e : wpl abS 1 = [pieceP abS 0] := rfl
  rw [e]
  simp only [Pf.szs, List.map_cons, List.map_nil, List.sum_cons, List.sum_nil]
  rw [tt_piece, ByteArray.size_extract]
  omega
set_option maxRecDepth 100000 in
set_option maxHeartbeats 6400000 in
theorem alive21 (w : World) : Calls Try.prog 21 #[] w (Yes w) := by
  go_enter Try.func21, Try.ntmps21
  go_wp2_with fail
  have bx1 : Hid (Blk (w.alloc (.cells (dnC 1 2 1 72 96) 30)) w.heap.size 30 (dnC 1 2 1 72 96)) := Lib.hid (Blk.new _ _ _)
  have q1 : Hid (Only No w (w.alloc (.cells (dnC 1 2 1 72 96) 30))) := Lib.hid ((Only.refl _ _).alloc _)
  refine (jfif_any 1 2 1 72 96 _).mono ?_
  rintro e w1 ⟨rfl, o1⟩
  have bx2 := Lib.hid (bx1.out.only o1 id)
  have q2 := Lib.hid (q1.out.trans o1)
  clear bx1 q1 o1
  obtain ⟨J, hJ⟩ : ∃ J, Hid (J = jfB 1 2 1 72 96) := ⟨_, Lib.hid rfl⟩
  rw [← hJ.out]
  go_wp2_with fail
  have bx3 := Lib.hid (bx2.out.alloc (.cells #[.int .u8 224, .string J] 36))
  have q3 := Lib.hid (q2.out.alloc (.cells #[.int .u8 224, .string J] 36))
  have hR3 : Hid (Rds (w1.alloc (.cells #[.int .u8 224, .string J] 36)) 2 (some ⟨w1.heap.size, 0, none⟩) 1 (exC [(224, J)])) := Lib.hid (Rds.fresh (Blk.new _ _ _) rfl)
  have hjo : Hid (jfifOf [(224, J)] = (dnV 1 2 1 72 96, true)) := Lib.hid (by
    refine jfif_one 1 2 1 72 96 (by omega) (by omega) (by omega) (by omega) (by omega) _ ?_
    rw [hJ.out, List.find?_cons, jfif_is])
  refine (jfifw_any _ 1 1 [(224, J)] _ hR3.out rfl (by omega)).mono ?_
  rintro e w2 ⟨rfl, o2⟩
  rw [hjo.out]
  have bx4 := Lib.hid (bx3.out.only o2 id)
  have q4 := Lib.hid (q3.out.trans o2)
  clear bx3 q3 o2 bx2 q2 hR3
  go_wp2_with fail
  have bx5 := Lib.hid (bx4.out.alloc (.cells (dnC 1 2 1 72 96) 30))
  have by5 : Hid (Blk (w2.alloc (.cells (dnC 1 2 1 72 96) 30)) w2.heap.size 30 (dnC 1 2 1 72 96)) := Lib.hid (Blk.new _ _ _)
  have q5 := Lib.hid (q4.out.alloc (.cells (dnC 1 2 1 72 96) 30))
  refine (prof_any abS _ (by decide)).mono ?_
  rintro e w3 ⟨v3, rfl, h3, o3⟩
  have bx6 := Lib.hid (bx5.out.only o3 id)
  have by6 := Lib.hid (by5.out.only o3 id)
  have q6 := Lib.hid (q5.out.trans o3)
  rw [show profE abS = 0 from rfl]
  have hlen := Lib.hid ab_len
  rw [hlen.out] at h3
  obtain ⟨A3, c3, rfl⟩ := own_slice h3
  replace h3 := Lib.hid h3
  clear o3 bx5 by5 q5 bx4 q4
  go_wp2_with fail
  refine (prof27s A3 1 c3 (profL abS) _ (Rds.of_own h3.out) hlen.out (by omega) ab_sz).mono ?_
  rintro e w4 ⟨rfl, o4⟩
  rw [ab_prof]
  have bx7 := Lib.hid (bx6.out.only o4 id)
  have by7 := Lib.hid (by6.out.only o4 id)
  have q7 := Lib.hid (q6.out.trans o4)
  clear o4 bx6 by6 q6
  go_wp2_with fail
  have bx8 := Lib.hid (bx7.out.alloc (.cells #[.int .u8 225, .string exS] 36))
  have by8 := Lib.hid (by7.out.alloc (.cells #[.int .u8 225, .string exS] 36))
  have q8 := Lib.hid (q7.out.alloc (.cells #[.int .u8 225, .string exS] 36))
  have hR8 : Hid (Rds (w4.alloc (.cells #[.int .u8 225, .string exS] 36)) 2 (some ⟨w4.heap.size, 0, none⟩) 1 (exC [(225, exS)])) := Lib.hid (Rds.fresh (Blk.new _ _ _) rfl)
  refine (turned24 _ 1 1 [(225, exS)] _ hR8.out rfl (by omega) (by simp; decide)).mono ?_
  rintro e w5 ⟨rfl, o5⟩
  rw [turned_six]
  have bx9 := Lib.hid (bx8.out.only o5 id)
  have by9 := Lib.hid (by8.out.only o5 id)
  have q9 := Lib.hid (q8.out.trans o5)
  clear o5 bx8 by8 q8 bx7 by7 q7 hR8
  have c0 : w5.cell? ⟨w.heap.size, 0, none⟩ = some (.int .u8 1) := bx9.out.cell 0
  have c1 : w5.cell? ⟨w.heap.size, 1, none⟩ = some (.int .u8 2) := bx9.out.cell 1
  have c2 : w5.cell? ⟨w.heap.size, 2, none⟩ = some (.int .u8 1) := bx9.out.cell 2
  have c3' : w5.cell? ⟨w.heap.size, 3, none⟩ = some (.int .i64 72) := bx9.out.cell 3
  have c4 : w5.cell? ⟨w.heap.size, 4, none⟩ = some (.int .i64 96) := bx9.out.cell 4
  have d0 : w5.cell? ⟨w2.heap.size, 0, none⟩ = some (.int .u8 1) := by9.out.cell 0
  have d1 : w5.cell? ⟨w2.heap.size, 1, none⟩ = some (.int .u8 2) := by9.out.cell 1
  have d2 : w5.cell? ⟨w2.heap.size, 2, none⟩ = some (.int .u8 1) := by9.out.cell 2
  have d3 : w5.cell? ⟨w2.heap.size, 3, none⟩ = some (.int .i64 72) := by9.out.cell 3
  have d4 : w5.cell? ⟨w2.heap.size, 4, none⟩ = some (.int .i64 96) := by9.out.cell 4
  go_wp2_with fail
  have q10 := Lib.hid (q9.out.alloc (.cells #[.int .u8 238, .string adS] 36))
  have hR10 : Hid (Rds (w5.alloc (.cells #[.int .u8 238, .string adS] 36)) 2 (some ⟨w5.heap.size, 0, none⟩) 1 (exC [(238, adS)])) := Lib.hid (Rds.fresh (Blk.new _ _ _) rfl)
  refine (adobe_any _ 1 1 [(238, adS)] _ hR10.out rfl (by omega)).mono ?_
  rintro e w6 ⟨rfl, o6⟩
  rw [adobe_two]
  replace o6 := Lib.hid o6
  go_wp2_with fail
  go_ret
  exact ⟨rfl, q10.out.trans o6.out⟩
end Go.Proofs.Ytehnahikfemodaa.Ct
