/- MetaNames' walk. -/
import Derived.Test.YtehnahikfemodaaAl
import Derived.Laws.MakeOwn
namespace Go.Proofs.Ytehnahikfemodaa.Ct
open Go.ChangeShapes Go.WideShapes Go.RowKit Mm
theorem zeros (n : Nat) (hn : n ≤ 1099511627776) : ∃ (C : Array Value) (S : ByteArray), S.size = n ∧
    (∀ W : World, (Instr.makeSlice 31 (.int .i64 (n : Int)) (.int .i64 (n : Int))).run Try.prog W = .ok (.slice (some ⟨W.heap.size, 0, none⟩) n n) (W.alloc (.cells C 5))) ∧
    (∀ W : World, (convert 31 9 (.slice (some ⟨W.heap.size, 0, none⟩) n n)).run Try.prog (W.alloc (.cells C 5)) = .ok (.string S) (W.alloc (.cells C 5))) := by
  obtain ⟨i5, hi5, hy0, hy1, hy2⟩ := info_parts info5
  refine ⟨((List.replicate n (0 : Int)).map (Value.int .u8)).toArray, strOfNums (List.replicate n 0), by rw [strOfNums_size, List.length_replicate], fun W => ?_, fun W => ?_⟩
  · have h := run_make (P := Try.prog) W 31 5 i5 _ Try.underlying31 hi5 hy0 .i64 .i64 (n : Int) (n : Int) (by omega) (by omega) (by rw [hy2]; omega) (by omega)
    rw [hy1] at h
    simp only [Int.toNat_natCast, Nat.mul_one] at h
    rw [h]
    have e : madeCells (Value.int .u8 0).cells n = ((List.replicate n (0 : Int)).map (Value.int .u8)).toArray := by
      apply Array.ext'
      rw [show (Value.int .u8 0).cells = #[.int .u8 0] from rfl, toList_madeCells_one, List.map_replicate]
    rw [e]
  · exact conv_new W _ n (by simp)
set_option maxRecDepth 100000 in
set_option maxHeartbeats 6400000 in
theorem names_law (w : World) : Calls Try.prog 7 #[] w (fun e w' => e = .returned (.bool true) ∧ Below w.heap.size w w') := by
  obtain ⟨C1, S1, hs1, hm1, hv1⟩ := zeros 16707345 (by omega)
  obtain ⟨C2, S2, hs2, hm2, hv2⟩ := zeros 16707346 (by omega)
  rw [show ((16707345 : Nat) : Int) = 16707345 from rfl] at hm1
  rw [show ((16707346 : Nat) : Int) = 16707346 from rfl] at hm2
  replace hs1 := Lib.hid hs1
  replace hs2 := Lib.hid hs2
  go_enter Try.func7, Try.ntmps7
  go_wp2_with fail
  have q1 : Hid (Only No w (w.alloc (.cells C1 5))) := Lib.hid ((Only.refl _ _).alloc _)
  refine (prof_any S1 _ (by rw [hs1.out]; omega)).mono ?_
  rintro e w1 ⟨v1, rfl, h1, o1⟩
  have l1 : (profL S1).length = 255 := by
    unfold profL
    rw [if_pos (by rw [hs1.out]; omega), wpl_len]
    unfold allP
    rw [hs1.out]
  have p1 : profE S1 = 0 := by unfold profE; rw [if_pos (by rw [hs1.out]; omega)]
  rw [l1] at h1
  rw [p1]
  obtain ⟨A1, c1, rfl⟩ := own_slice h1
  have q2 := Lib.hid (q1.out.trans o1)
  clear h1 o1 l1 p1 q1
  go_wp2_with fail
  have q3 := Lib.hid (q2.out.alloc (.cells C2 5))
  refine (prof_big S2 _ (by rw [hs2.out]; omega) (by rw [hs2.out]; omega)).mono ?_
  rintro e w2 ⟨v2, rfl, h2, o2⟩
  have l2 : (profL S2).length = 0 := by
    unfold profL
    rw [if_neg (by rw [hs2.out]; omega)]
    rfl
  have p2 : profE S2 = 5 := by unfold profE; rw [if_neg (by rw [hs2.out]; omega)]
  rw [l2] at h2
  rw [p2]
  obtain ⟨A2, c2, rfl⟩ := own_slice h2
  have q4 := Lib.hid (q3.out.trans o2)
  clear h2 o2 l2 p2 q2 q3
  go_wp2_with fail
  refine (alive21 w2).mono ?_
  rintro e w3 ⟨rfl, o3⟩
  have q5 := Lib.hid (q4.out.trans o3)
  clear o3 q4
  go_wp2_with fail
  refine (adobe_any none 0 0 [] w3 Rds.nil rfl (by omega)).mono ?_
  rintro e w4 ⟨rfl, o4⟩
  rw [show adobeOf [] = -1 from rfl]
  have q6 := Lib.hid (q5.out.trans o4)
  clear o4 q5
  go_wp2_with fail
  refine (turned24 none 0 0 [] w4 Rds.nil rfl (by omega) (by simp)).mono ?_
  rintro e w5 ⟨rfl, o5⟩
  rw [show turnedOf [] = 0 from rfl]
  have q7 := Lib.hid (q6.out.trans o5)
  clear o5 q6
  go_wp2_with fail
  refine (comm_any none 0 0 [] w5 Rds.nil rfl (by omega)).mono ?_
  rintro e w6 ⟨v6, rfl, h6, o6⟩
  have l6 : (cms []).length = 0 := rfl
  rw [l6] at h6
  obtain ⟨A6, c6, rfl⟩ := own_slice h6
  have q8 := Lib.hid (q7.out.trans o6)
  clear h6 o6 q7 l6
  go_wp2_with fail
  go_ret
  exact ⟨rfl, q8.out.below_no⟩
end Go.Proofs.Ytehnahikfemodaa.Ct
