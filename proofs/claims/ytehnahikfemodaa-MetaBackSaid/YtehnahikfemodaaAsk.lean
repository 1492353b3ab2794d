/- Each question is answered as the document says. -/
import Derived.Test.YtehnahikfemodaaRpr
import Derived.Test.YtehnahikfemodaaRtn
import Derived.Test.YtehnahikfemodaaRjfif
namespace Go.Proofs.Ytehnahikfemodaa.Ct
open Go.ChangeShapes Go.WideShapes Go.RowKit Mm
theorem jfif_form (l : List Ex) : ∃ M m U X Y : Int, (jfifOf l).1 = dnV M m U X Y := by
  unfold jfifOf
  split
  · exact ⟨_, _, _, _, _, rfl⟩
  · exact ⟨_, _, _, _, _, rfl⟩
theorem szl_mem {l : List Ex} {x : Ex} (h : x ∈ l) : x.2.size ≤ szl l := by
  unfold szl
  induction l with
  | nil => cases h
  | cons a l ih =>
    simp only [List.map_cons, List.sum_cons]
    rcases List.mem_cons.1 h with rfl | h
    · omega
    · have := ih h; omega
set_option maxRecDepth 100000 in
set_option maxHeartbeats 6400000 in
theorem asked20 (A B : Option Addr) (m c d : Nat) (l : List Ex) (w : World) (ha : Rds w 2 A m (exC l)) (hb : Rds w 2 B m (exC l)) (hl : l.length = m) (hm : m * 24 ≤ 140737488351232) (hz : szl l ≤ 140737488351232) :
    Calls Try.prog 20 #[.slice A m c, .slice B m d] w (Yes w) := by
  have HA := Lib.hid ha
  have HB := Lib.hid hb
  have HL := Lib.hid hl
  have HZ := Lib.hid hz
  have HS : Hid (∀ x ∈ l, x.2.size ≤ 9223372036854775807) := Lib.hid (fun x hx => by have := szl_mem hx; omega)
  clear ha hb hl hz
  obtain ⟨M, mi, U, X, Y, hJ⟩ := jfif_form l
  replace hJ := Lib.hid hJ
  obtain ⟨jb, hjb⟩ : ∃ jb, Hid (jb = (jfifOf l).2) := ⟨_, Lib.hid rfl⟩
  obtain ⟨ps, hps⟩ : ∃ ps, Hid (ps = (profR l).1) := ⟨_, Lib.hid rfl⟩
  obtain ⟨pe, hpe⟩ : ∃ pe, Hid (pe = (profR l).2) := ⟨_, Lib.hid rfl⟩
  go_enter Try.func20, Try.ntmps20
  go_wp2_with fail
  refine (jfifw_any A m c l w HA.out HL.out (by omega)).mono ?_
  rintro e w1 ⟨rfl, o1⟩
  rw [hJ.out, ← hjb.out]
  replace o1 := Lib.hid o1
  go_wp2_with fail
  have q1 : Hid (Only No w (w1.alloc (.cells #[.int .u8 M, .int .u8 mi, .int .u8 U, .int .i64 X, .int .i64 Y] 30))) := Lib.hid (o1.out.alloc _)
  have bx1 : Hid (Blk (w1.alloc (.cells #[.int .u8 M, .int .u8 mi, .int .u8 U, .int .i64 X, .int .i64 Y] 30)) w1.heap.size 30 #[.int .u8 M, .int .u8 mi, .int .u8 U, .int .i64 X, .int .i64 Y]) := Lib.hid (Blk.new _ _ _)
  refine (rjfif_read B m d l _ (HB.out.no q1.out) HL.out hm).mono ?_
  rintro e w2 ⟨rfl, o2⟩
  rw [hJ.out, ← hjb.out]
  have bx2 := Lib.hid (bx1.out.only o2 id)
  have q2 := Lib.hid (q1.out.trans o2)
  clear bx1 q1 o1 o2
  go_wp2_with fail
  have q3 := Lib.hid (q2.out.alloc (.cells #[.int .u8 M, .int .u8 mi, .int .u8 U, .int .i64 X, .int .i64 Y] 30))
  have bx3 := Lib.hid (bx2.out.alloc (.cells #[.int .u8 M, .int .u8 mi, .int .u8 U, .int .i64 X, .int .i64 Y] 30))
  have by3 : Hid (Blk (w2.alloc (.cells #[.int .u8 M, .int .u8 mi, .int .u8 U, .int .i64 X, .int .i64 Y] 30)) w2.heap.size 30 #[.int .u8 M, .int .u8 mi, .int .u8 U, .int .i64 X, .int .i64 Y]) := Lib.hid (Blk.new _ _ _)
  refine (prof27 A m c l _ (HA.out.no q3.out) HL.out hm HZ.out).mono ?_
  rintro e w3 ⟨rfl, o3⟩
  rw [← hps.out, ← hpe.out]
  have q4 := Lib.hid (q3.out.trans o3)
  have bx4 := Lib.hid (bx3.out.only o3 id)
  have by4 := Lib.hid (by3.out.only o3 id)
  clear bx3 by3 q3 o3 bx2 q2
  go_wp2_with fail
  refine (rprof32 B m d l _ (HB.out.no q4.out) HL.out hm HZ.out).mono ?_
  rintro e w4 ⟨rfl, o4⟩
  rw [← hps.out, ← hpe.out]
  have q5 := Lib.hid (q4.out.trans o4)
  have bx5 := Lib.hid (bx4.out.only o4 id)
  have by5 := Lib.hid (by4.out.only o4 id)
  clear bx4 by4 q4 o4
  have c0 : w4.cell? ⟨w1.heap.size, 0, none⟩ = some (.int .u8 M) := bx5.out.cell 0
  have c1 : w4.cell? ⟨w1.heap.size, 1, none⟩ = some (.int .u8 mi) := bx5.out.cell 1
  have c2 : w4.cell? ⟨w1.heap.size, 2, none⟩ = some (.int .u8 U) := bx5.out.cell 2
  have c3 : w4.cell? ⟨w1.heap.size, 3, none⟩ = some (.int .i64 X) := bx5.out.cell 3
  have c4 : w4.cell? ⟨w1.heap.size, 4, none⟩ = some (.int .i64 Y) := bx5.out.cell 4
  have d0 : w4.cell? ⟨w2.heap.size, 0, none⟩ = some (.int .u8 M) := by5.out.cell 0
  have d1 : w4.cell? ⟨w2.heap.size, 1, none⟩ = some (.int .u8 mi) := by5.out.cell 1
  have d2 : w4.cell? ⟨w2.heap.size, 2, none⟩ = some (.int .u8 U) := by5.out.cell 2
  have d3 : w4.cell? ⟨w2.heap.size, 3, none⟩ = some (.int .i64 X) := by5.out.cell 3
  have d4 : w4.cell? ⟨w2.heap.size, 4, none⟩ = some (.int .i64 Y) := by5.out.cell 4
  go_wp2_with fail
  refine (adobe_any A m c l w4 (HA.out.no q5.out) HL.out (by omega)).mono ?_
  rintro e w5 ⟨rfl, o5⟩
  have q6 := Lib.hid (q5.out.trans o5)
  clear o5 c0 c1 c2 c3 c4 d0 d1 d2 d3 d4
  go_wp2_with fail
  refine (radobe_any B m d l _ (HB.out.no q6.out) HL.out hm).mono ?_
  rintro e w6 ⟨rfl, o6⟩
  have q7 := Lib.hid (q6.out.trans o6)
  clear o6
  go_wp2_with fail
  refine (turned24 A m c l _ (HA.out.no q7.out) HL.out hm HS.out).mono ?_
  rintro e w7 ⟨rfl, o7⟩
  have q8 := Lib.hid (q7.out.trans o7)
  clear o7
  go_wp2_with fail
  refine (rturned34 B m d l _ (HB.out.no q8.out) HL.out hm HS.out).mono ?_
  rintro e w8 ⟨rfl, o8⟩
  have q9 := Lib.hid (q8.out.trans o8)
  clear o8
  go_wp2_with fail
  refine (comm_any A m c l _ (HA.out.no q9.out) HL.out hm).mono ?_
  rintro e w9 ⟨v9, rfl, h9, o9⟩
  obtain ⟨A9, c9, rfl⟩ := own_slice h9
  have q10 := Lib.hid (q9.out.trans o9)
  replace h9 := Lib.hid h9
  clear o9
  go_wp2_with fail
  refine (rcomm_any B m d l _ (HB.out.no q10.out) HL.out hm).mono ?_
  rintro e w10 ⟨v10, rfl, h10, o10⟩
  obtain ⟨A10, c10, rfl⟩ := own_slice h10
  have h9b := Lib.hid (own_only h9.out o10 (fun _ _ => id))
  have q11 := Lib.hid (q10.out.trans o10)
  replace h10 := Lib.hid h10
  have hcl : (cms l).length ≤ m := by rw [← HL.out]; exact cms_le l
  clear o10
  go_wp2_with fail
  refine (texts_yes A9 A10 c9 c10 (cms l) (cms l).length _ (Rds.of_own h9b.out) (Rds.of_own h10.out) rfl (by omega)).mono ?_
  rintro e w11 ⟨rfl, o11⟩
  replace o11 := Lib.hid o11
  go_wp2_with fail
  go_ret
  exact ⟨rfl, q11.out.trans o11.out⟩
end Go.Proofs.Ytehnahikfemodaa.Ct
