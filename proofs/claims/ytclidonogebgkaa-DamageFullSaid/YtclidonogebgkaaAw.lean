/- Maps of damage: what the document's examples say (awake). -/
import Derived.Test.YtclidonogebgkaaSb
namespace Go.Proofs.Ytclidonogebgkaa.Ct
open Go.ChangeShapes Go.WideShapes Go.RowKit Mm
def exL : List Bool := [true, true, false, true, true, true]
def exB : List Bx := [⟨0, 0, 2, 2⟩, ⟨2, 1, 1, 1⟩]
def exLs : List Ln := [⟨[35, 46], by decide⟩, ⟨[46, 35], by decide⟩]
theorem ex_boxes : (bxs 3 2 exL ((upF exL exL.length).map (·.1))).2 = exB := by decide +kernel
theorem ex_text : txt 3 exL 2 = [35, 35, 46, 10, 35, 35, 35, 10] := by decide +kernel
theorem ex_read : rdL exLs = some ⟨2, 2, [true, false, false, true]⟩ := by rfl
theorem ex_flat : flat exLs = [35, 46, 10, 46, 35, 10] := by decide +kernel
set_option maxRecDepth 100000 in
set_option maxHeartbeats 4000000 in
theorem awake7 (w : World) : Calls Try.prog 7 #[] w fun e w' => e = .returned (.bool true) ∧ Only No w w' := by
  have hof := Lib.hid (of12 (w.alloc (.cells #[.bool true, .bool true, .bool false, .bool true, .bool true, .bool true] 4)) 3 2 (some ⟨w.heap.size, 0, none⟩) 6 exL (Rds.fresh (n := 6) (size := 1) (Blk.new w 4 _) rfl) (fun e => by cases e) (by omega) (by omega) rfl)
  go_enter Try.func7, Try.ntmps7
  go_wp2_with fail
  refine hof.out.mono ?_
  rintro e w1 ⟨G, A, c, rfl, o1, hge, hm⟩
  have hbx := boxes9 hm
  rw [ex_boxes] at hbx
  replace hbx := Lib.hid hbx
  replace hm := Lib.hid hm
  replace o1 := Lib.hid o1
  replace hge := Lib.hid hge
  go_wp2_with fail
  refine hbx.out.mono ?_
  rintro e w2 ⟨Lv, rfl, own, o2⟩
  obtain ⟨A2, c2, rfl⟩ := own_slice own
  have hrd := read10 exLs (by decide) (by decide) w2
  unfold ReadPost at hrd
  rw [ex_read, ex_flat] at hrd
  replace hrd := Lib.hid hrd
  replace own := Lib.hid own
  replace o2 := Lib.hid o2
  go_wp2_with fail
  refine hrd.out.mono ?_
  rintro e w3 he
  rw [if_pos (by omega)] at he
  obtain ⟨G2, A3, c3, rfl, o3, hge3, hm2⟩ := he
  have htx := text11 (hm.out.no (o2.out.trans o3))
  rw [ex_text] at htx
  replace htx := Lib.hid htx
  replace o3 := Lib.hid o3
  replace hm2 := Lib.hid hm2
  clear hge3 hrd hbx hof
  have e5 : cnt exL = 5 := by decide +kernel
  have e2 : cnt [true, false, false, true] = 2 := by decide +kernel
  go_wp2_with (first
    | (go_at_call 11; refine htx.out.mono ?_; rintro e w4 ⟨rfl, o4⟩; clear htx; have hc1 := Lib.hid (count18 (hm.out.no ((o2.out.trans o3.out).trans o4))); rw [e5] at hc1; have hsb : Calls Try.prog 23 #[.slice A2 exB.length c2, .slice (some ⟨w4.heap.size, 0, none⟩) 2 2] (w4.alloc (.cells #[.int .i64 0, .int .i64 0, .int .i64 2, .int .i64 2, .int .i64 2, .int .i64 1, .int .i64 1, .int .i64 1] 31)) (fun e w' => e = .returned (.bool true) ∧ ∃ n, w' = (w4.alloc (.cells #[.int .i64 0, .int .i64 0, .int .i64 2, .int .i64 2, .int .i64 2, .int .i64 1, .int .i64 1, .int .i64 1] 31)).drewN n) := sameB23 (w4.alloc (.cells #[.int .i64 0, .int .i64 0, .int .i64 2, .int .i64 2, .int .i64 2, .int .i64 1, .int .i64 1, .int .i64 1] 31)) A2 (some ⟨w4.heap.size, 0, none⟩) c2 2 exB ((Rds.of_own own.out).no (((o3.out).trans o4).alloc _)) (Rds.fresh (n := 2) (size := 4) (Blk.new w4 31 #[.int .i64 0, .int .i64 0, .int .i64 2, .int .i64 2, .int .i64 2, .int .i64 1, .int .i64 1, .int .i64 1]) rfl) (by decide); have hc2 := Lib.hid (fun n => count18 (hm2.out.no ((o4.alloc (.cells #[.int .i64 0, .int .i64 0, .int .i64 2, .int .i64 2, .int .i64 2, .int .i64 1, .int .i64 1, .int .i64 1] 31)).drewN n))); rw [e2] at hc2; replace hsb := Lib.hid hsb; replace o4 := Lib.hid o4)
    | (go_at_call 23; refine hsb.out.mono ?_; rintro e w6 ⟨rfl, nn, rfl⟩)
    | (go_at_call 18; (with_reducible refine hc1.out.mono ?_); rintro e w5 ⟨rfl, rfl⟩; clear hc1)
    | (go_at_call 18; refine (hc2.out _).mono ?_; rintro e w5 ⟨rfl, rfl⟩))
  go_ret
  exact ⟨rfl, (((((((Only.refl No w).alloc _).trans o1.out).trans o2.out).trans o3.out).trans o4.out).alloc _).drewN _⟩
end Go.Proofs.Ytclidonogebgkaa.Ct
