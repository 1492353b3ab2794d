/- A JFIF segment is made. -/
import Derived.Test.YtehnahikfemodaaJf
namespace Go.Proofs.Ytehnahikfemodaa.Ct
open Go.ChangeShapes Go.WideShapes Go.RowKit Mm
set_option maxRecDepth 100000 in
set_option maxHeartbeats 3200000 in
theorem jfif_any (M m U X Y : Int) (w : World) : Calls Try.prog 18 #[.agg (dnC M m U X Y)] w fun e w' => e = .returned (.agg #[.int .u8 224, .string (jfB M m U X Y)]) ∧ Only No w w' := by
  have hc1 := conv3
  have hc2 := conv3a
  have hc3 := conv3b
  have z3 : ∀ x y z, (strOfNums [x, y, z]).size = 3 := fun _ _ _ => rfl
  have z2 : ∀ x y, (strOfNums [x, y]).size = 2 := fun _ _ => rfl
  have z5 : ({ data := #[74, 70, 73, 70, 0] } : ByteArray).size = 5 := rfl
  have z0 : ({ data := #[0, 0] } : ByteArray).size = 2 := rfl
  have za : ∀ a b : ByteArray, (a ++ b).size = a.size + b.size := fun a b => ByteArray.size_append
  go_enter Try.func18, Try.ntmps18
  go_wp2_with fail
  obtain ⟨W2, hW2⟩ : ∃ W2, W2 = (w.alloc (.cells (dnC M m U X Y) 30)).alloc (.cells #[.int .u8 0, .string { data := #[] }] 36) := ⟨_, rfl⟩
  have b1 : Blk W2 w.heap.size 30 (dnC M m U X Y) := by rw [hW2]; exact (Blk.new _ _ _).alloc _
  have b2 : Blk W2 (w.heap.size + 1) 36 #[.int .u8 0, .string { data := #[] }] := by rw [hW2]; exact blk_new2 _ _ _ _
  have on2 : Only No w W2 := by rw [hW2]; exact ((Only.refl _ _).alloc _).alloc _
  rw [← hW2]
  obtain ⟨g1, hg1⟩ : ∃ g1, g1 = w.heap.size := ⟨_, rfl⟩
  obtain ⟨g2, hg2⟩ : ∃ g2, g2 = w.heap.size + 1 := ⟨_, rfl⟩
  rw [← hg2] at b2 ⊢
  rw [← hg1] at b1 ⊢
  have gw : w.heap.size ≤ g2 := by omega
  have c0 : W2.cell? ⟨g1, 0, none⟩ = some (.int .u8 M) := b1.cell 0
  have c1 : W2.cell? ⟨g1, 1, none⟩ = some (.int .u8 m) := b1.cell 1
  have c2 : W2.cell? ⟨g1, 2, none⟩ = some (.int .u8 U) := b1.cell 2
  have c3 : W2.cell? ⟨g1, 3, none⟩ = some (.int .i64 X) := b1.cell 3
  have c4 : W2.cell? ⟨g1, 4, none⟩ = some (.int .i64 Y) := b1.cell 4
  have d0 : ∀ o p q, (((W2.alloc o).alloc p).alloc q).cell? ⟨g2, 0, none⟩ = some (.int .u8 0) := fun o p q => (((b2.alloc o).alloc p).alloc q).cell 0
  have d1 : ∀ o p q, (((W2.alloc o).alloc p).alloc q).cell? ⟨g2, 1, none⟩ = some (.string { data := #[] }) := fun o p q => (((b2.alloc o).alloc p).alloc q).cell 1
  have f0 : ∀ o p q, (((W2.alloc o).alloc p).alloc q).frozen? ⟨g2, 0, none⟩ = false := fun o p q => (((b2.alloc o).alloc p).alloc q).frozen 0
  have f1 : ∀ o p q, (((W2.alloc o).alloc p).alloc q).frozen? ⟨g2, 1, none⟩ = false := fun o p q => (((b2.alloc o).alloc p).alloc q).frozen 1
  have lt1 := b1.lt
  have lt2 := b2.lt
  replace on2 := Lib.hid on2
  replace b2 := Lib.hid b2
  replace gw := Lib.hid gw
  have g12 : Hid (g1 ≠ g2) := Lib.hid (by omega)
  replace b1 := Lib.hid b1
  clear hW2 hg1 hg2
  go_region_held (fun w' => w'.cell? ⟨g1, 0, none⟩ = some (.int .u8 M) ∧ w'.cell? ⟨g1, 1, none⟩ = some (.int .u8 m) ∧ w'.cell? ⟨g1, 2, none⟩ = some (.int .u8 U) ∧ w'.cell? ⟨g1, 3, none⟩ = some (.int .i64 X) ∧ w'.cell? ⟨g1, 4, none⟩ = some (.int .i64 Y))
    (first | exact dn_keep (by repeat' (first | exact b1.out | refine blk_drew ?_ | refine Blk.alloc ?_ _ | refine Blk.far ?_ g12.out _)) | go_keep)
    (first | (go_at_call 29; refine (two_any _ _).mono ?_; rintro e w' ⟨rfl, rfl⟩))
  all_goals go_wp2
  all_goals (try simp only [Exit.inBlock, Exit.then])
  all_goals refine bodyPost_ret (v := .agg #[.int .u8 224, .string (jfB M m U X Y)]) ?_ rfl ⟨rfl, ?_⟩
  all_goals first
    | exact ((((on2.out.alloc _).alloc _).alloc _).drew.setCell (p := ⟨g2, 0, none⟩) (.inr gw.out) _).setCell (p := ⟨g2, 1, none⟩) (.inr gw.out) _
    | exact results_cell_row rfl _ _ g2 36 #[.int .u8 224, .string (jfB M m U X Y)] (0, 0) _ rfl (blk_drew (((((b2.out.alloc _).alloc _).alloc _).set 0 _).set 1 _)) Try.underlying36 rfl size36
end Go.Proofs.Ytehnahikfemodaa.Ct
