/- Piles: the order by which they are sorted. -/
import Derived.Test.YtjkeampckinniaaPa
import Derived.WalkLawsBesides
import Derived.LoopTactic
import Derived.IntWalk
import Derived.Deep.QuietTactic
import Derived.BigQuiet
import Derived.StillTailTactics
import Derived.WalkSpells
import Derived.Lib.LazyBuf
import Derived.Deep.RegionHeld3
import Derived.Shelf.SlSortCmp.Kit1
namespace Go.Proofs.Ytjkeampckinniaa.Ct
open Go.ChangeShapes Go.WideShapes Go.RowKit Mm
def cmpI (a b : Int) : Int := if a < b then -1 else if b < a then 1 else 0
theorem nan76 (w : World) (a : Int) : Calls Try.prog 76 #[.int .i64 a] w fun e w' => e = .returned (.bool false) ∧ w' = w := by
  have h1 : ((a != a) : Bool) = false := by simp
  go_enter Try.func76, Try.ntmps76
  go_wp2_with fail
  go_ret
  exact ⟨rfl, rfl⟩
theorem cmp62 (w : World) (a b : Int) : Calls Try.prog 62 #[.int .i64 a, .int .i64 b] w fun e w' => e = .returned (.int .i64 (cmpI a b)) ∧ w' = w := by
  have hn := Lib.hid nan76
  unfold cmpI
  by_cases h1 : a < b
  · rw [if_pos h1]
    go_enter Try.func62, Try.ntmps62
    go_wp2_with (go_at_call 76; refine (hn.out _ _).mono ?_; rintro e w' ⟨rfl, rfl⟩)
    go_ret
    exact ⟨rfl, rfl⟩
  · rw [if_neg h1]
    by_cases h2 : b < a
    · rw [if_pos h2]
      go_enter Try.func62, Try.ntmps62
      go_wp2_with (go_at_call 76; refine (hn.out _ _).mono ?_; rintro e w' ⟨rfl, rfl⟩)
      go_ret
      exact ⟨rfl, rfl⟩
    · rw [if_neg h2]
      go_enter Try.func62, Try.ntmps62
      go_wp2_with (go_at_call 76; refine (hn.out _ _).mono ?_; rintro e w' ⟨rfl, rfl⟩)
      go_ret
      exact ⟨rfl, rfl⟩
def orI (a b : Int) : Int := if a = 0 then b else a
theorem or61 (w : World) (g : Nat) (a b : Int) (h0 : w.cell? ⟨g, 0, none⟩ = some (.int .i64 a)) (h1 : w.cell? ⟨g, 1, none⟩ = some (.int .i64 b)) : Calls Try.prog 61 #[.slice (some ⟨g, 0, none⟩) 2 2] w fun e w' => e = .returned (.int .i64 (orI a b)) ∧ w' = w := by
  unfold orI
  by_cases ha : a = 0
  · subst ha
    rw [if_pos rfl]
    by_cases hb : b = 0
    · subst hb
      go_enter Try.func61, Try.ntmps61
      go_wp2_with fail
      refine wp_loop_rounds 3 ?_
      rw [rounds_succ]
      go_wp2_with fail
      rw [rounds_succ]
      go_wp2_with fail
      rw [rounds_succ]
      go_wp2_with fail
      go_ret
      exact ⟨rfl, rfl⟩
    · have hb1 : (b != 0) = true := by simpa using hb
      go_enter Try.func61, Try.ntmps61
      go_wp2_with fail
      refine wp_loop_rounds 2 ?_
      rw [rounds_succ]
      go_wp2_with fail
      rw [rounds_succ]
      go_wp2_with fail
      go_ret
      exact ⟨rfl, rfl⟩
  · rw [if_neg ha]
    have ha1 : (a != 0) = true := by simpa using ha
    go_enter Try.func61, Try.ntmps61
    go_wp2_with fail
    refine wp_loop_rounds 1 ?_
    rw [rounds_succ]
    go_wp2_with fail
    go_ret
    exact ⟨rfl, rfl⟩
theorem alloc_grow (w : World) (o : Obj) : (w.alloc o).drew = Go.Sort.grow (w.drewN 1) #[o] := by
  unfold World.alloc World.drew World.drewN Go.Sort.grow
  simp
/-- which pile comes first -/
def cfP (w1 t1 w2 t2 : Nat) : Int := orI (cmpI w1 w2) (cmpI t2 t1)
set_option maxHeartbeats 1000000 in
theorem less60 (w : World) (g1 g2 w1 t1 w2 t2 : Nat) (x1 x2 y1 y2 : Value) (hb1 : Blk w g1 121 #[.int .i64 w1, .int .i64 t1, x1, y1]) (hb2 : Blk w g2 121 #[.int .i64 w2, .int .i64 t2, x2, y2]) :
    Calls Try.prog 60 #[P g1, P g2] w fun e w' => e = .returned (.int .i64 (cfP w1 t1 w2 t2)) ∧ ∃ q os, w' = Go.Sort.grow (w.drewN q) os := by
  have hS : Hid (∀ w', Only No w w' → (w'.cell? ⟨g1, 0, none⟩ = some (.int .i64 w1) ∧ w'.cell? ⟨g1, 1, none⟩ = some (.int .i64 t1)) ∧ w'.cell? ⟨g2, 0, none⟩ = some (.int .i64 w2) ∧ w'.cell? ⟨g2, 1, none⟩ = some (.int .i64 t2)) := Lib.hid fun w' o => by
    have k1 := hb1.only o id
    have k2 := hb2.only o id
    refine ⟨⟨?_, ?_⟩, ?_, ?_⟩
    · have := k1.cell 0; simpa using this
    · have := k1.cell 1; simpa using this
    · have := k2.cell 0; simpa using this
    · have := k2.cell 1; simpa using this
  have hc1 := Lib.hid (fun w => cmp62 w (w1 : Int) (w2 : Int))
  have hc2 := Lib.hid (fun w => cmp62 w (t2 : Int) (t1 : Int))
  unfold cfP
  generalize cmpI w1 w2 = A at *
  generalize cmpI t2 t1 = B at *
  have q0 : Only No w w := Only.refl No w
  clear hb1 hb2
  go_enter Try.func60, Try.ntmps60
  go_wp2_with fail
  go_region_held3 (fun w' => Only No w w' ∧ (w'.cell? ⟨g1, 0, none⟩ = some (.int .i64 w1) ∧ w'.cell? ⟨g1, 1, none⟩ = some (.int .i64 t1)) ∧ w'.cell? ⟨g2, 0, none⟩ = some (.int .i64 w2) ∧ w'.cell? ⟨g2, 1, none⟩ = some (.int .i64 t2))
    (first
      | (with_reducible refine ⟨?_, hS.out _ ?_⟩ <;> (repeat (first | exact q0 | refine Only.drew ?_ | refine Only.alloc ?_ _))))
    (first
      | (go_at_call 62; (with_reducible refine (hc1.out _).mono ?_); rintro e w3 ⟨rfl, rfl⟩)
      | (go_at_call 62; (with_reducible refine (hc2.out _).mono ?_); rintro e w4 ⟨rfl, rfl⟩)
      | (go_at_call 61; ((with_reducible refine (or61 _ _ A B ?c1 ?c2).mono ?_); (case c1 => exact (Blk.new _ _ #[.int .i64 A, .int .i64 B]).cell 0); (case c2 => exact (Blk.new _ _ #[.int .i64 A, .int .i64 B]).cell 1); rintro e w5 ⟨rfl, rfl⟩)))
  all_goals go_wp2_with fail
  all_goals go_ret
  all_goals exact ⟨rfl, 1, #[.cells #[.int .i64 A, .int .i64 B] 3], alloc_grow _ _⟩
end Go.Proofs.Ytjkeampckinniaa.Ct
