/- same: two grids that are the same. -/
import Derived.Test.YtnepchdpgbdogaaTw
import Derived.Test.YtnepchdpgbdogaaEq
namespace Go.Proofs.Ytnepchdpgbdogaa.Ct
open Go.ChangeShapes Go.WideShapes Go.RowKit Mm
theorem guard48' : Try.prog.eqGuardType Try.prog.depth 48 = false := by kernel_rfl
section
variable {ops : Array Oper} {C : World → Prop} {rest : List Oper} {a : Act} {Q : Act → Prop} {d : Option Tmp} {x y : Operand} {ty : TypeId} {p : String} {af : Array Edge}
theorem wq_load48 (ad : Addr) (cs : List Value) (hx : a.eval x = .pointer (some ad)) (hl : cs.length = 64) (hc : ∀ w', C w' → ∀ j v, cs[j]? = some v → w'.cell? (ad.add j) = some v)
    (h : wpQuiet Try.prog ops C Q rest (a.put d (.agg cs.toArray))) : wpQuiet Try.prog ops C Q (⟨d, .load 48 x, ty, p, af, none⟩ :: rest) a :=
  wpQuiet_step fun K hK => by
  rw [if_pos (by simp [Region.wanted])]
  exact ⟨.agg cs.toArray, fun w' hw' => by
    unfold Oper.quietAt execOp
    simp only [hx, Instr.loadAt, Instr.sureAddr, Sem.run_bind, Sem.run_pure, Result.andThen_ok, run_load48 w' ad cs hl (hc w' hw')]
    exact ⟨rfl, rfl⟩, hK _ h⟩
theorem wq_neq48 (la lb : List Int) (hx : a.eval x = .agg (blC la).toArray) (hy : a.eval y = .agg (blC lb).toArray) (h1 : la.length = 64) (h2 : lb.length = 64)
    (h : wpQuiet Try.prog ops C Q rest (a.put d (.bool (!decide (la = lb))))) : wpQuiet Try.prog ops C Q (⟨d, .binOp .neq 48 x y 48, ty, p, af, none⟩ :: rest) a :=
  wpQuiet_step fun K hK => by
  rw [if_pos (by simp [Region.wanted])]
  exact ⟨.bool (!decide (la = lb)), fun w' hw' => by
    unfold Oper.quietAt execOp
    simp only [hx, hy, Sem.run_bind, run_eqGuard_agg w' .neq 48 x y _ _ guard48', neq48 w' la lb h1 h2, Result.andThen_ok]
    exact ⟨rfl, rfl⟩, hK _ h⟩
end
set_option maxHeartbeats 1600000 in
theorem same21_yes (w : World) (gw gh : Int) (A B : Option Addr) (c d n : Nat) (bs : List (List Int)) (hA : Rds w 64 A bs.length (bsC bs)) (hB : Rds w 64 B bs.length (bsC bs)) (hb : Bls bs) (hn : n = bs.length) (h64 : n ≤ 1048576) :
    Calls Try.prog 21 #[gridI gw gh A n c, gridI gw gh B n d] w fun e w' => e = .returned (.bool true) ∧ Only No w w' := by
  replace hA := Lib.hid hA
  replace hB := Lib.hid hB
  replace hb := Lib.hid hb
  replace hn := Lib.hid hn
  have d1 : (gw != gw) = false := by simp
  have d2 : (gh != gh) = false := by simp
  have d3 : ((n : Int) != (n : Int)) = false := by simp
  unfold gridI
  go_enter Try.func21, Try.ntmps21
  go_upto_region 1 with (fail)
  generalize hw1 : ((w.alloc (Obj.cells #[.int .i64 gw, .int .i64 gh, .slice A n c] 24)).alloc (Obj.cells #[.int .i64 gw, .int .i64 gh, .slice B n d] 24)) = w1
  have o1 : Hid (Only No w w1) := Lib.hid (by rw [← hw1]; exact ((Only.refl No w).alloc _).alloc _)
  have b1 : Blk w1 w.heap.size 24 #[.int .i64 gw, .int .i64 gh, .slice A n c] := by rw [← hw1]; exact (Blk.new _ _ _).alloc _
  have b2 : Blk w1 (w.heap.size + 1) 24 #[.int .i64 gw, .int .i64 gh, .slice B n d] := by rw [← hw1]; exact blk_new1' _ _ _ _
  clear hw1
  have c0 := b1.cell 0
  have c1 := b1.cell 1
  have c2 := b1.cell 2
  have e0 := b2.cell 0
  have e1 := b2.cell 1
  have e2 := b2.cell 2
  simp only [List.getElem?_toArray, List.getElem?_cons_zero, List.getElem?_cons_succ] at c0 c1 c2 e0 e1 e2
  replace b1 := Lib.hid b1
  replace b2 := Lib.hid b2
  go_wp2_with fail
  go_loopw [5] (fun v5 wr => ∃ i : Nat, v5 = .int .i64 i ∧ i ≤ n ∧ ∃ m, wr = w1.drewN m) (fun v5 _ => n - (intOf v5).toNat)
  case atStart => exact ⟨0, rfl, by omega, 0, rfl⟩
  case round =>
    obtain ⟨i, rfl, hi, m, rfl⟩ := hrel
    by_cases hlt : i < n
    · have hlt' : (i : Int) < n := by omega
      have hib : i < bs.length := by rw [← hn.out]; exact hlt
      obtain ⟨ad, rfl, hc1⟩ := bl_cells hb.out (hA.out.no o1.out) i hib
      obtain ⟨ad2, rfl, hc2⟩ := bl_cells hb.out (hB.out.no o1.out) i hib
      have hl := bl_len hb.out i hib
      have hl64 : (bs.getD i []).length = 64 := by rw [blC_length] at hl; exact hl
      generalize bs.getD i [] = b at hc1 hc2 hl hl64
      replace hc1 := Lib.hid hc1
      replace hc2 := Lib.hid hc2
      go_wp2_with fail
      refine wp_region_quiet_lit (by kernel_rfl) (by kernel_rfl) ?_
      repeat (first
        | ((with_reducible refine wq_load48 (ad.add (i * 64)) (blC b) ?_ hl (fun w' hw' => ?_) ?_)
           · rfl
           · obtain ⟨k, rfl⟩ := hw'
             exact hc1.out)
        | ((with_reducible refine wq_load48 (ad2.add (i * 64)) (blC b) ?_ hl (fun w' hw' => ?_) ?_)
           · rfl
           · obtain ⟨k, rfl⟩ := hw'
             exact hc2.out)
        | ((with_reducible refine wq_neq48 b b ?_ ?_ hl64 hl64 ?_)
           · rfl
           · rfl)
        | quiet_step (fail))
      refine wpQuiet_nil ?_
      intro _ hw'
      obtain ⟨nq, hw''⟩ := hw'
      subst hw''
      have hdd : (!decide (b = b)) = false := by simp
      go_wp2_with fail
      go_roundw
      case rel => exact ⟨i + 1, by go_num, by omega, _, rfl⟩
      case measure => simp [intOf]; omega
    · have hlt' : ¬ (i : Int) < n := by omega
      go_wp2_with fail
      go_ret
      exact ⟨by simp, o1.out.drewN _⟩
end Go.Proofs.Ytnepchdpgbdogaa.Ct
