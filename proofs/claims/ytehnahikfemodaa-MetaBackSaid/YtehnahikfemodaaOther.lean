/- A segment that says nothing to any question. -/
import Derived.Test.YtehnahikfemodaaCm
import Derived.Laws.Rows
namespace Go.Proofs.Ytehnahikfemodaa.Ct
open Go.ChangeShapes Go.WideShapes Go.RowKit Mm
def otherC (c : Int) : Int := if c = 224 ∨ c = 225 ∨ c = 226 ∨ c = 238 ∨ c = 254 then 229 else c
theorem otherSize : (Try.prog.info? 36).map (·.size) = some 2 := by kernel_rfl
set_option maxHeartbeats 1600000 in
theorem other_any (x : Ex) (w : World) : Calls Try.prog 26 #[.agg #[.int .u8 x.1, .string x.2]] w fun e w' => e = .returned (.agg #[.int .u8 (otherC x.1), .string x.2]) ∧ Only No w w' := by
  by_cases hc : x.1 = 224 ∨ x.1 = 225 ∨ x.1 = 226 ∨ x.1 = 238 ∨ x.1 = 254
  · have ho : otherC x.1 = 229 := by unfold otherC; rw [if_pos hc]
    rw [ho]
    rcases hc with h | h | h | h | h
    all_goals
      rw [h]
      go_enter Try.func26, Try.ntmps26
      go_wp2
      (try simp only [Exit.inBlock, Exit.then])
      refine bodyPost_ret (v := .agg #[.int .u8 229, .string x.2]) ?_ rfl ⟨rfl, ?_⟩
      · exact results_cell_row rfl _ _ (w.heap.size + 1) 36 #[.int .u8 229, .string x.2] (0, 0) _ rfl (by simpa using heap_alloc_new (w.alloc (.cells #[.int .u8 229, .string x.2] 36)) _) Try.underlying36 rfl otherSize
      · exact ((Only.refl _ _).alloc _).alloc _
  · have ho : otherC x.1 = x.1 := by unfold otherC; rw [if_neg hc]
    have e1 : (x.1 == 224) = false := by rw [beq_eq_false_iff_ne]; omega
    have e2 : (x.1 == 225) = false := by rw [beq_eq_false_iff_ne]; omega
    have e3 : (x.1 == 226) = false := by rw [beq_eq_false_iff_ne]; omega
    have e4 : (x.1 == 238) = false := by rw [beq_eq_false_iff_ne]; omega
    have e5 : (x.1 == 254) = false := by rw [beq_eq_false_iff_ne]; omega
    rw [ho]
    clear ho hc
    go_enter Try.func26, Try.ntmps26
    go_wp2
    (try simp only [Exit.inBlock, Exit.then])
    refine bodyPost_ret (v := .agg #[.int .u8 x.1, .string x.2]) ?_ rfl ⟨rfl, ?_⟩
    · exact results_cell_row rfl _ _ (w.heap.size + 1) 36 #[.int .u8 x.1, .string x.2] (0, 0) _ rfl (by simpa using heap_alloc_new (w.alloc (.cells #[.int .u8 x.1, .string x.2] 36)) _) Try.underlying36 rfl otherSize
    · exact ((Only.refl _ _).alloc _).alloc _
end Go.Proofs.Ytehnahikfemodaa.Ct
