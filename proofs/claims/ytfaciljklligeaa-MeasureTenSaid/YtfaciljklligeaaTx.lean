/- The law's two. -/
import Derived.Test.YtfaciljklligeaaTz
import Derived.Test.YtfaciljklligeaaDb
import Derived.Test.YtfaciljklligeaaRo
namespace Go.Proofs.Ytfaciljklligeaa.Ct
open Go.ChangeShapes Go.WideShapes Go.RowKit Mm
def TwoPost (a b : Nat) (w : World) (e : Ending) (w' : World) : Prop :=
  ∃ A c, e = .returned (imgV 2 1 1 A 2 c) ∧ (∀ w2, Only No w' w2 → Rds w2 1 A 2 (byC [a, b])) ∧ Only No w w'
set_option maxHeartbeats 800000 in
theorem two37 (w : World) (a b : Nat) : Calls Try.prog 37 #[.int .u8 a, .int .u8 b] w (TwoPost a b w) := by
  go_enter Try.func37, Try.ntmps37
  go_wp2_with fail
  have B1 := Blk.new w 32 #[Value.int IntKind.i64 2, Value.int IntKind.i64 1, Value.int IntKind.i64 1, Value.slice (some { block := w.heap.size + 1, off := 0 }) 2 2]
  have O1 := (Only.refl No w).alloc (.cells #[Value.int IntKind.i64 2, Value.int IntKind.i64 1, Value.int IntKind.i64 1, Value.slice (some { block := w.heap.size + 1, off := 0 }) 2 2] 32)
  have hs : (w.alloc (.cells #[Value.int IntKind.i64 2, Value.int IntKind.i64 1, Value.int IntKind.i64 1, Value.slice (some { block := w.heap.size + 1, off := 0 }) 2 2] 32)).heap.size = w.heap.size + 1 := by simp
  generalize (w.alloc (.cells #[Value.int IntKind.i64 2, Value.int IntKind.i64 1, Value.int IntKind.i64 1, Value.slice (some { block := w.heap.size + 1, off := 0 }) 2 2] 32)) = w1 at *
  have B2 := Blk.new w1 5 #[Value.int IntKind.u8 a, Value.int IntKind.u8 b]
  have B1' := B1.alloc (.cells #[Value.int IntKind.u8 a, Value.int IntKind.u8 b] 5)
  have O2 := O1.alloc (.cells #[Value.int IntKind.u8 a, Value.int IntKind.u8 b] 5)
  generalize (w1.alloc (.cells #[Value.int IntKind.u8 a, Value.int IntKind.u8 b] 5)) = w2 at *
  rw [hs] at B2
  have hR := Rds.fresh (size := 1) (n := 2) B2 rfl
  obtain ⟨r0, r1, r2, r3⟩ := cells4 B1'
  refine bodyPost_ret (v := .agg #[.int .i64 2, .int .i64 1, .int .i64 1, .slice (some ⟨w.heap.size + 1, 0, none⟩) 2 2]) ?_ rfl ⟨_, _, rfl, fun w3 o => hR.no o, O2⟩
  simp only [results, show Try.f37.results = #[.cell 4 32] from rfl]
  go_simp
end Go.Proofs.Ytfaciljklligeaa.Ct
