/- Two blocks: are they equal? -/
import Derived.Test.YtnepchdpgbdogaaBk
import Derived.ChangeKeysEq
import Derived.Laws.StructEq
namespace Go.Proofs.Ytnepchdpgbdogaa.Ct
open Go.ChangeShapes Go.WideShapes Go.RowKit Mm
theorem plain35 : Try.prog.plainKey 35 = true := by kernel_rfl
theorem cells35 : Try.prog.cellsOf 35 = 1 := by kernel_rfl
theorem items35 (w : World) (d : Nat) (a b : List Int) (ha : a.length = 64) (hb : b.length = 64) : ∀ is : List Nat, (∀ i ∈ is, i < 64) →
    (Op.eqItems (d + 1) 35 1 (blC a).toArray (blC b).toArray is).run Try.prog w = .ok (is.all fun i => a.getD i 0 == b.getD i 0) w
  | [], _ => by simp [Op.eqItems]
  | i :: is, h => by
    have hi := h i (by simp)
    have p1 : (part 35 (blC a).toArray (i * 1)).run Try.prog w = .ok (.int .i16 (a.getD i 0)) w := run_part_plain w plain35 (by
      have : i < a.length := by omega
      simp [blC, this])
    have p2 : (part 35 (blC b).toArray (i * 1)).run Try.prog w = .ok (.int .i16 (b.getD i 0)) w := run_part_plain w plain35 (by
      have : i < b.length := by omega
      simp [blC, this])
    have p3 := run_equalIn_int (P := Try.prog) w d 35 .i16 .i16 (a.getD i 0) (b.getD i 0) Try.underlying35
    have ih := items35 w d a b ha hb is (fun j hj => h j (by simp [hj]))
    simp only [Op.eqItems, Sem.run_bind, p1, p2, p3, Result.andThen_ok, List.all_cons]
    cases hq : (a.getD i 0 == b.getD i 0)
    · simp
    · simpa using ih
theorem all_eq {a b : List Int} (ha : a.length = 64) (hb : b.length = 64) : ((List.range 64).all fun i => a.getD i 0 == b.getD i 0) = decide (a = b) := by
  rw [Bool.eq_iff_iff]
  simp only [List.all_eq_true, List.mem_range, beq_iff_eq, decide_eq_true_eq]
  constructor
  · intro h
    apply List.ext_getElem (by omega)
    intro i h1 h2
    have := h i (by omega)
    simpa [h1, h2] using this
  · rintro rfl
    intros
    rfl
theorem eql48 (w : World) (a b : List Int) (ha : a.length = 64) (hb : b.length = 64) : (binOp .eql 48 (.agg (blC a).toArray) (.agg (blC b).toArray)).run Try.prog w = .ok (.bool (decide (a = b))) w := by
  have hi : ∃ i, Try.prog.info? 35 = some i := by
    have h : (Try.prog.info? 35).isSome = true := by kernel_rfl
    exact Option.isSome_iff_exists.1 h
  obtain ⟨i, hi⟩ := hi
  rw [run_eql_struct, show (10000 : Nat) = 9999 + 1 from rfl, run_equalIn_array w 9999 _ _ Try.underlying48 hi, cells35, show (9999 : Nat) = 9998 + 1 from rfl, items35 w 9998 a b ha hb _ (fun j hj => List.mem_range.1 hj), all_eq ha hb]
  rfl
theorem neq48 (w : World) (a b : List Int) (ha : a.length = 64) (hb : b.length = 64) : (binOp .neq 48 (.agg (blC a).toArray) (.agg (blC b).toArray)).run Try.prog w = .ok (.bool (!decide (a = b))) w := by
  have hi : ∃ i, Try.prog.info? 35 = some i := by
    have h : (Try.prog.info? 35).isSome = true := by kernel_rfl
    exact Option.isSome_iff_exists.1 h
  obtain ⟨i, hi⟩ := hi
  rw [run_neq_struct, show (10000 : Nat) = 9999 + 1 from rfl, run_equalIn_array w 9999 _ _ Try.underlying48 hi, cells35, show (9999 : Nat) = 9998 + 1 from rfl, items35 w 9998 a b ha hb _ (fun j hj => List.mem_range.1 hj), all_eq ha hb]
  rfl
end Go.Proofs.Ytnepchdpgbdogaa.Ct
