/- JFIF segments. -/
import Derived.Test.YtehnahikfemodaaTwo
import Derived.Deep.RegionHeld3
namespace Go.Proofs.Ytehnahikfemodaa.Ct
open Go.ChangeShapes Go.WideShapes Go.RowKit Mm
/-- the text of a JFIF segment -/
def jfB (M m U X Y : Int) : ByteArray := ((({ data := #[74, 70, 73, 70, 0] } ++ strOfNums [M, m, U]) ++ strOfNums [clamp X / 256, clamp X % 256]) ++ strOfNums [clamp Y / 256, clamp Y % 256]) ++ { data := #[0, 0] }
abbrev dnC (M m U X Y : Int) : Array Value := #[.int .u8 M, .int .u8 m, .int .u8 U, .int .i64 X, .int .i64 Y]
theorem conv_at (W : World) (B : Nat) (xs : List Int) (n : Nat) (hn : xs.length = n) (h : ∀ i, i < n → W.cell? ⟨B, i, none⟩ = some (.int .u8 (xs.getD i 0))) : (convert 31 9 (.slice (some ⟨B, 0, none⟩) n n)).run Try.prog W = .ok (.string (strOfNums xs)) W :=
  run_convert_bytes_arg _ 31 5 Try.underlying31 Try.underlying5 B 0 n n xs hn (fun i hi => by rw [Nat.zero_add]; exact h i hi) 9 Try.underlying9
theorem conv3 (W : World) (B : Nat) (x y z : Int) (hB : B = W.heap.size) : (convert 31 9 (.slice (some ⟨B, 0, none⟩) 3 3)).run Try.prog (W.alloc (.cells #[.int .u8 x, .int .u8 y, .int .u8 z] 5)).drew = .ok (.string (strOfNums [x, y, z])) (W.alloc (.cells #[.int .u8 x, .int .u8 y, .int .u8 z] 5)).drew := by
  subst hB
  refine conv_at _ _ [x, y, z] 3 rfl fun i hi => ?_
  rw [show (W.alloc (.cells #[.int .u8 x, .int .u8 y, .int .u8 z] 5)).drew.cell? ⟨W.heap.size, i, none⟩ = _ from (Blk.new W 5 _).cell i]
  match i, hi with
  | 0, _ => rfl
  | 1, _ => rfl
  | 2, _ => rfl
theorem conv3a (W : World) (B : Nat) (o : Obj) (x y z : Int) (hB : B = W.heap.size) : (convert 31 9 (.slice (some ⟨B, 0, none⟩) 3 3)).run Try.prog ((W.alloc (.cells #[.int .u8 x, .int .u8 y, .int .u8 z] 5)).alloc o).drew = .ok (.string (strOfNums [x, y, z])) ((W.alloc (.cells #[.int .u8 x, .int .u8 y, .int .u8 z] 5)).alloc o).drew := by
  subst hB
  refine conv_at _ _ [x, y, z] 3 rfl fun i hi => ?_
  rw [show ((W.alloc (.cells #[.int .u8 x, .int .u8 y, .int .u8 z] 5)).alloc o).drew.cell? ⟨W.heap.size, i, none⟩ = _ from ((Blk.new W 5 _).alloc o).cell i]
  match i, hi with
  | 0, _ => rfl
  | 1, _ => rfl
  | 2, _ => rfl
theorem conv3b (W : World) (B : Nat) (o p : Obj) (x y z : Int) (hB : B = W.heap.size) : (convert 31 9 (.slice (some ⟨B, 0, none⟩) 3 3)).run Try.prog (((W.alloc (.cells #[.int .u8 x, .int .u8 y, .int .u8 z] 5)).alloc o).alloc p).drew = .ok (.string (strOfNums [x, y, z])) (((W.alloc (.cells #[.int .u8 x, .int .u8 y, .int .u8 z] 5)).alloc o).alloc p).drew := by
  subst hB
  refine conv_at _ _ [x, y, z] 3 rfl fun i hi => ?_
  rw [show (((W.alloc (.cells #[.int .u8 x, .int .u8 y, .int .u8 z] 5)).alloc o).alloc p).drew.cell? ⟨W.heap.size, i, none⟩ = _ from (((Blk.new W 5 _).alloc o).alloc p).cell i]
  match i, hi with
  | 0, _ => rfl
  | 1, _ => rfl
  | 2, _ => rfl
theorem size36 : (Try.prog.info? 36).map (·.size) = some 2 := by kernel_rfl
theorem blk_drew {W : World} {g : Nat} {t : TypeId} {cs : Array Value} (h : Blk W g t cs) : Blk W.drew g t cs := h
theorem dn_keep {W : World} {g : Nat} {M m U X Y : Int} (h : Blk W g 30 (dnC M m U X Y)) : W.cell? ⟨g, 0, none⟩ = some (.int .u8 M) ∧ W.cell? ⟨g, 1, none⟩ = some (.int .u8 m) ∧ W.cell? ⟨g, 2, none⟩ = some (.int .u8 U) ∧ W.cell? ⟨g, 3, none⟩ = some (.int .i64 X) ∧ W.cell? ⟨g, 4, none⟩ = some (.int .i64 Y) :=
  ⟨h.cell 0, h.cell 1, h.cell 2, h.cell 3, h.cell 4⟩
end Go.Proofs.Ytehnahikfemodaa.Ct
