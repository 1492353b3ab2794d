/- Maps of damage: how often each block is covered: the counting. -/
import Derived.Test.YtclidonogebgkaaCv
namespace Go.Proofs.Ytclidonogebgkaa.Ct
open Go.ChangeShapes Go.WideShapes Go.RowKit Mm
/-- counts as cells -/
def tmC (n : Nat) (f : Nat → Nat) : List Value := (List.range n).map fun i => .int .i64 (f i : Nat)
theorem tmC_len (n : Nat) (f : Nat → Nat) : (tmC n f).length = n := by simp [tmC]
theorem tmC_get {n : Nat} (f : Nat → Nat) {i : Nat} (h : i < n) : (tmC n f)[i]? = some (.int .i64 (f i : Nat)) := by simp [tmC, h]
theorem tmC_congr {n : Nat} {f g : Nat → Nat} (h : ∀ i, i < n → f i = g i) : tmC n f = tmC n g := by
  unfold tmC
  exact List.map_congr_left fun i hi => by rw [h i (List.mem_range.1 hi)]
theorem tmC_set {n : Nat} {f g : Nat → Nat} {k : Nat} (h1 : g k = f k + 1) (h2 : ∀ i, i < n → i ≠ k → g i = f i) : (tmC n f).set k (.int .i64 ((f k + 1 : Nat) : Int)) = tmC n g := by
  apply List.ext_getElem
  · simp [tmC]
  intro i a b
  have hi : i < n := by simpa [tmC] using b
  rw [List.getElem_set]
  split
  · rename_i e
    subst e
    simp [tmC, h1]
  · rename_i e
    simp [tmC, h2 i hi (fun e' => e e'.symm)]
/-- counted so far, inside a rectangle -/
def inP (W : Nat) (b : Bx) (y x p : Nat) : Bool := decide ((b.y ≤ p / W ∧ p / W < y ∧ b.x ≤ p % W ∧ p % W < b.x + b.a) ∨ (p / W = y ∧ b.x ≤ p % W ∧ p % W < x))
def cf (W : Nat) (bs : List Bx) (b : Bx) (y x p : Nat) : Nat := tms W bs p + if inP W b y x p then 1 else 0
theorem cf_start (W : Nat) (bs : List Bx) (b : Bx) (p : Nat) : cf W bs b b.y b.x p = tms W bs p := by
  unfold cf
  rw [if_neg (by unfold inP; simp; omega)]
  rfl
theorem div_at {W : Nat} {x y : Nat} (hx : x < W) : (W * y + x) / W = y ∧ (W * y + x) % W = x := by
  have hW : 0 < W := by omega
  refine ⟨?_, ?_⟩
  · rw [Nat.mul_add_div hW, Nat.div_eq_of_lt hx, Nat.add_zero]
  · rw [Nat.mul_add_mod, Nat.mod_eq_of_lt hx]
theorem at_div {W p : Nat} : W * (p / W) + p % W = p := Nat.div_add_mod p W
theorem cf_at {W : Nat} (bs : List Bx) (b : Bx) {y x : Nat} (hx : x < W) : cf W bs b y x (W * y + x) = tms W bs (W * y + x) := by
  obtain ⟨e1, e2⟩ := div_at (y := y) hx
  unfold cf
  rw [if_neg (by unfold inP; rw [e1, e2]; simp)]
  rfl
theorem cf_next {W : Nat} (bs : List Bx) (b : Bx) {y x : Nat} (hx : x < W) (hbx : b.x ≤ x) : cf W bs b y (x + 1) (W * y + x) = cf W bs b y x (W * y + x) + 1 := by
  rw [cf_at bs b hx]
  obtain ⟨e1, e2⟩ := div_at (y := y) hx
  unfold cf
  rw [if_pos (by unfold inP; rw [e1, e2]; simp [hbx])]
theorem cf_else {W : Nat} (bs : List Bx) (b : Bx) {y x : Nat} (p : Nat) (hp : p ≠ W * y + x) : cf W bs b y (x + 1) p = cf W bs b y x p := by
  unfold cf
  have : inP W b y (x + 1) p = inP W b y x p := by
    unfold inP
    rw [decide_eq_decide]
    have : ¬ (p / W = y ∧ p % W = x) := fun ⟨h1, h2⟩ => hp (by rw [← h1, ← h2]; exact at_div.symm)
    omega
  rw [this]
theorem cf_row {W : Nat} (bs : List Bx) (b : Bx) {y : Nat} (hy : b.y ≤ y) (p : Nat) : cf W bs b y (b.x + b.a) p = cf W bs b (y + 1) b.x p := by
  unfold cf
  have : inP W b y (b.x + b.a) p = inP W b (y + 1) b.x p := by
    unfold inP
    rw [decide_eq_decide]
    omega
  rw [this]
theorem cf_end {W : Nat} (bs : List Bx) (b : Bx) (p : Nat) : cf W bs b (b.y + b.b) b.x p = tms W (bs ++ [b]) p := by
  unfold cf tms
  rw [List.countP_append, List.countP_singleton]
  have : inP W b (b.y + b.b) b.x p = inBx W b p := by
    unfold inP inBx
    rw [decide_eq_decide]
    omega
  rw [this]
theorem tms_le (W : Nat) (bs : List Bx) (p : Nat) : tms W bs p ≤ bs.length := List.countP_le_length
theorem madeT (n : Nat) : (madeCells (Value.int .i64 0).cells (n * 1)).toList = tmC n (fun _ => 0) := by
  rw [Nat.mul_one, show (Value.int .i64 0).cells = #[Value.int .i64 0] from rfl, toList_madeCells_one]
  unfold tmC
  rw [List.map_const', List.length_range]
  rfl
theorem take_succ' {bs : List Bx} {i : Nat} (h : i < bs.length) : bs.take (i + 1) = bs.take i ++ [bs[i]] := List.take_succ_eq_append_getElem h
end Go.Proofs.Ytclidonogebgkaa.Ct
