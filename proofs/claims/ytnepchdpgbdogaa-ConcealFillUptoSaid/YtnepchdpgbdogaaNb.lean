/- The neighbour of a place in one direction: what it is, and that the closure finds it. -/
import Derived.Test.YtnepchdpgbdogaaHas
import Derived.StillTailTactics
namespace Go.Proofs.Ytnepchdpgbdogaa.Ct
open Go.ChangeShapes Go.WideShapes Go.RowKit Mm
/-- a block's cells -/
def blC (b : List Int) : List Value := b.map (Value.int .i16)
theorem blC_length (b : List Int) : (blC b).length = b.length := List.length_map _
def bsC (bs : List (List Int)) : List Value := bs.flatMap blC
/-- blocks are of 64 numbers of 16 bits -/
def Bls (bs : List (List Int)) : Prop := ∀ b ∈ bs, b.length = 64 ∧ ∀ v ∈ b, -32768 ≤ v ∧ v ≤ 32767
def dcs (bs : List (List Int)) (i : Nat) : Int := (bs.getD i []).getD 0 0
theorem bsC_length {bs : List (List Int)} (h : Bls bs) : (bsC bs).length = bs.length * 64 := by
  induction bs with
  | nil => rfl
  | cons b r ih =>
    have h1 := (h b (by simp)).1
    have h2 := ih (fun x hx => h x (by simp [hx]))
    simp only [bsC, List.flatMap_cons, List.length_append, blC_length, List.length_cons] at h2 ⊢
    omega
theorem bsC_get {bs : List (List Int)} (h : Bls bs) (i j : Nat) (hi : i < bs.length) (hj : j < 64) : (bsC bs)[i * 64 + j]? = some (.int .i16 ((bs.getD i []).getD j 0)) := by
  induction bs generalizing i with
  | nil => simp at hi
  | cons b r ih =>
    have h1 := (h b (by simp)).1
    have hr : Bls r := fun x hx => h x (by simp [hx])
    rcases i with _ | i
    · simp only [bsC, List.flatMap_cons]
      rw [List.getElem?_append_left (by rw [blC_length]; omega)]
      simp [blC, h1, hj]
    · simp only [bsC, List.flatMap_cons]
      rw [List.getElem?_append_right (by rw [blC_length]; omega), blC_length, show (i + 1) * 64 + j - b.length = i * 64 + j by omega]
      have := ih hr i (by simpa using hi)
      simpa [bsC] using this
theorem dcs_bounds {bs : List (List Int)} (h : Bls bs) (i : Nat) : -32768 ≤ dcs bs i ∧ dcs bs i ≤ 32767 := by
  unfold dcs
  by_cases hi : i < bs.length
  · have hb := h (bs[i]) (List.getElem_mem hi)
    rw [show bs.getD i [] = bs[i] by simp [hi]]
    have : (bs[i]).getD 0 0 ∈ bs[i] := by
      rw [show (bs[i]).getD 0 0 = (bs[i])[0]'(by omega) by simp [hb.1]]
      exact List.getElem_mem _
    exact hb.2 _ this
  · rw [show bs.getD i [] = [] by simp [List.getD, List.getElem?_eq_none (Nat.le_of_not_lt hi)]]
    simp
/-- the one of four directions -/
def Dir (dx dy : Int) : Prop := (dx = -1 ∧ dy = 0) ∨ (dx = 1 ∧ dy = 0) ∨ (dx = 0 ∧ dy = -1) ∨ (dx = 0 ∧ dy = 1)
/-- the neighbour in a direction: its DC, and how far it is -/
def nbF (W H : Nat) (l : List Bool) (D : Nat → Int) (x y dx dy : Int) : Nat → Nat → Option (Int × Nat)
  | 0, _ => none
  | f + 1, d => if inB W H (x + d * dx) (y + d * dy) = true then (if hasB W H l (x + d * dx) (y + d * dy) = true then nbF W H l D x y dx dy f (d + 1) else some (D ((y + d * dy) * W + (x + d * dx)).toNat, d)) else none
def nb (W H : Nat) (l : List Bool) (D : Nat → Int) (x y dx dy : Int) : Option (Int × Nat) := nbF W H l D x y dx dy 16384 1
def nbC (o : Option (Int × Nat)) : List Value := match o with | none => [] | some p => [.int .i64 p.1, .int .i64 p.2]
def nbN (o : Option (Int × Nat)) : Nat := match o with | none => 0 | some _ => 1
theorem nbF_out {W H : Nat} {l : List Bool} {D : Nat → Int} {x y dx dy : Int} {f d : Nat} (h : inB W H (x + d * dx) (y + d * dy) = false) : nbF W H l D x y dx dy f d = none := by
  cases f <;> simp [nbF, h]
theorem nbF_has {W H : Nat} {l : List Bool} {D : Nat → Int} {x y dx dy : Int} {f d : Nat} (h : inB W H (x + d * dx) (y + d * dy) = true) (hh : hasB W H l (x + d * dx) (y + d * dy) = true) : nbF W H l D x y dx dy (f + 1) d = nbF W H l D x y dx dy f (d + 1) := by
  simp [nbF, h, hh]
theorem nbF_not {W H : Nat} {l : List Bool} {D : Nat → Int} {x y dx dy : Int} {f d : Nat} (h : inB W H (x + d * dx) (y + d * dy) = true) (hh : hasB W H l (x + d * dx) (y + d * dy) = false) : nbF W H l D x y dx dy (f + 1) d = some (D ((y + d * dy) * W + (x + d * dx)).toNat, d) := by
  simp [nbF, h, hh]
theorem dir_mul {dx dy : Int} (h : Dir dx dy) (d : Nat) : -(d : Int) ≤ d * dx ∧ d * dx ≤ d ∧ -(d : Int) ≤ d * dy ∧ d * dy ≤ d := by
  rcases h with ⟨rfl, rfl⟩ | ⟨rfl, rfl⟩ | ⟨rfl, rfl⟩ | ⟨rfl, rfl⟩ <;> simp <;> omega
theorem dir_far {W H : Nat} (hW : W ≤ 8192) (hH : H ≤ 8192) {x y dx dy : Int} (hD : Dir dx dy) (hx : 0 ≤ x ∧ x < W) (hy : 0 ≤ y ∧ y < H) {d : Nat} (h : inB W H (x + d * dx) (y + d * dy) = true) : d < 8192 := by
  have h := of_decide_eq_true h
  rcases hD with ⟨rfl, rfl⟩ | ⟨rfl, rfl⟩ | ⟨rfl, rfl⟩ | ⟨rfl, rfl⟩ <;> simp at h <;> omega
theorem info74 : (Try.prog.info? 74).map (fun i => (i.zero, i.size, i.bytes)) = some (some (.agg #[.int .i64 0, .int .i64 0]), 2, 16) := by kernel_rfl
end Go.Proofs.Ytnepchdpgbdogaa.Ct
