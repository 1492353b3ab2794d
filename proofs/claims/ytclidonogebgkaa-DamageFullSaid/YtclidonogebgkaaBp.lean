/- Maps of damage: what is written comes back: the plain law. -/
import Derived.Test.YtclidonogebgkaaAw
namespace Go.Proofs.Ytclidonogebgkaa.Ct
open Go.ChangeShapes Go.WideShapes Go.RowKit Mm
def mkLn (x : List UInt8) : Ln := ⟨x.take 8192, by rw [List.length_take]; exact Nat.min_le_left _ _⟩
theorem mkLn_eq {x : List UInt8} (h : x.length ≤ 8192) : (mkLn x).1 = x := List.take_of_length_le h
def rowL (W : Nat) (l : List Bool) (y : Nat) : List Bool := (l.drop (y * W)).take W
def lnsOf (W : Nat) (l : List Bool) (H : Nat) : List Ln := (List.range H).map fun y => mkLn ((rowL W l y).map ch)
theorem rowL_le (W : Nat) (l : List Bool) (y : Nat) : (rowL W l y).length ≤ W := by simp [rowL]; omega
theorem lnsOf_succ (W : Nat) (l : List Bool) (H : Nat) : lnsOf W l (H + 1) = lnsOf W l H ++ [mkLn ((rowL W l H).map ch)] := by simp [lnsOf, List.range_succ]
theorem lnsOf_len (W : Nat) (l : List Bool) (H : Nat) : (lnsOf W l H).length = H := by simp [lnsOf]
theorem flat_app (a b : List Ln) : flat (a ++ b) = flat a ++ flat b := by simp [flat]
theorem flat_lns {W : Nat} (hW : W ≤ 8192) (l : List Bool) (H : Nat) : flat (lnsOf W l H) = txt W l H := by
  induction H with
  | zero => rfl
  | succ H ih =>
    rw [lnsOf_succ, flat_app, ih]
    show _ = txt W l H ++ rowT W l H
    congr 1
    have : (mkLn ((rowL W l H).map ch)).1 = (rowL W l H).map ch := mkLn_eq (by rw [List.length_map]; exact Nat.le_trans (rowL_le W l H) hW)
    simp only [flat, List.flatMap_cons, List.flatMap_nil, List.append_nil, this]
    rfl
theorem ch_ne (b : Bool) : ch b ≠ 10 := by cases b <;> decide
theorem no10 {W : Nat} (hW : W ≤ 8192) (l : List Bool) (H : Nat) : ∀ x ∈ lnsOf W l H, (10 : UInt8) ∉ x.1 := by
  intro x hx hc
  obtain ⟨y, _, rfl⟩ := List.mem_map.1 hx
  rw [mkLn_eq (by rw [List.length_map]; exact Nat.le_trans (rowL_le W l y) hW)] at hc
  obtain ⟨b, _, hb⟩ := List.mem_map.1 hc
  exact ch_ne b hb
theorem ch_ok (b : Bool) : okc (ch b) = true := by cases b <;> decide
theorem ch_back (b : Bool) : (ch b == 35) = b := by cases b <;> decide
theorem row_ok (r : List Bool) : (r.map ch).all okc = true := by
  rw [List.all_eq_true]
  intro x hx
  obtain ⟨b, _, rfl⟩ := List.mem_map.1 hx
  exact ch_ok b
theorem row_back (r : List Bool) : (r.map ch).map (· == 35) = r := by
  rw [List.map_map]
  conv => rhs; rw [← List.map_id r]
  exact List.map_congr_left fun b _ => ch_back b
theorem rowL_len {W H : Nat} {l : List Bool} (hl : l.length = W * H) {y : Nat} (hy : y < H) : (rowL W l y).length = W := by
  have : y * W + W ≤ l.length := by
    rw [hl, Nat.mul_comm W H, ← Nat.succ_mul]
    exact Nat.mul_le_mul_right _ hy
  simp [rowL]
  omega
theorem read_lns {W H : Nat} {l : List Bool} (hW : W ≤ 8192) (hl : l.length = W * H) (y : Nat) (hy : y ≤ H) : rdL (lnsOf W l y) = some ⟨if y = 0 then 0 else W, y, l.take (y * W)⟩ := by
  induction y with
  | zero => simp [lnsOf, rdL, rdG]
  | succ y ih =>
    have hrl := rowL_len hl (show y < H by omega)
    rw [lnsOf_succ, rdL_snoc, ih (by omega)]
    show rd1 _ _ = _
    rw [mkLn_eq (by rw [List.length_map, hrl]; exact hW)]
    unfold rd1
    rw [if_neg (by
      rintro ⟨h1, h2⟩
      have h1 : 0 < y := h1
      rw [List.length_map, hrl] at h2
      simp [show y ≠ 0 by omega] at h2), if_pos (row_ok _), row_back, List.length_map, hrl, show (if y + 1 = 0 then 0 else W) = W from if_neg (Nat.succ_ne_zero y)]
    congr 2
    show l.take (y * W) ++ (l.drop (y * W)).take W = l.take ((y + 1) * W)
    rw [Nat.succ_mul, List.take_add]
end Go.Proofs.Ytclidonogebgkaa.Ct
