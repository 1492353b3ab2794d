/- Maps of damage: words; what is asked of them. -/
import Derived.Test.YtclidonogebgkaaRows
import Derived.Test.YtclidonogebgkaaMem
import Derived.WalkKit
import Derived.WalkLawsBesides
import Derived.LoopTactic
import Derived.Lib.Hide
import Derived.Outline
import Derived.IntWalk
import Derived.Laws.BitsLemmas
import Derived.Deep.QuietTactic
import Derived.BigQuiet
import Derived.StillTailTactics
import Derived.WalkSpells
import Derived.Lib.LazyBuf
namespace Go.Proofs.Ytclidonogebgkaa.Ct
open Go.ChangeShapes Go.WideShapes Go.RowKit Mm
abbrev P (g : Nat) : Value := .pointer (some ⟨g, 0, none⟩)
def boC (l : List Bool) : List Value := l.map Value.bool
theorem boC_length (l : List Bool) : (boC l).length = l.length := by simp [boC]
theorem boC_one (l : List Bool) : ∀ u ∈ boC l, u.oneCell' = true := by
  intro u hu
  obtain ⟨_, _, rfl⟩ := List.mem_map.1 hu
  rfl
theorem boC_get {l : List Bool} {k : Nat} (h : k < l.length) : (boC l)[k]? = some (.bool (l.getD k false)) := by simp [boC, h]
theorem boC_set (l : List Bool) (i : Nat) (b : Bool) : boC (l.set i b) = (boC l).set i (.bool b) := by unfold boC; rw [List.map_set]
/-- how many are flagged -/
def cnt (l : List Bool) : Nat := l.count true
/-- the blocks of a map -/
def Sm (g : Nat) (A : Option Addr) : Nat → Prop := fun k => k = g ∨ ∃ ad, A = some ad ∧ ad.block = k
def mapC (W H : Nat) (A : Option Addr) (c : Nat) (l : List Bool) (n : Nat) : Array Value := #[.int .i64 W, .int .i64 H, .slice A l.length c, .int .i64 n]
/-- block g is a map of W columns and H rows with the flags l, which lie at A -/
structure MapN (w : World) (g : Nat) (A : Option Addr) (c W H : Nat) (l : List Bool) (n : Nat) : Prop where
  blk : Blk w g 54 (mapC W H A c l n)
  own : w.ownsRow 0 4 1 (.slice A l.length c) l.length (boC l)
  len : l.length = W * H
  w8 : W ≤ 8192
  h8 : H ≤ 8192
abbrev MapAt (w : World) (g : Nat) (A : Option Addr) (c W H : Nat) (l : List Bool) : Prop := MapN w g A c W H l (cnt l)
section
variable {S : Nat → Prop} {w w' : World} {g : Nat} {A : Option Addr} {c W H n : Nat} {l : List Bool}
theorem MapN.only (h : MapN w g A c W H l n) (ho : Only S w w') (hS : ∀ k, Sm g A k → ¬ S k) : MapN w' g A c W H l n :=
  ⟨h.blk.only ho (hS g (.inl rfl)), own_only h.own ho (fun i hi => hS i (.inr (by
    obtain ⟨ad, e⟩ : ∃ ad, A = some ad := by
      cases A with
      | none => simp [Value.ownBlock] at hi
      | some ad => exact ⟨ad, rfl⟩
    subst e
    simp [Value.ownBlock] at hi
    exact ⟨ad, rfl, hi⟩))), h.len, h.w8, h.h8⟩
theorem MapN.no (h : MapN w g A c W H l n) (ho : Only No w w') : MapN w' g A c W H l n := h.only ho fun _ _ => id
theorem MapN.drewN (h : MapN w g A c W H l n) (m : Nat) : MapN (w.drewN m) g A c W H l n := h.no ((Only.refl No w).drewN m)
theorem MapN.le (h : MapN w g A c W H l n) : l.length ≤ 67108864 := by
  have := Nat.mul_le_mul h.w8 h.h8
  have := h.len
  omega
theorem MapN.rds (h : MapN w g A c W H l n) : Rds w 1 A l.length (boC l) := Rds.of_own h.own
theorem MapN.nil (h : MapN w g A c W H l n) : A = none → l.length = 0 := by
  rintro rfl
  rcases h.own.2 with ⟨_, h0⟩ | ⟨g', cap, cur, hv, _⟩
  · exact h0
  · simp at hv
theorem MapN.ne (h : MapN w g A c W H l n) : ∀ ad, A = some ad → ad.block ≠ g := by
  rintro ad rfl e
  refine own_blk h.own h.blk (by decide) ?_
  rcases h.own.2 with ⟨hv, _⟩ | ⟨g', cap, cur, hv, _⟩
  · simp at hv
  · simp at hv
    obtain ⟨hv, _⟩ := hv
    subst hv
    simp [Value.ownBlock]
    exact e
theorem MapN.lt (h : MapN w g A c W H l n) : ∀ k, Sm g A k → k < w.heap.size := by
  rintro k (rfl | ⟨ad, rfl, rfl⟩)
  · exact h.blk.lt
  · rcases h.own.2 with ⟨hv, _⟩ | ⟨g', cap, cur, hv, _⟩
    · simp at hv
    · simp at hv
      obtain ⟨hv, _⟩ := hv
      subst hv
      exact own_lt h.own g' (by simp [Value.ownBlock])
/-- the cells of the map's own block -/
theorem MapN.cells (h : MapN w g A c W H l n) : w.cell? ⟨g, 0, none⟩ = some (.int .i64 W) ∧ w.cell? ⟨g, 1, none⟩ = some (.int .i64 H) ∧ w.cell? ⟨g, 2, none⟩ = some (.slice A l.length c) ∧ w.cell? ⟨g, 3, none⟩ = some (.int .i64 n) := by
  have c0 := h.blk.cell 0
  have c1 := h.blk.cell 1
  have c2 := h.blk.cell 2
  have c3 := h.blk.cell 3
  unfold mapC at c0 c1 c2 c3
  simp only [List.getElem?_toArray, List.getElem?_cons_zero, List.getElem?_cons_succ] at c0 c1 c2 c3
  exact ⟨c0, c1, c2, c3⟩
end
/-- is there such a place? -/
def inB (W H : Nat) (x y : Int) : Bool := decide (0 ≤ x ∧ x < W ∧ 0 ≤ y ∧ y < H)
def hasB (W H : Nat) (l : List Bool) (x y : Int) : Bool := inB W H x y && l.getD (y * W + x).toNat false
section
variable {w : World} {g : Nat} {A : Option Addr} {c W H n : Nat} {l : List Bool} (h : MapN w g A c W H l n)
include h
theorem size14 : Calls Try.prog 14 #[P g] w fun e w' => e = .returned (.tuple #[.int .i64 W, .int .i64 H]) ∧ ∃ n, w' = w.drewN n := by
  obtain ⟨c0, c1, c2, c3⟩ := h.cells
  have hl := h.blk.lt
  replace h := Lib.hid h
  go_enter Try.func14, Try.ntmps14
  go_wp2_with fail
  go_quiet (fail)
  go_wp2_with fail
  go_ret2
  exact ⟨rfl, _, rfl⟩
theorem count18 : Calls Try.prog 18 #[P g] w fun e w' => e = .returned (.int .i64 n) ∧ w = w' := by
  obtain ⟨c0, c1, c2, c3⟩ := h.cells
  replace h := Lib.hid h
  go_enter Try.func18, Try.ntmps18
  go_wp2_with fail
  go_ret
  exact ⟨rfl, rfl⟩
theorem in33_yes (x y : Nat) (hx : x < W) (hy : y < H) : Calls Try.prog 33 #[P g, .int .i64 x, .int .i64 y] w fun e w' => e = .returned (.bool true) ∧ w' = w := by
  obtain ⟨c0, c1, c2, c3⟩ := h.cells
  have hl := h.blk.lt
  have hx' : (x : Int) < W := by omega
  have hy' : (y : Int) < H := by omega
  have d1 : decide ((x : Int) < W) = true := decide_eq_true hx'
  have d2 : decide ((y : Int) < H) = true := decide_eq_true hy'
  have d3 : decide (x < W) = true := decide_eq_true hx
  have d4 : decide (y < H) = true := decide_eq_true hy
  replace h := Lib.hid h
  go_enter Try.func33, Try.ntmps33
  go_wp2_with fail
  go_ret
  exact ⟨rfl, rfl⟩
theorem in33_no (x y : Int) (hi : inB W H x y = false) : Calls Try.prog 33 #[P g, .int .i64 x, .int .i64 y] w fun e w' => e = .returned (.bool false) ∧ w' = w := by
  obtain ⟨c0, c1, c2, c3⟩ := h.cells
  have hl := h.blk.lt
  replace h := Lib.hid h
  have hi2 : ¬ (0 ≤ x ∧ x < W ∧ 0 ≤ y ∧ y < H) := by unfold inB at hi; simpa using hi
  replace hi := Lib.hid hi
  by_cases h1 : 0 ≤ x
  · have e1 : decide (0 ≤ x) = true := decide_eq_true h1
    by_cases h2 : x < W
    · have e2 : decide (x < (W : Int)) = true := decide_eq_true h2
      by_cases h3 : 0 ≤ y
      · have e3 : decide (0 ≤ y) = true := decide_eq_true h3
        have h4 : ¬ y < H := fun h4 => hi2 ⟨h1, h2, h3, h4⟩
        have e4 : decide (y < (H : Int)) = false := decide_eq_false h4
        go_enter Try.func33, Try.ntmps33
        go_wp2_with fail
        go_ret
        exact ⟨rfl, rfl⟩
      · have e3 : decide (0 ≤ y) = false := decide_eq_false h3
        go_enter Try.func33, Try.ntmps33
        go_wp2_with fail
        go_ret
        exact ⟨rfl, rfl⟩
    · have e2 : decide (x < (W : Int)) = false := decide_eq_false h2
      go_enter Try.func33, Try.ntmps33
      go_wp2_with fail
      go_ret
      exact ⟨rfl, rfl⟩
  · have e1 : decide (0 ≤ x) = false := decide_eq_false h1
    go_enter Try.func33, Try.ntmps33
    go_wp2_with fail
    go_ret
    exact ⟨rfl, rfl⟩
end
end Go.Proofs.Ytclidonogebgkaa.Ct
