/- Maps of damage: what is asked of them. -/
import Derived.Test.YtnepchdpgbdogaaRows
import Derived.Test.YtnepchdpgbdogaaMem
import Derived.WalkKit
import Derived.WalkLawsBesides
import Derived.LoopTactic
import Derived.Lib.Hide
import Derived.Outline
import Derived.Laws.BitsLemmas
import Derived.Deep.QuietTactic
import Derived.BigQuiet
import Derived.WalkSpells
namespace Go.Proofs.Ytnepchdpgbdogaa.Ct
open Go.ChangeShapes Go.WideShapes Go.RowKit Mm
abbrev P (g : Nat) : Value := .pointer (some ⟨g, 0, none⟩)
def boC (l : List Bool) : List Value := l.map Value.bool
/-- block g is a map of W columns and H rows with the flags l; all that it holds lies below block B -/
structure MapAt (w : World) (B g W H : Nat) (l : List Bool) : Prop where
  ex : ∃ (A : Option Addr) (c : Nat) (n : Int), Blk w g 70 #[.int .i64 W, .int .i64 H, .slice A l.length c, .int .i64 n] ∧ Rds w 1 A l.length (boC l) ∧ (∀ ad, A = some ad → ad.block < B)
  len : l.length = W * H
  w8 : W ≤ 8192
  h8 : H ≤ 8192
  lt : g < B
theorem MapAt.only {S : Nat → Prop} {w w' : World} {B g W H : Nat} {l : List Bool} (h : MapAt w B g W H l) (ho : Only S w w') (hS : ∀ b, b < B → ¬ S b) : MapAt w' B g W H l := by
  obtain ⟨A, c, n, h1, h2, h3⟩ := h.ex
  exact ⟨⟨A, c, n, h1.only ho (hS g h.lt), h2.only ho (fun _ ad e => hS _ (h3 ad e)), h3⟩, h.len, h.w8, h.h8, h.lt⟩
theorem MapAt.no {w w' : World} {B g W H : Nat} {l : List Bool} (h : MapAt w B g W H l) (ho : Only No w w') : MapAt w' B g W H l := h.only ho fun _ _ => id
theorem MapAt.drewN {w : World} {B g W H : Nat} {l : List Bool} (h : MapAt w B g W H l) (n : Nat) : MapAt (w.drewN n) B g W H l := h.no ((Only.refl No w).drewN n)
theorem MapAt.mono {w : World} {B B' g W H : Nat} {l : List Bool} (h : MapAt w B g W H l) (hB : B ≤ B') : MapAt w B' g W H l := by
  obtain ⟨A, c, n, h1, h2, h3⟩ := h.ex
  exact ⟨⟨A, c, n, h1, h2, fun ad e => Nat.lt_of_lt_of_le (h3 ad e) hB⟩, h.len, h.w8, h.h8, Nat.lt_of_lt_of_le h.lt hB⟩
/-- is there such a place? -/
def inB (W H : Nat) (x y : Int) : Bool := decide (0 ≤ x ∧ x < W ∧ 0 ≤ y ∧ y < H)
def hasB (W H : Nat) (l : List Bool) (x y : Int) : Bool := inB W H x y && l.getD (y * W + x).toNat false
theorem size32 (w : World) (g W H : Nat) (B : Nat) (l : List Bool) (h : MapAt w B g W H l) : Calls Try.prog 32 #[P g] w fun e w' => e = .returned (.tuple #[.int .i64 W, .int .i64 H]) ∧ ∃ n, w' = w.drewN n := by
  obtain ⟨A, c, n, hb, hr, _⟩ := h.ex
  have c0 := hb.cell 0
  have c1 := hb.cell 1
  simp only [List.getElem?_toArray, List.getElem?_cons_zero, List.getElem?_cons_succ] at c0 c1
  have hl := hb.lt
  replace hb := Lib.hid hb
  go_enter Try.func32, Try.ntmps32
  go_wp2_with fail
  go_quiet (fail)
  go_wp2_with fail
  go_ret2
  exact ⟨rfl, _, rfl⟩
theorem in37_yes (w : World) (g W H : Nat) (B : Nat) (l : List Bool) (h : MapAt w B g W H l) (x y : Nat) (hx : x < W) (hy : y < H) : Calls Try.prog 37 #[P g, .int .i64 x, .int .i64 y] w fun e w' => e = .returned (.bool true) ∧ w' = w := by
  obtain ⟨A, c, n, hb, hr, _⟩ := h.ex
  have c0 := hb.cell 0
  have c1 := hb.cell 1
  simp only [List.getElem?_toArray, List.getElem?_cons_zero, List.getElem?_cons_succ] at c0 c1
  have hl := hb.lt
  have hx' : (x : Int) < W := by omega
  have hy' : (y : Int) < H := by omega
  have d1 : decide ((x : Int) < W) = true := decide_eq_true hx'
  have d2 : decide ((y : Int) < H) = true := decide_eq_true hy'
  have d3 : decide (x < W) = true := decide_eq_true hx
  have d4 : decide (y < H) = true := decide_eq_true hy
  replace hb := Lib.hid hb
  go_enter Try.func37, Try.ntmps37
  go_wp2_with fail
  go_ret
  exact ⟨rfl, rfl⟩
theorem in37_no (w : World) (g W H : Nat) (B : Nat) (l : List Bool) (h : MapAt w B g W H l) (x y : Int) (hi : inB W H x y = false) : Calls Try.prog 37 #[P g, .int .i64 x, .int .i64 y] w fun e w' => e = .returned (.bool false) ∧ w' = w := by
  obtain ⟨A, c, n, hb, hr, _⟩ := h.ex
  have c0 := hb.cell 0
  have c1 := hb.cell 1
  simp only [List.getElem?_toArray, List.getElem?_cons_zero, List.getElem?_cons_succ] at c0 c1
  have hl := hb.lt
  replace hb := Lib.hid hb
  have hi2 : ¬ (0 ≤ x ∧ x < W ∧ 0 ≤ y ∧ y < H) := by unfold inB at hi; simpa using hi
  replace hi := Lib.hid hi
  by_cases h1 : 0 ≤ x
  · have e1 : decide (0 ≤ x) = true := decide_eq_true h1
    by_cases h2 : x < W
    · have e2 : decide (x < (W : Int)) = true := decide_eq_true h2
      by_cases h3 : 0 ≤ y
      · have e3 : decide (0 ≤ y) = true := decide_eq_true h3
        have h4 : ¬ y < H := fun h4 => hi2 ⟨h1, h2, h3, h4⟩
        have e4 : decide (y < (H : Int)) = false := decide_eq_false h4
        go_enter Try.func37, Try.ntmps37
        go_wp2_with fail
        go_ret
        exact ⟨rfl, rfl⟩
      · have e3 : decide (0 ≤ y) = false := decide_eq_false h3
        go_enter Try.func37, Try.ntmps37
        go_wp2_with fail
        go_ret
        exact ⟨rfl, rfl⟩
    · have e2 : decide (x < (W : Int)) = false := decide_eq_false h2
      go_enter Try.func37, Try.ntmps37
      go_wp2_with fail
      go_ret
      exact ⟨rfl, rfl⟩
  · have e1 : decide (0 ≤ x) = false := decide_eq_false h1
    go_enter Try.func37, Try.ntmps37
    go_wp2_with fail
    go_ret
    exact ⟨rfl, rfl⟩
end Go.Proofs.Ytnepchdpgbdogaa.Ct
