/- Does a grid fit a map; the closures that ask for the mean; DC. -/
import Derived.Test.YtnepchdpgbdogaaMn
namespace Go.Proofs.Ytnepchdpgbdogaa.Ct
open Go.ChangeShapes Go.WideShapes Go.RowKit Mm
def gridI (gw gh : Int) (A : Option Addr) (n c : Nat) : Value := .agg #[.int .i64 gw, .int .i64 gh, .slice A n c]
theorem fits24_yes (w : World) (B W H : Nat) (l : List Bool) (A : Option Addr) (n c g : Nat) (hm : MapAt w B g W H l) (hn : n = W * H) (hB : B ≤ w.heap.size) :
    Calls Try.prog 24 #[gridI W H A n c, P g] w fun e w' => e = .returned (.bool true) ∧ Only No w w' := by
  have h8 := hm.w8
  have h9 := hm.h8
  have hmul : W * H ≤ 8192 * 8192 := Nat.mul_le_mul h8 h9
  have hm1 := Lib.hid (hm.mono hB)
  replace hm := Lib.hid hm
  have e1 : IntKind.i64.wrap ((W : Int) * (H : Int)) = (n : Int) := by
    rw [hn, IntWalk.i64_in _ (by rw [← Int.natCast_mul]; omega), ← Int.natCast_mul]
  clear hn hmul
  unfold gridI
  go_enter Try.func24, Try.ntmps24
  go_wp2_with fail
  generalize hw1 : (w.alloc (Obj.cells #[.int .i64 W, .int .i64 H, .slice A n c] 24)) = w1
  have o1 : Only No w w1 := by rw [← hw1]; exact (Only.refl No w).alloc _
  have b1 : Blk w1 w.heap.size 24 #[.int .i64 W, .int .i64 H, .slice A n c] := by rw [← hw1]; exact Blk.new _ _ _
  refine (size32 w1 g W H _ l (hm1.out.no o1)).mono ?_
  rintro e w2 ⟨rfl, m, rfl⟩
  have c0 := b1.cell 0
  have c1 := b1.cell 1
  have c2 := b1.cell 2
  simp only [List.getElem?_toArray, List.getElem?_cons_zero, List.getElem?_cons_succ] at c0 c1 c2
  replace o1 := Lib.hid o1
  clear hw1 b1
  go_wp2_with fail
  go_ret
  exact ⟨by simp, o1.out.drewN _⟩
theorem fits24_no (w : World) (B W H : Nat) (l : List Bool) (gw gh : Int) (A : Option Addr) (n c g : Nat) (hm : MapAt w B g W H l) (hn : ¬ (gw = W ∧ gh = H ∧ n = W * H)) (hB : B ≤ w.heap.size) :
    Calls Try.prog 24 #[gridI gw gh A n c, P g] w fun e w' => e = .returned (.bool false) ∧ Only No w w' := by
  have h8 := hm.w8
  have h9 := hm.h8
  have hmul : W * H ≤ 8192 * 8192 := Nat.mul_le_mul h8 h9
  have hm1 := Lib.hid (hm.mono hB)
  replace hm := Lib.hid hm
  have e1 : IntKind.i64.wrap ((W : Int) * (H : Int)) = ((W * H : Nat) : Int) := by
    rw [IntWalk.i64_in _ (by rw [← Int.natCast_mul]; omega), ← Int.natCast_mul]
  generalize hq : W * H = q at *
  replace hq := Lib.hid hq
  clear hmul
  unfold gridI
  go_enter Try.func24, Try.ntmps24
  go_wp2_with fail
  generalize hw1 : (w.alloc (Obj.cells #[.int .i64 gw, .int .i64 gh, .slice A n c] 24)) = w1
  have o1 : Only No w w1 := by rw [← hw1]; exact (Only.refl No w).alloc _
  have b1 : Blk w1 w.heap.size 24 #[.int .i64 gw, .int .i64 gh, .slice A n c] := by rw [← hw1]; exact Blk.new _ _ _
  refine (size32 w1 g W H _ l (hm1.out.no o1)).mono ?_
  rintro e w2 ⟨rfl, m, rfl⟩
  have c0 := b1.cell 0
  have c1 := b1.cell 1
  have c2 := b1.cell 2
  simp only [List.getElem?_toArray, List.getElem?_cons_zero, List.getElem?_cons_succ] at c0 c1 c2
  replace o1 := Lib.hid o1
  clear hw1 b1
  by_cases h1 : gw = W
  · by_cases h2 : gh = H
    · have h3 : ¬ n = q := fun h => hn ⟨h1, h2, h⟩
      have d1 : (gw == (W : Int)) = true := by simp [h1]
      have d2 : (gh == (H : Int)) = true := by simp [h2]
      have d3 : ((n : Int) == (q : Int)) = false := by simp; omega
      clear hn
      go_wp2_with fail
      go_ret
      exact ⟨by simp, o1.out.drewN _⟩
    · have d1 : (gw == (W : Int)) = true := by simp [h1]
      have d2 : (gh == (H : Int)) = false := by simp [h2]
      clear hn
      go_wp2_with fail
      go_ret
      exact ⟨by simp, o1.out.drewN _⟩
  · have d1 : (gw == (W : Int)) = false := by simp [h1]
    clear hn
    go_wp2_with fail
    go_ret
    exact ⟨by simp, o1.out.drewN _⟩
/-- the closure of DC -/
theorem clo27 (w : World) (B W H : Nat) (l : List Bool) (bs : List (List Int)) (A : Option Addr) (c g bg bm : Nat) (hg : GridAt w B W H A bs) (hm : MapAt w B g W H l) (hB : B ≤ w.heap.size) (h1 : Blk w bg 24 #[.int .i64 W, .int .i64 H, .slice A bs.length c]) (h2 : Blk w bm 31 #[P g]) :
    Calls Try.prog 27 #[P bg, P bm] w fun e w' => e = .returned (.int .i16 (mnP l (dcs bs) bs.length)) ∧ Only No w w' := by
  have c0 := h1.cell 0
  have c1 := h1.cell 1
  have c2 := h1.cell 2
  have c3 := h2.cell 0
  simp only [List.getElem?_toArray, List.getElem?_cons_zero, List.getElem?_cons_succ] at c0 c1 c2 c3
  replace hm := Lib.hid hm
  replace hg := Lib.hid hg
  replace h1 := Lib.hid h1
  replace h2 := Lib.hid h2
  go_enter Try.func27, Try.ntmps27
  go_wp2_with fail
  refine (mean28 w B W H l bs A c g hg.out hm.out hB).mono ?_
  rintro e w2 ⟨rfl, o2⟩
  replace o2 := Lib.hid o2
  go_wp2_with fail
  go_ret
  exact ⟨rfl, o2.out⟩
/-- what stands in at a place -/
def stP (W H : Nat) (l : List Bool) (D : Nat → Int) (x y : Int) : Int := if nbL W H l D x y = [] then mnP l D (W * H) else siP (nbL W H l D x y)
/-- what DC tells -/
def dcP (W H : Nat) (l : List Bool) (D : Nat → Int) (x y : Int) : Int := if inB W H x y = true then (if hasB W H l x y = true then stP W H l D x y else D (y * W + x).toNat) else 0
theorem stand27 (w : World) (B W H : Nat) (l : List Bool) (bs : List (List Int)) (A : Option Addr) (c g bg bm : Nat) (hg : GridAt w B W H A bs) (hm : MapAt w B g W H l) (hB : B ≤ w.heap.size) (x y : Int) (px : 0 ≤ x ∧ x < W) (py : 0 ≤ y ∧ y < H) (h1 : Blk w bg 24 #[.int .i64 W, .int .i64 H, .slice A bs.length c]) (h2 : Blk w bm 31 #[P g]) :
    Calls Try.prog 26 #[gridV W H A bs.length c, P g, .int .i64 x, .int .i64 y, .func (.func 27) #[] #[P bg, P bm]] w fun e w' => e = .returned (.int .i16 (stP W H l (dcs bs) x y)) ∧ Only No w w' := by
  by_cases hne : nbL W H l (dcs bs) x y = []
  · refine (standIn26_none27 w B W H l bs A c g hg hm hB x y px py #[P bg, P bm] hne (fun v w' => v = .int .i16 (stP W H l (dcs bs) x y) ∧ Only No w w') (fun w' ho => ?_)).mono ?_
    · refine (clo27 w' B W H l bs A c g bg bm (hg.no ho) (hm.no ho) (Nat.le_trans hB ho.size) (h1.only ho id) (h2.only ho id)).mono ?_
      rintro e w2 ⟨rfl, o2⟩
      exact ⟨_, rfl, by unfold stP; rw [if_pos hne, hg.len], ho.trans o2⟩
    · rintro e w2 ⟨v, rfl, rfl, o⟩
      exact ⟨rfl, o⟩
  · refine (standIn26 w B W H l bs A c g hg hm hB x y px py 27 #[P bg, P bm] hne).mono ?_
    rintro e w2 ⟨rfl, o⟩
    exact ⟨by unfold stP; rw [if_neg hne], o⟩
end Go.Proofs.Ytnepchdpgbdogaa.Ct
