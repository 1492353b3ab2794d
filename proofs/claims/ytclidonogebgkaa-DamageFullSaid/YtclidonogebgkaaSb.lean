/- Maps of damage: sameBoxes, of the same rectangles. -/
import Derived.Test.YtclidonogebgkaaRr
namespace Go.Proofs.Ytclidonogebgkaa.Ct
open Go.ChangeShapes Go.WideShapes Go.RowKit Mm
theorem bxC_get (bs : List Bx) : ∀ (i : Nat) (h : i < bs.length), (bxC bs)[i * 4]? = some (.int .i64 (bs[i].x : Int)) ∧ (bxC bs)[i * 4 + 1]? = some (.int .i64 (bs[i].y : Int)) ∧ (bxC bs)[i * 4 + 2]? = some (.int .i64 (bs[i].a : Int)) ∧ (bxC bs)[i * 4 + 3]? = some (.int .i64 (bs[i].b : Int)) := by
  induction bs with
  | nil => intro i h; simp at h
  | cons b bs ih =>
    intro i h
    cases i with
    | zero => exact ⟨rfl, rfl, rfl, rfl⟩
    | succ i =>
      have := ih i (by simpa using h)
      have e : bxC (b :: bs) = [.int .i64 (b.x : Int), .int .i64 (b.y : Int), .int .i64 (b.a : Int), .int .i64 (b.b : Int)] ++ bxC bs := rfl
      rw [e, show (i + 1) * 4 = i * 4 + 4 by omega]
      refine ⟨?_, ?_, ?_, ?_⟩
      · rw [List.getElem?_append_right (by simp)]; simpa using this.1
      · rw [List.getElem?_append_right (by simp)]; simpa using this.2.1
      · rw [List.getElem?_append_right (by simp)]; simpa using this.2.2.1
      · rw [List.getElem?_append_right (by simp)]; simpa using this.2.2.2
/-- an element's cells, at its address -/
theorem bxR {w : World} {A : Option Addr} {bs : List Bx} (h : Rds w 4 A bs.length (bxC bs)) {i : Nat} (hi : i < bs.length) : ∃ ad : Addr, A = some ad ∧ w.cell? (ad.add (i * 4)) = some (.int .i64 (bs[i].x : Int)) ∧
    w.cell? ⟨(ad.add (i * 4)).block, (ad.add (i * 4)).off + 1, none⟩ = some (.int .i64 (bs[i].y : Int)) ∧ w.cell? ⟨(ad.add (i * 4)).block, (ad.add (i * 4)).off + 2, none⟩ = some (.int .i64 (bs[i].a : Int)) ∧
    w.cell? ⟨(ad.add (i * 4)).block, (ad.add (i * 4)).off + 3, none⟩ = some (.int .i64 (bs[i].b : Int)) := by
  obtain ⟨ad, rfl, _, hc⟩ := h.2 (by omega)
  obtain ⟨g0, g1, g2, g3⟩ := bxC_get bs i hi
  refine ⟨ad, rfl, hc _ _ g0, ?_, ?_, ?_⟩
  · rw [add_field ad _ 1 (by omega)]; exact hc _ _ g1
  · rw [add_field ad _ 2 (by omega)]; exact hc _ _ g2
  · rw [add_field ad _ 3 (by omega)]; exact hc _ _ g3
set_option maxHeartbeats 2000000 in
theorem sameB23 (w : World) (A A2 : Option Addr) (c c2 : Nat) (bs : List Bx) (hr : Rds w 4 A bs.length (bxC bs)) (hr2 : Rds w 4 A2 bs.length (bxC bs)) (hn : bs.length ≤ 67108864) :
    Calls Try.prog 23 #[.slice A bs.length c, .slice A2 bs.length c2] w fun e w' => e = .returned (.bool true) ∧ ∃ n, w' = w.drewN n := by
  replace hr := Lib.hid hr
  replace hr2 := Lib.hid hr2
  go_enter Try.func23, Try.ntmps23
  go_wp2_with fail
  go_loopw [5] (fun v5 wr => ∃ i n : Nat, v5 = .int .i64 i ∧ i ≤ bs.length ∧ wr = w.drewN n) (fun v5 _ => bs.length - (intOf v5).toNat)
  case atStart => exact ⟨0, 0, rfl, by omega, rfl⟩
  case round =>
    obtain ⟨i, n, rfl, hi, rfl⟩ := hrel
    by_cases hlt : i < bs.length
    · have hlt' : (i : Int) < bs.length := by omega
      obtain ⟨ad, rfl, a0, a1, a2, a3⟩ := bxR hr.out hlt
      obtain ⟨ad2, rfl, b0, b1, b2, b3⟩ := bxR hr2.out hlt
      generalize bs[i] = q at *
      go_wp2_with fail
      go_quiet (fail)
      go_wp2_with fail
      go_roundw
      case rel => exact ⟨i + 1, _, by go_num, by omega, rfl⟩
      case measure => simp [intOf]; omega
    · obtain rfl : i = bs.length := by omega
      go_wp2_with fail
      go_ret
      exact ⟨rfl, _, rfl⟩
end Go.Proofs.Ytclidonogebgkaa.Ct
