/- Lists of bytes that are the same. -/
import Derived.Test.YtfaciljklligeaaTw
namespace Go.Proofs.Ytfaciljklligeaa.Ct
open Go.ChangeShapes Go.WideShapes Go.RowKit Mm
theorem take_same {l l2 : List Nat} {k : Nat} (h : k < l.length) (h2 : k < l2.length) (e : l.take k = l2.take k) (x : l.getD k 0 = l2.getD k 0) : l.take (k + 1) = l2.take (k + 1) := by
  rw [List.take_succ_eq_append_getElem h, List.take_succ_eq_append_getElem h2, e]
  have a : l.getD k 0 = l[k] := by simp [h]
  have b : l2.getD k 0 = l2[k] := by simp [h2]
  rw [a, b] at x
  rw [x]
set_option maxHeartbeats 800000 in
theorem same52 (w : World) (A : Option Addr) (c : Nat) (l : List Nat) (A2 : Option Addr) (c2 : Nat) (l2 : List Nat) (hr : Rds w 1 A l.length (byC l)) (hr2 : Rds w 1 A2 l2.length (byC l2)) (hl : l.length ≤ 140737488351232) (_ : Byts l) (_ : Byts l2) :
    Calls Try.prog 52 #[.slice A l.length c, .slice A2 l2.length c2] w fun e w' => e = .returned (.bool (decide (l = l2))) ∧ ∃ d, w' = w.drewN d := by
  have HR := Lib.hid hr
  have HR2 := Lib.hid hr2
  clear hr hr2
  by_cases hn : l.length = l2.length
  · have hN := Lib.hid hn
    have d0 : ((l.length : Int) != (l2.length : Int)) = false := by rw [hn]; simp
    clear hn
    go_enter Try.func52, Try.ntmps52
    go_wp2_with fail
    go_loopw [5] (fun i wr => ∃ k d : Nat, k ≤ l.length ∧ i = .int .i64 k ∧ Hid (l.take k = l2.take k) ∧ wr = w.drewN d) (fun i _ => l.length - (intOf i).toNat)
    case atStart => exact ⟨0, 0, Nat.zero_le _, rfl, by simp [Hid], rfl⟩
    case round =>
      obtain ⟨k, d, hk, rfl, ht, rfl⟩ := hrel
      by_cases hlt : k < l.length
      · have hlt2 : k < l2.length := by have := hN.out; omega
        obtain ⟨ad, rfl, q1⟩ := HR.out.at_ (by omega) (byC_get hlt)
        obtain ⟨ad2, rfl, q2⟩ := HR2.out.at_ (by omega) (byC_get hlt2)
        have hs := fun e => Lib.hid (take_same hlt hlt2 ht.out e)
        have hq : Hid (l.getD k 0 ≠ l2.getD k 0 → l ≠ l2) := Lib.hid (fun a b => a (by rw [b]))
        generalize l.getD k 0 = x at *
        generalize l2.getD k 0 = y at *
        have i1 : (k : Int) < (l.length : Int) := by omega
        have i2 : (k : Int) < (l2.length : Int) := by omega
        have i3 : (0 : Int) ≤ (k : Int) := by omega
        by_cases hxy : x = y
        · subst hxy
          replace hs := hs rfl
          go_wp2_with fail
          go_quiet (fail)
          go_wp2
          go_roundw
          case rel => exact ⟨k + 1, _, by omega, by go_num, hs, by first | rfl | (rw [World.drewN_drewN])⟩
          case measure => simp [intOf]; omega
        · have d1 : ((x : Int) != (y : Int)) = true := by simp; omega
          have hne := Lib.hid (hq.out hxy)
          replace hxy := Lib.hid hxy
          clear hs hq
          go_wp2_with fail
          go_quiet (fail)
          go_wp2
          go_ret
          exact ⟨by rw [decide_eq_false hne.out]; rfl, _, by first | rfl | (rw [World.drewN_drewN])⟩
      · obtain rfl : k = l.length := by omega
        have he : Hid (l = l2) := by
          have h := ht.out
          have h2 := hN.out
          rw [List.take_length, h2, List.take_length] at h
          exact h
        go_wp2_with fail
        go_ret
        exact ⟨by rw [decide_eq_true he.out]; rfl, _, rfl⟩
  · have d0 : ((l.length : Int) != (l2.length : Int)) = true := by simp; omega
    have hne : Hid (l ≠ l2) := Lib.hid (fun h => hn (by rw [h]))
    replace hn := Lib.hid hn
    go_enter Try.func52, Try.ntmps52
    go_wp2_with fail
    go_ret
    exact ⟨by rw [decide_eq_false hne.out]; rfl, 0, rfl⟩
set_option maxHeartbeats 800000 in
theorem same25 (w : World) (A : Option Addr) (c : Nat) (l : List Nat) (A2 : Option Addr) (c2 : Nat) (l2 : List Nat) (hr : Rds w 1 A l.length (byC l)) (hr2 : Rds w 1 A2 l2.length (byC l2)) (hl : l.length ≤ 140737488351232) (_ : Byts l) (_ : Byts l2) :
    Calls Try.prog 25 #[.slice A l.length c, .slice A2 l2.length c2] w fun e w' => e = .returned (.bool (decide (l = l2))) ∧ ∃ d, w' = w.drewN d := by
  have HR := Lib.hid hr
  have HR2 := Lib.hid hr2
  clear hr hr2
  by_cases hn : l.length = l2.length
  · have hN := Lib.hid hn
    have d0 : ((l.length : Int) != (l2.length : Int)) = false := by rw [hn]; simp
    clear hn
    go_enter Try.func25, Try.ntmps25
    go_wp2_with fail
    go_loopw [5] (fun i wr => ∃ k d : Nat, k ≤ l.length ∧ i = .int .i64 k ∧ Hid (l.take k = l2.take k) ∧ wr = w.drewN d) (fun i _ => l.length - (intOf i).toNat)
    case atStart => exact ⟨0, 0, Nat.zero_le _, rfl, by simp [Hid], rfl⟩
    case round =>
      obtain ⟨k, d, hk, rfl, ht, rfl⟩ := hrel
      by_cases hlt : k < l.length
      · have hlt2 : k < l2.length := by have := hN.out; omega
        obtain ⟨ad, rfl, q1⟩ := HR.out.at_ (by omega) (byC_get hlt)
        obtain ⟨ad2, rfl, q2⟩ := HR2.out.at_ (by omega) (byC_get hlt2)
        have hs := fun e => Lib.hid (take_same hlt hlt2 ht.out e)
        have hq : Hid (l.getD k 0 ≠ l2.getD k 0 → l ≠ l2) := Lib.hid (fun a b => a (by rw [b]))
        generalize l.getD k 0 = x at *
        generalize l2.getD k 0 = y at *
        have i1 : (k : Int) < (l.length : Int) := by omega
        have i2 : (k : Int) < (l2.length : Int) := by omega
        have i3 : (0 : Int) ≤ (k : Int) := by omega
        by_cases hxy : x = y
        · subst hxy
          replace hs := hs rfl
          go_wp2_with fail
          go_quiet (fail)
          go_wp2
          go_roundw
          case rel => exact ⟨k + 1, _, by omega, by go_num, hs, by first | rfl | (rw [World.drewN_drewN])⟩
          case measure => simp [intOf]; omega
        · have d1 : ((x : Int) != (y : Int)) = true := by simp; omega
          have hne := Lib.hid (hq.out hxy)
          replace hxy := Lib.hid hxy
          clear hs hq
          go_wp2_with fail
          go_quiet (fail)
          go_wp2
          go_ret
          exact ⟨by rw [decide_eq_false hne.out]; rfl, _, by first | rfl | (rw [World.drewN_drewN])⟩
      · obtain rfl : k = l.length := by omega
        have he : Hid (l = l2) := by
          have h := ht.out
          have h2 := hN.out
          rw [List.take_length, h2, List.take_length] at h
          exact h
        go_wp2_with fail
        go_ret
        exact ⟨by rw [decide_eq_true he.out]; rfl, _, rfl⟩
  · have d0 : ((l.length : Int) != (l2.length : Int)) = true := by simp; omega
    have hne : Hid (l ≠ l2) := Lib.hid (fun h => hn (by rw [h]))
    replace hn := Lib.hid hn
    go_enter Try.func25, Try.ntmps25
    go_wp2_with fail
    go_ret
    exact ⟨by rw [decide_eq_false hne.out]; rfl, 0, rfl⟩
end Go.Proofs.Ytfaciljklligeaa.Ct
