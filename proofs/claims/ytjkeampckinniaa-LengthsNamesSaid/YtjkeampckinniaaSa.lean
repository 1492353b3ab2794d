/- Two lists of numbers are compared; the examples of the chapter. -/
import Derived.Test.YtjkeampckinniaaBw
namespace Go.Proofs.Ytjkeampckinniaa.Ct
open Go.ChangeShapes Go.WideShapes Go.RowKit Mm
theorem take_same {l l2 : List Int} {k : Nat} (h : k < l.length) (h2 : k < l2.length) (e : l.take k = l2.take k) (x : l.getD k 0 = l2.getD k 0) : l.take (k + 1) = l2.take (k + 1) := by
  rw [List.take_succ_eq_append_getElem h, List.take_succ_eq_append_getElem h2, e]
  have a : l.getD k 0 = l[k] := by simp [h]
  have b : l2.getD k 0 = l2[k] := by simp [h2]
  rw [a, b] at x
  rw [x]
set_option maxHeartbeats 800000 in
theorem same18 (w : World) (A : Option Addr) (c : Nat) (l : List Int) (A2 : Option Addr) (c2 : Nat) (l2 : List Int) (hr : Rds w 1 A l.length (inC l)) (hr2 : Rds w 1 A2 l2.length (inC l2)) (hl : l.length ≤ 140737488351232) :
    Calls Try.prog 18 #[.slice A l.length c, .slice A2 l2.length c2] w fun e w' => e = .returned (.bool (decide (l = l2))) ∧ ∃ d, w' = w.drewN d := by
  have HR := Lib.hid hr
  have HR2 := Lib.hid hr2
  clear hr hr2
  by_cases hn : l.length = l2.length
  · have hN := Lib.hid hn
    have d0 : ((l.length : Int) != (l2.length : Int)) = false := by rw [hn]; simp
    clear hn
    go_enter Try.func18, Try.ntmps18
    go_wp2_with fail
    go_loopw [5] (fun i wr => ∃ k d : Nat, k ≤ l.length ∧ i = .int .i64 k ∧ Hid (l.take k = l2.take k) ∧ wr = w.drewN d) (fun i _ => l.length - (intOf i).toNat)
    case atStart => exact ⟨0, 0, Nat.zero_le _, rfl, by simp [Hid], rfl⟩
    case round =>
      obtain ⟨k, d, hk, rfl, ht, rfl⟩ := hrel
      by_cases hlt : k < l.length
      · have hlt2 : k < l2.length := by have := hN.out; omega
        obtain ⟨ad, rfl, q1⟩ := HR.out.at_ (by omega) (inC_get hlt)
        obtain ⟨ad2, rfl, q2⟩ := HR2.out.at_ (by omega) (inC_get hlt2)
        have hs := fun e => Lib.hid (take_same hlt hlt2 ht.out e)
        have hq : Hid (l.getD k 0 ≠ l2.getD k 0 → l ≠ l2) := Lib.hid (fun a b => a (by rw [b]))
        generalize l.getD k 0 = x at *
        generalize l2.getD k 0 = y at *
        have i1 : (k : Int) < (l.length : Int) := by omega
        have i2 : (k : Int) < (l2.length : Int) := by omega
        have i3 : (0 : Int) ≤ (k : Int) := by omega
        by_cases hxy : x = y
        · subst hxy
          replace hs := hs rfl
          go_wp2_with fail
          go_quiet (fail)
          go_wp2
          go_roundw
          case rel => exact ⟨k + 1, _, by omega, by go_num, hs, by first | rfl | (rw [World.drewN_drewN])⟩
          case measure => simp [intOf]; omega
        · have d1 : (x == y) = false := by simpa using hxy
          have d2 : (x != y) = true := by simpa using hxy
          have hne := Lib.hid (hq.out hxy)
          replace hxy := Lib.hid hxy
          clear hs hq
          go_wp2_with fail
          go_quiet (fail)
          go_wp2
          go_ret
          exact ⟨by rw [decide_eq_false hne.out]; rfl, _, by first | rfl | (rw [World.drewN_drewN])⟩
      · obtain rfl : k = l.length := by omega
        have he : Hid (l = l2) := by
          have h := ht.out
          have h2 := hN.out
          rw [List.take_length, h2, List.take_length] at h
          exact h
        go_wp2_with fail
        go_ret
        exact ⟨by rw [decide_eq_true he.out]; rfl, _, rfl⟩
  · have d0 : ((l.length : Int) != (l2.length : Int)) = true := by simp; omega
    have hne : Hid (l ≠ l2) := Lib.hid (fun h => hn (by rw [h]))
    replace hn := Lib.hid hn
    go_enter Try.func18, Try.ntmps18
    go_wp2_with fail
    go_ret
    exact ⟨by rw [decide_eq_false hne.out]; rfl, 0, rfl⟩
/-- numbers, as whole ones -/
def zI (l : List Nat) : List Int := l.map fun n : Nat => (n : Int)
theorem zI_C (l : List Nat) : inC (zI l) = nC l := by simp [inC, zI, nC]
theorem zI_len (l : List Nat) : (zI l).length = l.length := by simp [zI]
def n511 : List Int := [5, 1, 1]
theorem best_511 : bestP n511 16 = .inr [1, 2, 2] := by decide +kernel
set_option maxRecDepth 100000 in
set_option maxHeartbeats 1000000 in
theorem names4 (w : World) : Calls Try.prog 4 #[] w fun e w' => e = .returned (.bool true) ∧ Only No w w' := by
  have hb := best17 (w.alloc (.cells #[.int .i64 5, .int .i64 1, .int .i64 1] 3)) (some ⟨w.heap.size, 0, none⟩) 3 n511 (Rds.fresh (n := 3) (size := 1) (Blk.new w 3 _) rfl) 16
  unfold BestPost at hb
  rw [best_511, show n511.length = 3 from rfl] at hb
  replace hb := Lib.hid hb
  go_enter Try.func4, Try.ntmps4
  go_wp2_with fail
  refine hb.out.mono ?_
  rintro e w1 ⟨T, rfl, own, o1⟩
  have hs : Hid (∀ w' (o : Only No w1 w'), Calls Try.prog 18 #[.slice (some ⟨T, 0, none⟩) 3 3, .slice (some ⟨w'.heap.size, 0, none⟩) 3 3] (w'.alloc (.cells #[.int .i64 1, .int .i64 2, .int .i64 2] 3)) fun e w'' => e = .returned (.bool true) ∧ ∃ d, w'' = (w'.alloc (.cells #[.int .i64 1, .int .i64 2, .int .i64 2] 3)).drewN d) := Lib.hid fun w' o => by
    have := same18 (w'.alloc (.cells #[.int .i64 1, .int .i64 2, .int .i64 2] 3)) (some ⟨T, 0, none⟩) 3 (zI [1, 2, 2]) (some ⟨w'.heap.size, 0, none⟩) 3 (zI [1, 2, 2]) (by rw [zI_C]; exact (Rds.of_own own).no (o.alloc _)) (Rds.fresh (n := 3) (size := 1) (Blk.new w' 3 _) rfl) (by decide)
    rw [decide_eq_true rfl] at this
    exact this
  have o2 : Hid (Only No w w1) := Lib.hid (((Only.refl No w).alloc _).trans o1)
  have q1 : Only No w1 w1 := Only.refl No w1
  clear own hb o1
  go_wp2_with (go_at_call 18; (with_reducible refine (hs.out _ ?_).mono ?_); (repeat (first | exact q1 | refine Only.drew ?_ | refine Only.drewN ?_ _)); rintro e w2 ⟨rfl, d, rfl⟩)
  go_ret
  exact ⟨rfl, (o2.out.alloc _).drewN _⟩
theorem names_row (W : World) : Calls Try.prog 4 #[] W (fun e w' => e = .returned (.bool true) ∧ Below W.heap.size W w') :=
  (names4 W).mono fun _ _ ⟨he, ho⟩ => ⟨he, ho.below_no⟩
end Go.Proofs.Ytjkeampckinniaa.Ct
