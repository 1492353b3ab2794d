/- The document's Order: the walk. -/
import Derived.Test.YtfaciljklligeaaIo
import Derived.Test.YtfaciljklligeaaTw
namespace Go.Proofs.Ytfaciljklligeaa.Ct
open Go.ChangeShapes Go.WideShapes Go.RowKit Mm
theorem less45' {x y : Nat} (hx : x < 2 ^ 64) (hy : y < 2 ^ 64) (b : Bool) (hb : decide (key x < key y) = b) (w : World) : Calls Try.prog 45 #[.float .f64 x, .float .f64 y] w fun e w' => e = .returned (.bool b) ∧ w' = w :=
  (less45 hx hy w).mono fun _ _ ⟨he, hw⟩ => ⟨by rw [he, hb], hw.symm⟩
theorem own_slice1 {w : World} {base : Nat} {e : TypeId} {size n : Nat} {v : Value} {xs : List Value} (h : w.ownsRow base e size v n xs) (hn : 0 < n) : ∃ g c, v = .slice (some ⟨g, 0, none⟩) n c := by
  rcases h.2 with ⟨_, h0⟩ | ⟨g, cap, cur, rfl, _⟩
  · omega
  · exact ⟨g, cap, rfl⟩
/-- a list that is l in order, in memory of the call's own -/
def OrdPost (l : List Nat) (w : World) (e : Ending) (w' : World) : Prop :=
  ∃ v ms, e = .returned v ∧ ms.Perm l ∧ Sorted ms ∧ w'.ownsRow w.heap.size 25 1 v l.length (flC ms) ∧ Only No w w'
set_option maxHeartbeats 3200000 in
theorem rorder29 (w : World) (A : Option Addr) (c : Nat) (l : List Nat) (hr : Rds w 1 A l.length (flC l)) (hl : l.length ≤ 17592186043904) (hb : ∀ x ∈ l, x < 2 ^ 64) : Calls Try.prog 29 #[.slice A l.length c] w (OrdPost l w) := by
  obtain ⟨i0, hi, hz0, hz1, hz2⟩ := info_parts info25
  have rst := fun (a : Addr) (b : Nat) (w : World) (m : Mode) => run_store Try.prog w a (.float .f64 b) m rfl
  have HR := Lib.hid hr
  have HB := Lib.hid hb
  clear hr hb
  go_enter Try.func29, Try.ntmps29
  go_wp2_with fail
  go_loopw [3, 4] (fun v iv wr => ∃ (i : Nat) (ms : List Nat), i ≤ l.length ∧ iv = .int .i64 i ∧ Hid (ms.Perm (l.take i)) ∧ Hid (Sorted ms) ∧ wr.ownsRow w.heap.size 25 1 v i (flC ms) ∧ Hid (Only No w wr)) (fun _ iv _ => l.length - (intOf iv).toNat)
  case atStart => exact ⟨0, [], Nat.zero_le _, rfl, by simp [Hid], List.Pairwise.nil, World.ownsRow_nil _ _ _ _, Only.refl _ _⟩
  case round =>
    obtain ⟨i, ms, hi', rfl, hp, hs, hown, hO⟩ := hrel
    by_cases hlt : i < l.length
    · obtain ⟨ad, rfl, q1⟩ := (HR.out.no hO.out).at_ (by omega) (flC_getD hlt)
      have hlen : Hid (ms.length = i) := by
        have := hp.out.length_eq
        unfold Hid; rw [this]; simp; omega
      have hxb : l.getD i 0 < 2 ^ 64 := by
        rw [show l.getD i 0 = l[i] by simp [hlt]]
        exact HB.out _ (List.getElem_mem hlt)
      have htake : Hid (l.take (i + 1) = l.take i ++ [l.getD i 0]) := by
        unfold Hid
        rw [List.take_succ_eq_append_getElem hlt, show l.getD i 0 = l[i] by simp [hlt]]
      have hmb : Hid (∀ j, ms.getD j 0 < 2 ^ 64) := by
        intro j
        by_cases hj : j < ms.length
        · rw [show ms.getD j 0 = ms[j] by simp [hj]]
          exact HB.out _ (List.mem_of_mem_take (hp.out.mem_iff.1 (List.getElem_mem hj)))
        · rw [show ms.getD j 0 = 0 by simp [List.getD, List.getElem?_eq_none (Nat.le_of_not_lt hj)]]; omega
      have HRi := Lib.hid (fun w' ho => ((HR.out.no ho).at_ (by omega) (flC_getD hlt) : ∃ ad', some ad = some ad' ∧ World.cell? w' (ad'.add i) = some (.float .f64 (l.getD i 0))))
      generalize l.getD i 0 = x at *
      replace hxb := Lib.hid hxb
      obtain ⟨A', c', rfl⟩ := own_slice hown
      have hOs := hO.out.size
      go_wp2_with (at_builtin; refine wpList_append_own _ rfl _ _ 22 rfl w.heap.size 25 i0 (.float .f64 0) 1 8 Try.underlying22 hi hz0 hz1 hz2 rfl (by decide) _ _ _ rfl (hown.alloc _) ⟨wr.heap.size, 0, none⟩ 1 1 [.float .f64 x] rfl rfl ?c1 ?c2 ?c3 ?c4 ?c5 ?_)
      case c1 => exact cell_one_new _ _ _
      case c2 => intro u hu; simp at hu; subst hu; rfl
      case c3 => unfold maxLen; omega
      case c4 => omega
      case c5 => simp; omega
      intro v' w1 hown' hgrow _
      obtain ⟨g, cg, rfl⟩ := own_slice1 hown' (by omega)
      have hO1 : Hid (Only No w w1) := Lib.hid ((hO.out.alloc _).then (Only.of_grown hgrow) (fun i hi => .inr (own_ge hown i hi)))
      have hown1 : Hid (w1.ownsRow w.heap.size 25 1 (.slice (some ⟨g, 0, none⟩) (i + 1) cg) (i + 1) (flC (ins ms i x))) := by
        have h := hown'
        unfold Hid
        rw [← hlen.out, ins_last, hlen.out]
        unfold flC at h ⊢
        rw [List.map_append]
        exact h
      have hgw : Hid (w.heap.size ≤ g) := own_ge hown' g rfl
      clear hown' hgrow hown q1
      go_wp2_with fail
      go_loopw [5] (fun kv wr => ∃ (k z : Nat), k ≤ i ∧ kv = .int .i64 k ∧ wr.ownsRow w.heap.size 25 1 (.slice (some ⟨g, 0, none⟩) (i + 1) cg) (i + 1) (flC (ins ms k z)) ∧ Hid (∀ e ∈ ms.drop k, key x < key e) ∧ Hid (Only No w wr)) (fun kv _ => (intOf kv).toNat)
      case atStart => exact ⟨i, x, Nat.le_refl _, rfl, hown1.out, by unfold Hid; rw [← hlen.out]; simp, hO1⟩
      case round =>
        clear hown1 hO1 hO
        obtain ⟨k, z, hk, rfl, hown, hab, hO⟩ := hrel
        have hil : Hid ((ins ms k z).length = i + 1) := by unfold Hid; rw [ins_length, hlen.out]
        obtain ⟨ad', e', q1⟩ := HRi.out wr hO.out
        obtain rfl : ad = ad' := by simpa using e'
        have fz := hown.frozenAt k
        have q0 : wr.cell? ⟨g, k, none⟩ = some (.float .f64 z) := by
          rw [hown.cellAt k (by omega), flC_getD (by rw [hil.out]; omega), ins_at _ _ _ (by rw [hlen.out]; omega)]
        have hfin : ∀ (hz : k = 0 ∨ ¬ key x < key (ms.getD (k - 1) 0)), Hid ((ins ms k x).Perm (l.take (i + 1)) ∧ Sorted (ins ms k x)) := fun hz =>
          ⟨by rw [htake.out]; exact (ins_perm ms k x).trans (hp.out.append_right _), ins_sorted hs.out (by rw [hlen.out]; omega) hab.out hz⟩
        replace hfin := Lib.hid hfin
        have hput := Lib.hid (ins_put ms k z x (by rw [hlen.out]; omega))
        by_cases hk0 : 0 < k
        · have q2 : wr.cell? ⟨g, k - 1, none⟩ = some (.float .f64 (ms.getD (k - 1) 0)) := by
            rw [hown.cellAt (k - 1) (by omega), flC_getD (by rw [hil.out]; omega), ins_below _ _ _ _ (by omega) (by rw [hlen.out]; omega)]
          have hset := Lib.hid (ins_set ms k z hk0 (by rw [hlen.out]; omega))
          have hmk := Lib.hid (hmb.out (k - 1))
          have hdm := Lib.hid (drop_more (ms := ms) (k := k) (x := x) hk0 (by rw [hlen.out]; omega) hab.out)
          have hst := Lib.hid (hown.stored k (.float .f64 (ms.getD (k - 1) 0)))
          have hpt := Lib.hid (hown.stored k (.float .f64 x))
          have hown2 := Lib.hid hown
          generalize hy : ms.getD (k - 1) 0 = y at *
          replace hy := Lib.hid hy
          have g1 : decide ((0 : Int) < (k : Int)) = true := decide_eq_true (by omega)
          have g2 : IntKind.i64.wrap ((k : Int) - 1) = (k : Int) - 1 := IntWalk.i64_in _ (by omega)
          have g3 : ((k : Int) - 1).toNat = k - 1 := by omega
          have g4 : (0 : Int) ≤ (k : Int) - 1 := by omega
          have g5 : (k : Int) - 1 < ((i + 1 : Nat) : Int) := by omega
          have g5' : (k : Int) - 1 < (i : Int) + 1 := by omega
          have g6 : (i : Int) < (l.length : Int) := by omega
          have g7 : (0 : Int) ≤ (i : Int) := by omega
          have g8 : (k : Int) > 0 := by omega
          clear hown
          cases hc : decide (key x < key y)
          · have hcall := Lib.hid (fun w => less45' hxb.out hmk.out false hc w)
            replace hc := Lib.hid (of_decide_eq_false hc)
            go_wp2_with fail
            go_quiet ((go_at_call 45; exact Calls.quiet_of_same (hcall.out _)))
            go_wp2_with fail
            go_roundw
            case rel => exact ⟨i + 1, ins ms k x, by omega, by go_num, (hfin.out (.inr (by have := hc.out; omega))).out.1, (hfin.out (.inr (by have := hc.out; omega))).out.2, by
              have h := hpt.out.1
              rw [flC_set, hput.out] at h
              first | exact own_only h ((Only.refl No _).drewN _) (fun _ _ h => h) | exact h, by
              have h := (hO.out.then (Only.of_grown hpt.out.2) (fun j hj => .inr (by have := hgw.out; simp at hj; omega)))
              first | exact Lib.hid (h.drewN _) | exact Lib.hid h⟩
            case measure => simp [intOf]; omega
          · have hcall := Lib.hid (fun w => less45' hxb.out hmk.out true hc w)
            replace hc := Lib.hid (of_decide_eq_true hc)
            go_wp2_with fail
            go_quiet ((go_at_call 45; exact Calls.quiet_of_same (hcall.out _)))
            go_wp2_with fail
            go_roundw
            case rel => exact ⟨k - 1, y, by omega, by first | go_num | (congr 1; omega), by
              have h := hst.out.1
              rw [flC_set, hset.out] at h
              first | exact own_only h ((Only.refl No _).drewN _) (fun _ _ h => h) | exact h, Lib.hid (hdm.out hc.out), by
              have h := (hO.out.then (Only.of_grown hst.out.2) (fun j hj => .inr (by have := hgw.out; simp at hj; omega)))
              first | exact Lib.hid (h.drewN _) | exact Lib.hid h⟩
            case measure => simp [intOf]; omega
        · have hk00 : k = 0 := by omega
          subst hk00
          have g1 : decide ((0 : Int) < 0) = false := rfl
          have hpt := Lib.hid (hown.stored 0 (.float .f64 x))
          clear hown
          go_wp2_with fail
          go_quiet (fail)
          go_wp2_with fail
          go_roundw
          case rel => exact ⟨i + 1, ins ms 0 x, by omega, by go_num, (hfin.out (by simp)).out.1, (hfin.out (by simp)).out.2, by
            have h := hpt.out.1
            rw [flC_set, hput.out] at h
            first | exact own_only h ((Only.refl No _).drewN _) (fun _ _ h => h) | exact h, by
            have h := (hO.out.then (Only.of_grown hpt.out.2) (fun j hj => .inr (by have := hgw.out; simp at hj; omega)))
            first | exact Lib.hid (h.drewN _) | exact Lib.hid h⟩
          case measure => simp [intOf]; omega
    · obtain rfl : i = l.length := by omega
      have hp2 : Hid (ms.Perm l) := by have := hp.out; rw [List.take_length] at this; exact this
      have HO := Lib.hid hown
      clear hown
      go_wp2_with fail
      go_ret
      exact ⟨_, ms, rfl, hp2.out, hs.out, HO.out, hO.out⟩
end Go.Proofs.Ytfaciljklligeaa.Ct
