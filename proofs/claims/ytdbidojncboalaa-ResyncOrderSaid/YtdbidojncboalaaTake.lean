/- The contract of the tracker's Take. -/
import Derived.Test.YtdbidojncboalaaCt
import Derived.Test.YtdbidojncboalaaSc
namespace Go.Proofs.Ytdbidojncboalaa.Ct
open Go.ChangeShapes Go.WideShapes Go.RowKit Mm Rs
attribute [local go_sem] Sc.land_ret Sc.land_normal Sc.land_exit Sc.land_panic

theorem and7 (x : Int) : bits .and .i64 x 7 = x % 8 := by
  show IntKind.i64.wrap ((BitVec.ofInt 64 x &&& BitVec.ofInt 64 7).toNat : Int) = _
  have h7 : (BitVec.ofInt 64 7).toNat = 7 := by decide
  rw [BitVec.toNat_and, h7, show (7 : Nat) = 2 ^ 3 - 1 from rfl, Nat.and_two_pow_sub_one_eq_mod, BitVec.toNat_ofInt, IntKind.wrap_i64]
  have h8 : (x % ((2 ^ 64 : Nat) : Int)).toNat % 2 ^ 3 = (x % 8).toNat := by omega
  rw [h8]
  omega
abbrev Pc (a b r d : Int) : Value := .agg #[.int .i64 a, .int .i64 b, .int .i8 r, .int .i64 d]
def Taken (t : Tr) (r : Int) (g : Nat) (w : World) (e : Ending) (w' : World) : Prop :=
  ∃ v, e = .returned v ∧ Hands w (take t r).1 w' v ∧ Blk w' g 52 (trC (take t r).2) ∧ Only (One g) w w'
theorem hands_nil (w w' : World) : Hands w [] w' (.slice none 0 0) := World.ownsRow_nil _ _ _ _

theorem hands_fin {w W w2 : World} {l : List Slot} {v : Value} {g : Nat} {cs : Array Value} (hle : w.heap.size ≤ W.heap.size) (hv : Hands W l w2 v) (hb : Blk w2 g 52 cs) (j : Nat) (u : Value) : Hands w l (w2.setCell ⟨g, j, none⟩ u) v := by
  have h1 := own_base hv (fun i hi => Nat.le_trans hle (own_ge hv i hi))
  have hne := own_blk hv hb (by decide)
  exact own_only h1 (only_set (Only.refl _ _) _ _) (fun i hi hg => hne (hi.trans (congrArg some hg)))
section
variable (t : Tr) (a b r d : Int) (g : Nat) (w : World)
set_option maxHeartbeats 800000 in
theorem take_done (h : Blk w g 52 (trC t)) (hd : t.done = true) : Calls Try.prog 13 #[P g, Pc a b r d] w (Taken t r g w) := by
  have c4 : w.cell? ⟨g, 4, none⟩ = some (.bool true) := by rw [← hd]; exact h.cell 4
  have lt := h.lt
  have HB := Lib.hid h
  have HD := Lib.hid hd
  clear h hd
  go_enter Try.func13, Try.ntmps13
  go_wp2
  apply Sc.wp_scope_land 2
  go_wp2
  rw [Sc.land_ret]
  go_ret
  have ht : take t r = ([], t) := by unfold take; rw [if_pos HD.out]
  unfold Taken
  rw [ht]
  exact ⟨_, rfl, hands_nil _ _, HB.out.alloc _, (Only.refl _ _).alloc _⟩
set_option maxHeartbeats 800000 in
/-- no restart marker behind it -/
theorem take_cut (h : Blk w g 52 (trC t)) (hd : t.done = false) (ok : Ok t) (hN : t.N ≤ 1048576) (tk : t.taken ≤ 1000000000000000) (hr : r < 0) (h1 : r ≠ -1) :
    Calls Try.prog 13 #[P g, Pc a b r d] w (Taken t r g w) := by
  have c0 : w.cell? ⟨g, 0, none⟩ = some (.int .i64 t.N) := h.cell 0
  have c1 : w.cell? ⟨g, 1, none⟩ = some (.int .i64 t.next) := h.cell 1
  have c4 : w.cell? ⟨g, 4, none⟩ = some (.bool false) := by rw [← hd]; exact h.cell 4
  have f4 := h.frozen 4
  have lt := h.lt
  have HB := Lib.hid h
  have HD := Lib.hid hd
  obtain ⟨o0, o1, o2⟩ := ok
  have hne : (r != -1) = true := by rw [bne_iff_ne]; exact h1
  clear h hd h1
  go_enter Try.func13, Try.ntmps13
  go_wp2
  apply Sc.wp_scope_land 2
  go_wp2
  go_quiet (fail)
  go_wp2_with fail
  go_step3
  refine Sc.land_goto _ _ _ rfl ?_
  go_wp2_with fail
  have hb1 : Blk (((w.alloc (.cells #[.int .i64 a, .int .i64 b, .int .i8 r, .int .i64 d] 32)).drewN nq).setCell ⟨g, 4, none⟩ (.bool true)) g 52 (trC { t with done := true }) := ((HB.out.alloc _).drewN nq).set 4 (.bool true)
  refine (run_any { t with done := true } _ _ g _ hb1 (by omega) (by omega) o0 (by show t.next ≤ _; omega)).mono ?_
  rintro e w2 ⟨v, rfl, hv, hb2, ho2⟩
  have c2 : w2.cell? ⟨g, 2, none⟩ = some (.int .i64 t.taken) := hb2.cell 2
  have f2 := hb2.frozen 2
  have HV := Lib.hid hv
  have HB2 := Lib.hid hb2
  have HO := Lib.hid ho2
  clear hb1 hv hb2 ho2
  go_wp2_with fail
  go_step3
  go_wp2
  rw [Sc.land_ret]
  go_ret
  have ht : take t r = (List.replicate (t.N - t.next).toNat (t.taken, 7), { t with next := t.N, taken := t.taken + 1, done := true }) := by
    unfold take; rw [if_neg (by rw [HD.out]; decide), if_pos hr, if_pos (by simpa using hne)]
  unfold Taken
  rw [ht]
  refine ⟨_, rfl, hands_fin (by simp [World.setCell]) HV.out HB2.out _ _, ?_, only_set ((only_set (((Only.refl _ _).alloc _).drewN _) _ _).trans HO.out) _ _⟩
  have := HB2.out.set 2 (.int .i64 (t.taken + 1))
  rw [show t.next + (t.N - t.next) = t.N by omega] at this
  exact this
set_option maxHeartbeats 800000 in
/-- another marker behind it: the last one, where one interval is left -/
theorem take_last (h : Blk w g 52 (trC t)) (hd : t.done = false) (ok : Ok t) (hN : t.N ≤ 1048576) (tk : t.taken ≤ 1000000000000000) (hr : r = -1) (h1 : t.N - t.next = 1) :
    Calls Try.prog 13 #[P g, Pc a b r d] w (Taken t r g w) := by
  have c0 : w.cell? ⟨g, 0, none⟩ = some (.int .i64 t.N) := h.cell 0
  have c1 : w.cell? ⟨g, 1, none⟩ = some (.int .i64 t.next) := h.cell 1
  have c4 : w.cell? ⟨g, 4, none⟩ = some (.bool false) := by rw [← hd]; exact h.cell 4
  have lt := h.lt
  have HB := Lib.hid h
  have HD := Lib.hid hd
  obtain ⟨o0, o1, o2⟩ := ok
  have f4 := h.frozen 4
  have H1 := Lib.hid h1
  have hq : (t.N - t.next == 1) = true := by simp [h1]
  subst hr
  clear h hd h1
  go_enter Try.func13, Try.ntmps13
  go_wp2
  apply Sc.wp_scope_land 2
  go_wp2
  go_quiet (fail)
  go_wp2_with fail
  go_step3
  refine Sc.land_goto _ _ _ rfl ?_
  go_wp2_with fail
  have hb0 : Blk (((w.alloc (.cells #[.int .i64 a, .int .i64 b, .int .i8 (-1), .int .i64 d] 32)).drewN nq).setCell ⟨g, 4, none⟩ (.bool true)) g 52 (trC { t with done := true }) := ((HB.out.alloc _).drewN nq).set 4 (.bool true)
  refine (placed_any { t with done := true } g _ hb0).mono ?_
  rintro e w1 ⟨rfl, hb1, ho1⟩
  have HO1 := Lib.hid ho1
  clear hb0 ho1
  go_wp2_with fail
  refine (run_any { t with done := true, stray := false } _ _ g _ hb1 (by omega) (by omega) o0 (by show t.next ≤ _; omega)).mono ?_
  rintro e w2 ⟨v, rfl, hv, hb2, ho2⟩
  have c2 : w2.cell? ⟨g, 2, none⟩ = some (.int .i64 t.taken) := hb2.cell 2
  have f2 := hb2.frozen 2
  have HV := Lib.hid hv
  have HB2 := Lib.hid hb2
  have HO := Lib.hid ho2
  clear hb1 hv hb2 ho2
  go_wp2_with fail
  go_step3
  go_wp2
  rw [Sc.land_ret]
  go_ret
  have ht : take t (-1) = ([(t.taken, placedI t)], { t with next := t.next + 1, taken := t.taken + 1, stray := false, done := true }) := by
    unfold take; rw [if_neg (by rw [HD.out]; decide), if_pos (by decide), if_neg (by decide), if_pos H1.out]
  unfold Taken
  rw [ht]
  refine ⟨_, rfl, hands_fin (by have := HO1.out.size; simp [World.setCell] at this; omega) HV.out HB2.out _ _, ?_, only_set (((only_set (((Only.refl _ _).alloc _).drewN _) _ _).trans HO1.out).trans HO.out) _ _⟩
  exact HB2.out.set 2 (.int .i64 (t.taken + 1))
set_option maxHeartbeats 800000 in
/-- another marker behind it: the last one, where more or none are left -/
theorem take_lost (h : Blk w g 52 (trC t)) (hd : t.done = false) (ok : Ok t) (hN : t.N ≤ 1048576) (tk : t.taken ≤ 1000000000000000) (hr : r = -1) (h1 : ¬ t.N - t.next = 1) :
    Calls Try.prog 13 #[P g, Pc a b r d] w (Taken t r g w) := by
  have c0 : w.cell? ⟨g, 0, none⟩ = some (.int .i64 t.N) := h.cell 0
  have c1 : w.cell? ⟨g, 1, none⟩ = some (.int .i64 t.next) := h.cell 1
  have c4 : w.cell? ⟨g, 4, none⟩ = some (.bool false) := by rw [← hd]; exact h.cell 4
  have lt := h.lt
  have HB := Lib.hid h
  have HD := Lib.hid hd
  obtain ⟨o0, o1, o2⟩ := ok
  have f4 := h.frozen 4
  have H1 := Lib.hid h1
  have hq : (t.N - t.next == 1) = false := by simp [h1]
  subst hr
  clear h hd h1
  go_enter Try.func13, Try.ntmps13
  go_wp2
  apply Sc.wp_scope_land 2
  go_wp2
  go_quiet (fail)
  go_wp2_with fail
  go_step3
  refine Sc.land_goto _ _ _ rfl ?_
  go_wp2_with fail
  have hb1 : Blk (((w.alloc (.cells #[.int .i64 a, .int .i64 b, .int .i8 (-1), .int .i64 d] 32)).drewN nq).setCell ⟨g, 4, none⟩ (.bool true)) g 52 (trC { t with done := true }) := ((HB.out.alloc _).drewN nq).set 4 (.bool true)
  refine (run_any { t with done := true } _ _ g _ hb1 (by omega) (by omega) o0 (by show t.next ≤ _; omega)).mono ?_
  rintro e w2 ⟨v, rfl, hv, hb2, ho2⟩
  have c2 : w2.cell? ⟨g, 2, none⟩ = some (.int .i64 t.taken) := hb2.cell 2
  have f2 := hb2.frozen 2
  have HV := Lib.hid hv
  have HB2 := Lib.hid hb2
  have HO := Lib.hid ho2
  clear hb1 hv hb2 ho2
  go_wp2_with fail
  go_step3
  go_wp2
  rw [Sc.land_ret]
  go_ret
  have ht : take t (-1) = (List.replicate (t.N - t.next).toNat (t.taken, 5), { t with next := t.N, taken := t.taken + 1, done := true }) := by
    unfold take; rw [if_neg (by rw [HD.out]; decide), if_pos (by decide), if_neg (by decide), if_neg H1.out]
  unfold Taken
  rw [ht]
  refine ⟨_, rfl, hands_fin (by simp [World.setCell]) HV.out HB2.out _ _, ?_, only_set ((only_set (((Only.refl _ _).alloc _).drewN _) _ _).trans HO.out) _ _⟩
  have := HB2.out.set 2 (.int .i64 (t.taken + 1))
  rw [show t.next + (t.N - t.next) = t.N by omega] at this
  exact this
set_option maxHeartbeats 800000 in
/-- a restart marker that no interval ahead has -/
theorem take_stray (h : Blk w g 52 (trC t)) (hd : t.done = false) (ok : Ok t) (hN : t.N ≤ 1048576) (tk : t.taken ≤ 1000000000000000) (hr : 0 ≤ r) (hr2 : r ≤ 127) (h1 : t.N - t.next - 1 ≤ (r - t.next) % 8) :
    Calls Try.prog 13 #[P g, Pc a b r d] w (Taken t r g w) := by
  have c0 : w.cell? ⟨g, 0, none⟩ = some (.int .i64 t.N) := h.cell 0
  have c1 : w.cell? ⟨g, 1, none⟩ = some (.int .i64 t.next) := h.cell 1
  have c4 : w.cell? ⟨g, 4, none⟩ = some (.bool false) := by rw [← hd]; exact h.cell 4
  have lt := h.lt
  have HB := Lib.hid h
  have HD := Lib.hid hd
  obtain ⟨o0, o1, o2⟩ := ok
  have c2 : w.cell? ⟨g, 2, none⟩ = some (.int .i64 t.taken) := h.cell 2
  have c3 : w.cell? ⟨g, 3, none⟩ = some (.bool t.stray) := h.cell 3
  have f3 := h.frozen 3
  have f2 := h.frozen 2
  have a7 := and7 (r - t.next)
  have hw : IntKind.i64.wrap (r - t.next) = r - t.next := by rw [IntKind.wrap_i64]; omega
  obtain ⟨d0, d1⟩ : 0 ≤ (r - t.next) % 8 ∧ (r - t.next) % 8 ≤ 7 := by omega
  clear h hd
  go_enter Try.func13, Try.ntmps13
  go_wp2
  apply Sc.wp_scope_land 2
  go_wp2
  go_quiet (fail)
  go_wp2_with fail
  go_quiet (fail)
  go_wp2_with fail
  go_step3
  refine Sc.land_goto _ _ _ rfl ?_
  go_wp2
  go_ret
  have ht : take t r = ([], { t with taken := t.taken + 1, stray := true }) := by
    unfold take; rw [if_neg (by rw [HD.out]; decide), if_neg (by omega), if_pos (by omega)]
  unfold Taken
  rw [ht]
  refine ⟨_, rfl, hands_nil _ _, ?_, only_set (only_set ((((Only.refl _ _).alloc _).drewN _)) _ _) _ _⟩
  exact (((HB.out.alloc _).drewN _).set 3 (.bool true)).set 2 (.int .i64 (t.taken + 1))
set_option maxHeartbeats 800000 in
/-- the marker of the interval that is expected -/
theorem take_placed (h : Blk w g 52 (trC t)) (hd : t.done = false) (ok : Ok t) (hN : t.N ≤ 1048576) (tk : t.taken ≤ 1000000000000000) (hr : 0 ≤ r) (hr2 : r ≤ 127) (h1 : ¬ t.N - t.next - 1 ≤ (r - t.next) % 8) (h2 : (r - t.next) % 8 = 0) :
    Calls Try.prog 13 #[P g, Pc a b r d] w (Taken t r g w) := by
  have c0 : w.cell? ⟨g, 0, none⟩ = some (.int .i64 t.N) := h.cell 0
  have c1 : w.cell? ⟨g, 1, none⟩ = some (.int .i64 t.next) := h.cell 1
  have c4 : w.cell? ⟨g, 4, none⟩ = some (.bool false) := by rw [← hd]; exact h.cell 4
  have lt := h.lt
  have HB := Lib.hid h
  have HD := Lib.hid hd
  obtain ⟨o0, o1, o2⟩ := ok
  have a7 := and7 (r - t.next)
  have hw : IntKind.i64.wrap (r - t.next) = r - t.next := by rw [IntKind.wrap_i64]; omega
  obtain ⟨d0, d1⟩ : 0 ≤ (r - t.next) % 8 ∧ (r - t.next) % 8 ≤ 7 := by omega
  have H2 := Lib.hid h2
  have hq : ((r - t.next) % 8 == 0) = true := by simp [h2]
  clear h hd h2
  go_enter Try.func13, Try.ntmps13
  go_wp2
  apply Sc.wp_scope_land 2
  go_wp2
  go_quiet (fail)
  go_wp2_with fail
  go_quiet (fail)
  go_wp2_with fail
  refine (placed_any t g _ ((HB.out.alloc _).drewN _)).mono ?_
  rintro e w1 ⟨rfl, hb1, ho1⟩
  have HO1 := Lib.hid ho1
  clear ho1
  go_wp2_with fail
  refine (run_any { t with stray := false } _ _ g _ hb1 (by omega) (by omega) o0 (by show t.next ≤ _; omega)).mono ?_
  rintro e w2 ⟨v, rfl, hv, hb2, ho2⟩
  have c2 : w2.cell? ⟨g, 2, none⟩ = some (.int .i64 t.taken) := hb2.cell 2
  have f2 := hb2.frozen 2
  have HV := Lib.hid hv
  have HB2 := Lib.hid hb2
  have HO := Lib.hid ho2
  clear hb1 hv hb2 ho2
  go_wp2_with fail
  go_step3
  refine Sc.land_goto _ _ _ rfl ?_
  go_wp2
  go_ret
  have ht : take t r = ([(t.taken, placedI t)], { t with next := t.next + 1, taken := t.taken + 1, stray := false }) := by
    unfold take; rw [if_neg (by rw [HD.out]; decide), if_neg (by omega), if_neg (by omega), if_pos H2.out]
  unfold Taken
  rw [ht]
  refine ⟨_, rfl, hands_fin (by have := HO1.out.size; simp at this; omega) HV.out HB2.out _ _, ?_, only_set (((((Only.refl _ _).alloc _).drewN _).trans HO1.out).trans HO.out) _ _⟩
  exact HB2.out.set 2 (.int .i64 (t.taken + 1))
set_option maxHeartbeats 800000 in
/-- the marker of an interval further on -/
theorem take_gap (h : Blk w g 52 (trC t)) (hd : t.done = false) (ok : Ok t) (hN : t.N ≤ 1048576) (tk : t.taken ≤ 1000000000000000) (hr : 0 ≤ r) (hr2 : r ≤ 127) (h1 : ¬ t.N - t.next - 1 ≤ (r - t.next) % 8) (h2 : ¬ (r - t.next) % 8 = 0) :
    Calls Try.prog 13 #[P g, Pc a b r d] w (Taken t r g w) := by
  have c0 : w.cell? ⟨g, 0, none⟩ = some (.int .i64 t.N) := h.cell 0
  have c1 : w.cell? ⟨g, 1, none⟩ = some (.int .i64 t.next) := h.cell 1
  have c4 : w.cell? ⟨g, 4, none⟩ = some (.bool false) := by rw [← hd]; exact h.cell 4
  have lt := h.lt
  have HB := Lib.hid h
  have HD := Lib.hid hd
  obtain ⟨o0, o1, o2⟩ := ok
  have a7 := and7 (r - t.next)
  have hw : IntKind.i64.wrap (r - t.next) = r - t.next := by rw [IntKind.wrap_i64]; omega
  obtain ⟨d0, d1⟩ : 0 ≤ (r - t.next) % 8 ∧ (r - t.next) % 8 ≤ 7 := by omega
  have H2 := Lib.hid h2
  have hq : ((r - t.next) % 8 == 0) = false := by simp [h2]
  clear h hd h2
  go_enter Try.func13, Try.ntmps13
  go_wp2
  apply Sc.wp_scope_land 2
  go_wp2
  go_quiet (fail)
  go_wp2_with fail
  go_quiet (fail)
  go_wp2_with fail
  refine (run_any t _ _ g _ ((HB.out.alloc _).drewN _) (by omega) (by omega) o0 (by omega)).mono ?_
  rintro e w2 ⟨v, rfl, hv, hb2, ho2⟩
  have c2 : w2.cell? ⟨g, 2, none⟩ = some (.int .i64 t.taken) := hb2.cell 2
  have f2 := hb2.frozen 2
  have HV := Lib.hid hv
  have HB2 := Lib.hid hb2
  have HO := Lib.hid ho2
  clear hv hb2 ho2
  go_wp2_with fail
  go_step3
  refine Sc.land_goto _ _ _ rfl ?_
  go_wp2
  go_ret
  have ht : take t r = (List.replicate ((r - t.next) % 8 + 1).toNat (t.taken, 5), { t with next := t.next + ((r - t.next) % 8 + 1), taken := t.taken + 1 }) := by
    unfold take; rw [if_neg (by rw [HD.out]; decide), if_neg (by omega), if_neg (by omega), if_neg H2.out]
  unfold Taken
  rw [ht]
  refine ⟨_, rfl, hands_fin (by simp) HV.out HB2.out _ _, ?_, only_set ((((Only.refl _ _).alloc _).drewN _).trans HO.out) _ _⟩
  exact HB2.out.set 2 (.int .i64 (t.taken + 1))
theorem take_any (h : Blk w g 52 (trC t)) (hd : t.done = false) (ok : Ok t) (hN : t.N ≤ 1048576) (tk : t.taken ≤ 1000000000000000) (hr : -128 ≤ r) (hr2 : r ≤ 127) : Calls Try.prog 13 #[P g, Pc a b r d] w (Taken t r g w) := by
  by_cases c1 : r < 0
  · by_cases c2 : r = -1
    · by_cases c3 : t.N - t.next = 1
      · exact take_last t a b r d g w h hd ok hN tk c2 c3
      · exact take_lost t a b r d g w h hd ok hN tk c2 c3
    · exact take_cut t a b r d g w h hd ok hN tk c1 c2
  · by_cases c2 : t.N - t.next - 1 ≤ (r - t.next) % 8
    · exact take_stray t a b r d g w h hd ok hN tk (by omega) hr2 c2
    · by_cases c3 : (r - t.next) % 8 = 0
      · exact take_placed t a b r d g w h hd ok hN tk (by omega) hr2 c2 c3
      · exact take_gap t a b r d g w h hd ok hN tk (by omega) hr2 c2 c3
end
end Go.Proofs.Ytdbidojncboalaa.Ct
