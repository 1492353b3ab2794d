/- ResyncGroups. -/
import Derived.Test.YtdbidojncboalaaGroupsLaw
import Derived.Test.YtdbidojncboalaaCut
namespace Go.Proofs.Ytdbidojncboalaa.Ct
open Go.ChangeShapes Go.WideShapes Go.RowKit Mm Rs

theorem wrap_small {k : Int} (h0 : 0 ≤ k) (h1 : k ≤ 1000000) : IntKind.i64.wrap k = k := by simp [IntKind.wrap, IntKind.signed, IntKind.bits]; omega
theorem addr0 (a : Addr) : a.add 0 = a := by simp [Addr.add]
theorem int_cell {w : World} {A : Option Addr} {n : Nat} {l : List Int} (h : Rds w 1 A n (inC l)) (hl : l.length = n) (k : Nat) (hk : k < n) :
    ∃ ad, A = some ad ∧ w.cell? (ad.add k) = some (.int .i64 (l[k]'(by omega))) := by
  obtain ⟨ad, e, hb, hc⟩ := h.2 (by omega)
  exact ⟨ad, e, hc _ _ (by unfold inC; rw [List.getElem?_map, List.getElem?_eq_getElem (by omega)]; rfl)⟩

theorem grp_len (j : Int) (gs : List Int) : (grp j gs).length = (ofs j gs).length := by
  induction gs generalizing j with
  | nil => rfl
  | cons g gs ih =>
    simp only [grp, ofs, List.length_append, ih, List.length_replicate]
    congr 1
    split
    · rename_i h; rw [h]; rfl
    · simp
theorem al_at {o : List Int} {i : Nat} (hi : i < o.length) : Al o i ↔ (i = 0 ∨ o[i - 1]'(by omega) ≠ o[i]) ∧ (i + 1 = o.length ∨ ∀ h : i + 1 < o.length, o[i + 1] ≠ o[i]) := by
  unfold Al
  rw [List.getElem?_eq_getElem (show i - 1 < o.length by omega), List.getElem?_eq_getElem hi]
  refine and_congr (or_congr Iff.rfl (by simp)) ?_
  by_cases h : i + 1 < o.length
  · rw [List.getElem?_eq_getElem h]
    refine or_congr Iff.rfl ⟨fun a _ b => a (by rw [b]), fun a b => a h (Option.some.inj b)⟩
  · have : i + 1 = o.length := by omega
    simp [this]

set_option maxRecDepth 100000 in
set_option maxHeartbeats 12800000 in
theorem groups_any (intervals : Int) (A : Option Addr) (m c : Nat) (ss : List Int) (w : World) (hr : Rds w 1 A m (inC ss)) (hl : ss.length = m) : Calls Try.prog 6 #[.int .i64 intervals, .slice A m c] w (fun e w' => e = .returned (.bool true) ∧ Below w.heap.size w w') := by
  obtain ⟨n, hn⟩ : ∃ n, Hid (n = 1 + intervals % 300) := ⟨_, Lib.hid rfl⟩
  have hn1 : 1 ≤ n := by have := hn.out; omega
  have hn2 : n ≤ 300 := by have := hn.out; omega
  have hx0 : 0 ≤ intervals % 300 := by omega
  have hx1 : intervals % 300 < 300 := by omega
  have HR0 := Lib.hid hr
  have HL0 := Lib.hid hl
  clear hr hl
  go_enter Try.func6, Try.ntmps6
  go_wp2_with (first | (go_at_call 22; refine (alive_any _).mono ?_; rintro e w1 ⟨rfl, o1⟩) | (go_at_call 26; refine (pick_any _ 300 _ (by omega) (by omega)).mono ?_; rintro e w2 ⟨rfl, rfl⟩))
  rw [← hn.out]
  refine (pieces_any A m c ss n w1 hn1 hn2 (HR0.out.no o1) HL0.out).mono ?_
  rintro e w2 ⟨gs, v1, v2, rfl, hP, ht⟩
  have hg1 : ∀ g ∈ gs, 1 ≤ g := fun g hg => (hP.size g hg).1
  have hgl := tot_len gs hg1
  have hol := ofs_len 0 gs (fun g hg => by have := hg1 g hg; omega)
  rw [ht] at hgl hol
  have hrow := hP.l
  rw [pcs_len] at hrow
  obtain ⟨A1, c1, rfl⟩ := own_slice hrow
  obtain ⟨A2, c2, rfl⟩ := own_slice hP.of
  have hpl := place_groups n gs hP.size ht hn2
  refine ?_
  go_wp2_with fail
  refine (place_yes A1 gs.length c1 (pcs n 0 gs) n w2 (by omega) (by omega) (Rds.of_own hrow) (pcs_len _ _ _) (by omega) (pcs_r n 0 gs)).mono ?_
  rintro e w5 ⟨a, t, rfl, ha, hs, ho⟩
  rw [hpl] at ha hs ⊢
  have O5 := Lib.hid (o1.trans (hP.only.trans ho))
  have hat : ∀ (i : Nat) (x : Int), (ofs 0 gs)[i]? = some x → (grp 0 gs)[i]? = some (x, if Al (ofs 0 gs) i then 0 else 5) := grp_at gs hg1 0
  obtain ⟨N, hN⟩ : ∃ N : Nat, (N : Int) = n := ⟨n.toNat, by omega⟩
  have hol2 : (ofs 0 gs).length = N := by omega
  have hgr2 : (grp 0 gs).length = N := by rw [grp_len]; exact hol2
  have hof := (Rds.of_own hP.of).no ho
  rw [hgr2] at ha
  rw [hol2] at hof ⊢
  obtain ⟨Aa, ca, rfl⟩ := own_slice ha
  obtain ⟨At, ct, rfl⟩ := own_slice hs
  have HA := Lib.hid (Rds.of_own ha)
  have HOF := Lib.hid hof
  have HA2 := Lib.hid hgr2
  have HO2 := Lib.hid hol2
  have HAT := Lib.hid hat
  clear hpl hat ha hs ho hrow hP hg1 hgl hol hof hol2 hgr2 o1 ht
  subst hN
  go_wp2
  go_loopw [12] (fun v12 wr => ∃ i : Nat, v12 = .int .i64 i ∧ i ≤ N ∧ Hid (Only No w5 wr)) (fun v12 _ => N - (intOf v12).toNat)
  case atStart => exact ⟨0, rfl, by omega, Only.refl _ _⟩
  case round =>
    obtain ⟨i, rfl, hi, hO⟩ := hrel
    by_cases hlt : i < N
    · have hlt' : (i : Int) < N := by omega
      obtain ⟨ad, rfl, q0, q1⟩ := slot_cells (HA.out.no hO.out) HA2.out i hlt
      obtain ⟨ad2, rfl, r0⟩ := int_cell (HOF.out.no hO.out) HO2.out i hlt
      have he : (grp 0 gs)[i]'(by rw [HA2.out]; exact hlt) = ((ofs 0 gs)[i]'(by rw [HO2.out]; exact hlt), if Al (ofs 0 gs) i then 0 else 5) := by
        have := HAT.out i _ (List.getElem?_eq_getElem (by rw [HO2.out]; exact hlt))
        rw [List.getElem?_eq_getElem (by rw [HA2.out]; exact hlt)] at this
        exact Option.some.inj this
      obtain ⟨x, HX⟩ : ∃ x, Hid (x = (ofs 0 gs)[i]'(by rw [HO2.out]; exact hlt)) := ⟨_, Lib.hid rfl⟩
      rw [he] at q0 q1
      simp only at q0 q1
      rw [← HX.out] at q0 r0
      clear he
      by_cases hz : i = 0
      · have hzb : ((i : Int) == 0) = true := by rw [beq_iff_eq]; omega
        have hiw : IntKind.i64.wrap (i : Int) = i := wrap_small (by omega) (by omega)
        have HI0 := Lib.hid hz
        clear hz
        by_cases hl : i + 1 = N
        · have hl2 : (N : Int) - 1 = i := by omega
          have HLL := Lib.hid hl
          clear hl
          have hal : (if Al (ofs 0 gs) i then (0 : Int) else 5) = 0 := if_pos ((al_at (by rw [HO2.out]; exact hlt)).2 ⟨.inl HI0.out, .inl (by rw [HO2.out]; exact HLL.out)⟩)
          rw [hal] at q1
          clear hal
          go_wp2_with fail
          go_quiet (fail)
          go_wp2_with fail
          go_quiet (fail)
          go_wp2
          go_roundw
          case rel => exact ⟨i + 1, by go_num, by omega, by first | exact hO.out | exact hO.out.drewN _ | exact (hO.out.drewN _).drewN _⟩
          case measure => simp [intOf]; omega
        · have hl2 : ¬ (i : Int) = N - 1 := by omega
          have hlb : ((i : Int) == N - 1) = false := by rw [beq_eq_false_iff_ne]; exact hl2
          obtain ⟨ad4, e4, r2⟩ := int_cell (HOF.out.no hO.out) HO2.out (i + 1) (by omega)
          obtain rfl : ad2 = ad4 := Option.some.inj e4
          have hne4 := Lib.hid (show (i + 1) < (ofs 0 gs).length by rw [HO2.out]; omega)
          obtain ⟨z, HZ⟩ : ∃ z, Hid (z = (ofs 0 gs)[i + 1]'(by rw [HO2.out]; omega)) := ⟨_, Lib.hid rfl⟩
          rw [← HZ.out] at r2
          obtain ⟨j, HJ⟩ : ∃ j, Hid (i + 1 = j) := ⟨_, Lib.hid rfl⟩
          rw [HJ.out] at r2
          have hj : (i : Int) + 1 = j := by have := HJ.out; omega
          have hl3 : (j : Int) < N := by omega
          have hl4 : j < N := by omega
          have hjw : IntKind.i64.wrap (j : Int) = j := wrap_small (by omega) (by omega)
          clear e4 hl
          by_cases hqe : x = z
          · subst hqe
            have hal : (if Al (ofs 0 gs) i then (0 : Int) else 5) = 5 := if_neg (fun h => ((al_at (by rw [HO2.out]; exact hlt)).1 h).2.elim (by rw [HO2.out]; omega) (fun e => e hne4.out (HZ.out.symm.trans HX.out)))
            rw [hal] at q1
            clear hal
            go_wp2_with fail
            go_quiet (fail)
            go_wp2_with fail
            go_quiet (fail)
            go_wp2
            go_roundw
            case rel => exact ⟨j, by go_num, by have := HJ.out; omega, by first | exact hO.out | exact hO.out.drewN _ | exact (hO.out.drewN _).drewN _⟩
            case measure => simp [intOf]; omega
          · have hqe2 : ¬ z = x := fun e => hqe e.symm
            have hqb : (z == x) = false := by rw [beq_eq_false_iff_ne]; exact hqe2
            have hqb2 : (z != x) = true := by rw [bne_iff_ne]; exact hqe2
            have hal : (if Al (ofs 0 gs) i then (0 : Int) else 5) = 0 := if_pos ((al_at (by rw [HO2.out]; exact hlt)).2 ⟨.inl HI0.out, .inr (fun _ e => hqe (HX.out.trans (e.symm.trans HZ.out.symm)))⟩)
            rw [hal] at q1
            clear hal
            go_wp2_with fail
            go_quiet (fail)
            go_wp2_with fail
            go_quiet (fail)
            go_wp2
            go_roundw
            case rel => exact ⟨j, by go_num, by have := HJ.out; omega, by first | exact hO.out | exact hO.out.drewN _ | exact (hO.out.drewN _).drewN _⟩
            case measure => simp [intOf]; omega
      · have hz2 : ¬ (i : Int) = 0 := by omega
        obtain ⟨ad3, e3, r1⟩ := int_cell (HOF.out.no hO.out) HO2.out (i - 1) (by omega)
        obtain rfl : ad2 = ad3 := Option.some.inj e3
        obtain ⟨y, HY⟩ : ∃ y, Hid (y = (ofs 0 gs)[i - 1]'(by rw [HO2.out]; omega)) := ⟨_, Lib.hid rfl⟩
        rw [← HY.out] at r1
        obtain ⟨k, HK⟩ : ∃ k, Hid (i - 1 = k) := ⟨_, Lib.hid rfl⟩
        rw [HK.out] at r1
        have hk : (i : Int) - 1 = k := by have := HK.out; omega
        have hk2 : (k : Int) < N := by omega
        have hk3 : k < N := by omega
        have hkw : IntKind.i64.wrap (k : Int) = k := wrap_small (by omega) (by omega)
        have hiw : IntKind.i64.wrap (i : Int) = i := wrap_small (by omega) (by omega)
        have hzb : ((i : Int) == 0) = false := by rw [beq_eq_false_iff_ne]; exact hz2
        clear e3
        by_cases hpe : x = y
        · subst hpe
          by_cases hl : i + 1 = N
          · have hl2 : (N : Int) - 1 = i := by omega
            have HLL := Lib.hid hl
            clear hl
            have hal : (if Al (ofs 0 gs) i then (0 : Int) else 5) = 5 := if_neg (fun h => ((al_at (by rw [HO2.out]; exact hlt)).1 h).1.elim (by omega) (fun e => e (HY.out.symm.trans HX.out)))
            rw [hal] at q1
            clear hal
            go_wp2_with fail
            go_quiet (fail)
            go_wp2_with fail
            go_quiet (fail)
            go_wp2
            go_roundw
            case rel => exact ⟨i + 1, by go_num, by omega, by first | exact hO.out | exact hO.out.drewN _ | exact (hO.out.drewN _).drewN _⟩
            case measure => simp [intOf]; omega
          · have hl2 : ¬ (i : Int) = N - 1 := by omega
            have hlb : ((i : Int) == N - 1) = false := by rw [beq_eq_false_iff_ne]; exact hl2
            obtain ⟨ad4, e4, r2⟩ := int_cell (HOF.out.no hO.out) HO2.out (i + 1) (by omega)
            obtain rfl : ad2 = ad4 := Option.some.inj e4
            have hne4 := Lib.hid (show (i + 1) < (ofs 0 gs).length by rw [HO2.out]; omega)
            obtain ⟨z, HZ⟩ : ∃ z, Hid (z = (ofs 0 gs)[i + 1]'(by rw [HO2.out]; omega)) := ⟨_, Lib.hid rfl⟩
            rw [← HZ.out] at r2
            obtain ⟨j, HJ⟩ : ∃ j, Hid (i + 1 = j) := ⟨_, Lib.hid rfl⟩
            rw [HJ.out] at r2
            have hj : (i : Int) + 1 = j := by have := HJ.out; omega
            have hl3 : (j : Int) < N := by omega
            have hl4 : j < N := by omega
            have hjw : IntKind.i64.wrap (j : Int) = j := wrap_small (by omega) (by omega)
            clear e4 hl
            by_cases hqe : x = z
            · subst hqe
              have hal : (if Al (ofs 0 gs) i then (0 : Int) else 5) = 5 := if_neg (fun h => ((al_at (by rw [HO2.out]; exact hlt)).1 h).2.elim (by rw [HO2.out]; omega) (fun e => e hne4.out (HZ.out.symm.trans HX.out)))
              rw [hal] at q1
              clear hal
              go_wp2_with fail
              go_quiet (fail)
              go_wp2_with fail
              go_quiet (fail)
              go_wp2
              go_roundw
              case rel => exact ⟨j, by go_num, by have := HJ.out; omega, by first | exact hO.out | exact hO.out.drewN _ | exact (hO.out.drewN _).drewN _⟩
              case measure => simp [intOf]; omega
            · have hqe2 : ¬ z = x := fun e => hqe e.symm
              have hqb : (z == x) = false := by rw [beq_eq_false_iff_ne]; exact hqe2
              have hqb2 : (z != x) = true := by rw [bne_iff_ne]; exact hqe2
              have hal : (if Al (ofs 0 gs) i then (0 : Int) else 5) = 5 := if_neg (fun h => ((al_at (by rw [HO2.out]; exact hlt)).1 h).1.elim (by omega) (fun e => e (HY.out.symm.trans HX.out)))
              rw [hal] at q1
              clear hal
              go_wp2_with fail
              go_quiet (fail)
              go_wp2_with fail
              go_quiet (fail)
              go_wp2
              go_roundw
              case rel => exact ⟨j, by go_num, by have := HJ.out; omega, by first | exact hO.out | exact hO.out.drewN _ | exact (hO.out.drewN _).drewN _⟩
              case measure => simp [intOf]; omega
        · have hpe2 : ¬ y = x := fun e => hpe e.symm
          have hpb : (y == x) = false := by rw [beq_eq_false_iff_ne]; exact hpe2
          have hpb2 : (y != x) = true := by rw [bne_iff_ne]; exact hpe2
          by_cases hl : i + 1 = N
          · have hl2 : (N : Int) - 1 = i := by omega
            have HLL := Lib.hid hl
            clear hl
            have hal : (if Al (ofs 0 gs) i then (0 : Int) else 5) = 0 := if_pos ((al_at (by rw [HO2.out]; exact hlt)).2 ⟨.inr (fun e => hpe (HX.out.trans (e.symm.trans HY.out.symm))), .inl (by rw [HO2.out]; exact HLL.out)⟩)
            rw [hal] at q1
            clear hal
            go_wp2_with fail
            go_quiet (fail)
            go_wp2_with fail
            go_quiet (fail)
            go_wp2
            go_roundw
            case rel => exact ⟨i + 1, by go_num, by omega, by first | exact hO.out | exact hO.out.drewN _ | exact (hO.out.drewN _).drewN _⟩
            case measure => simp [intOf]; omega
          · have hl2 : ¬ (i : Int) = N - 1 := by omega
            have hlb : ((i : Int) == N - 1) = false := by rw [beq_eq_false_iff_ne]; exact hl2
            obtain ⟨ad4, e4, r2⟩ := int_cell (HOF.out.no hO.out) HO2.out (i + 1) (by omega)
            obtain rfl : ad2 = ad4 := Option.some.inj e4
            have hne4 := Lib.hid (show (i + 1) < (ofs 0 gs).length by rw [HO2.out]; omega)
            obtain ⟨z, HZ⟩ : ∃ z, Hid (z = (ofs 0 gs)[i + 1]'(by rw [HO2.out]; omega)) := ⟨_, Lib.hid rfl⟩
            rw [← HZ.out] at r2
            obtain ⟨j, HJ⟩ : ∃ j, Hid (i + 1 = j) := ⟨_, Lib.hid rfl⟩
            rw [HJ.out] at r2
            have hj : (i : Int) + 1 = j := by have := HJ.out; omega
            have hl3 : (j : Int) < N := by omega
            have hl4 : j < N := by omega
            have hjw : IntKind.i64.wrap (j : Int) = j := wrap_small (by omega) (by omega)
            clear e4 hl
            by_cases hqe : x = z
            · subst hqe
              have hal : (if Al (ofs 0 gs) i then (0 : Int) else 5) = 5 := if_neg (fun h => ((al_at (by rw [HO2.out]; exact hlt)).1 h).2.elim (by rw [HO2.out]; omega) (fun e => e hne4.out (HZ.out.symm.trans HX.out)))
              rw [hal] at q1
              clear hal
              go_wp2_with fail
              go_quiet (fail)
              go_wp2_with fail
              go_quiet (fail)
              go_wp2
              go_roundw
              case rel => exact ⟨j, by go_num, by have := HJ.out; omega, by first | exact hO.out | exact hO.out.drewN _ | exact (hO.out.drewN _).drewN _⟩
              case measure => simp [intOf]; omega
            · have hqe2 : ¬ z = x := fun e => hqe e.symm
              have hqb : (z == x) = false := by rw [beq_eq_false_iff_ne]; exact hqe2
              have hqb2 : (z != x) = true := by rw [bne_iff_ne]; exact hqe2
              have hal : (if Al (ofs 0 gs) i then (0 : Int) else 5) = 0 := if_pos ((al_at (by rw [HO2.out]; exact hlt)).2 ⟨.inr (fun e => hpe (HX.out.trans (e.symm.trans HY.out.symm))), .inr (fun _ e => hqe (HX.out.trans (e.symm.trans HZ.out.symm)))⟩)
              rw [hal] at q1
              clear hal
              go_wp2_with fail
              go_quiet (fail)
              go_wp2_with fail
              go_quiet (fail)
              go_wp2
              go_roundw
              case rel => exact ⟨j, by go_num, by have := HJ.out; omega, by first | exact hO.out | exact hO.out.drewN _ | exact (hO.out.drewN _).drewN _⟩
              case measure => simp [intOf]; omega
    · have hlt' : ¬ (i : Int) < N := by omega
      go_wp2
      go_ret
      exact ⟨rfl, (O5.out.trans hO.out).below_no⟩
end Go.Proofs.Ytdbidojncboalaa.Ct
