/- MeasureMean: the walk. -/
import Derived.Test.YtfaciljklligeaaSt
namespace Go.Proofs.Ytfaciljklligeaa.Ct
open Go.ChangeShapes Go.WideShapes Go.RowKit Mm
theorem own_cap {w : World} {base : Nat} {e : TypeId} {size n c : Nat} {A : Option Addr} {xs : List Value} (h : w.ownsRow base e size (.slice A n c) n xs) : n ≤ c ∧ c ≤ maxLen := by
  rcases h.2 with ⟨h', h0⟩ | ⟨g', cap', cur, h', _, _, hnc, hcm, _⟩
  · simp at h'
    obtain ⟨_, h1, h2⟩ := h'
    subst h2
    exact ⟨by omega, by unfold maxLen; omega⟩
  · simp at h'
    obtain ⟨_, rfl⟩ := h'
    exact ⟨hnc, hcm⟩
theorem Rds_take {w : World} {n m : Nat} {A : Option Addr} {l : List Nat} (h : Rds w 1 A n (flC l)) (hm : m ≤ n) : Rds w 1 A m (flC (l.take m)) := by
  have h1 := h.1
  rw [flC_length] at h1
  refine ⟨by rw [flC_length, List.length_take]; omega, fun h0 => ?_⟩
  obtain ⟨ad, e, hb, hc⟩ := h.2 (by omega)
  refine ⟨ad, e, hb, fun j u hu => hc j u ?_⟩
  unfold flC at hu ⊢
  rw [List.map_take, List.getElem?_take] at hu
  split at hu
  · exact hu
  · cases hu
def mixL (l l2 : List Nat) (i : Nat) : List Nat := l2.take i ++ (l ++ marks 9).drop i
theorem mixL_len (l l2 : List Nat) {i : Nat} (h : i ≤ l.length) (h2 : i ≤ l2.length) : (mixL l l2 i).length = l.length + 9 := by
  unfold mixL
  rw [List.length_append, List.length_take, List.length_drop, List.length_append, marks_len]
  omega
theorem mixL_set (l l2 : List Nat) {i : Nat} (h : i < l.length) (h2 : i < l2.length) : (mixL l l2 i).set i (l2.getD i 0) = mixL l l2 (i + 1) := by
  unfold mixL
  have hl : (l2.take i).length = i := by simp; omega
  rw [List.set_append_right _ _ (by omega), hl, Nat.sub_self]
  rw [List.drop_eq_getElem_cons (l := l ++ marks 9) (i := i) (by simp; omega), List.set_cons_zero, List.take_succ_eq_append_getElem h2, List.append_assoc, show l2.getD i 0 = l2[i] by simp [h2]]
  rfl
set_option maxHeartbeats 3200000 in
theorem mean3 (w : World) (A : Option Addr) (c : Nat) (l : List Nat) (A2 : Option Addr) (c2 : Nat) (l2 : List Nat) (hr : Rds w 1 A l.length (flC l)) (hr2 : Rds w 1 A2 l2.length (flC l2)) (hl : l.length ≤ 17592186043904) (hb : ∀ x ∈ l, x < 2 ^ 64) :
    Calls Try.prog 3 #[.slice A l.length c, .slice A2 l2.length c2] w (AwPost w) := by
  have HR := Lib.hid hr
  have HR2 := Lib.hid hr2
  clear hr hr2
  go_enter Try.func3, Try.ntmps3
  go_wp2_with fail
  refine (awake12 _).mono ?_
  rintro e w1 ⟨rfl, O1⟩
  replace O1 := Lib.hid O1
  go_wp2_with fail
  refine (floats13 w1 A c l (HR.out.no O1.out) hl).mono ?_
  rintro e w2 ⟨A3, c3, rfl, hown, o⟩
  obtain ⟨g, cap, e⟩ := own_slice1 hown (by omega)
  injection e with e1 _ e3
  subst e1 e3
  obtain ⟨hc1, hc2⟩ := own_cap hown
  have hg : Hid (w1.heap.size ≤ g) := own_ge hown g rfl
  have O2 := Lib.hid (O1.out.trans o)
  have hsz := Lib.hid O1.out.size
  have HO := Lib.hid hown
  have RM := Lib.hid (Rds_take (Rds.of_own hown) (show l.length ≤ l.length + 9 by omega))
  rw [show (l ++ marks 9).take l.length = l by simp] at RM
  have g1 : l.length ≤ c3 := by omega
  clear hown o O1
  go_wp2_with fail
  refine (mean14 w2 _ _ l RM.out (by omega)).mono ?_
  rintro e w3 ⟨a, b, d, ha, hb', rfl, rfl⟩
  replace ha := Lib.hid ha
  replace hb' := Lib.hid hb'
  have HO3 : Hid ((w2.drewN d).ownsRow w1.heap.size 25 1 (.slice (some ⟨g, 0, none⟩) (l.length + 9) c3) (l.length + 9) (flC (l ++ marks 9))) := HO
  have O3 := Lib.hid (O2.out.drewN d)
  generalize w2.drewN d = w3 at *
  clear HO O2 RM w2
  go_wp2_with fail
  refine (rmean15 w3 _ _ l (HR.out.no O3.out) (by omega)).mono ?_
  rintro e w4 ⟨a2, b2, d, ha2, hb2, rfl, rfl⟩
  have HA := Lib.hid (ha.out.trans ha2.symm)
  have HB := Lib.hid (hb'.out.trans hb2.symm)
  have HO4 : Hid ((w3.drewN d).ownsRow w1.heap.size 25 1 (.slice (some ⟨g, 0, none⟩) (l.length + 9) c3) (l.length + 9) (flC (l ++ marks 9))) := HO3
  have O4 := Lib.hid (O3.out.drewN d)
  generalize w3.drewN d = w4 at *
  clear HO3 O3 w3 ha ha2 hb' hb2
  go_wp2_with fail
  refine (stands16 w4 _ _ _ _ l (Rds.of_own HO4.out) (HR.out.no O4.out) hl hb).mono ?_
  rintro e w5 ⟨rfl, o⟩
  have HO5 := Lib.hid (own_only HO4.out o (fun _ _ => id))
  have O5 := Lib.hid (O4.out.trans o)
  clear HO4 O4 o w4
  go_wp2_with fail
  go_loopw [12] (fun iv wr => ∃ i : Nat, i ≤ l.length ∧ i ≤ l2.length ∧ iv = .int .i64 i ∧ wr.ownsRow w1.heap.size 25 1 (.slice (some ⟨g, 0, none⟩) (l.length + 9) c3) (l.length + 9) (flC (mixL l l2 i)) ∧ Hid (Only No w wr)) (fun iv _ => l.length - (intOf iv).toNat)
  case atStart => exact ⟨0, by omega, by omega, rfl, by simpa [mixL] using HO5.out, O5⟩
  case round =>
    clear HO5 O5
    obtain ⟨i, hi1, hi2, rfl, hown, hO⟩ := hrel
    have f1 := hown.frozenAt i
    by_cases hgo : i < l.length ∧ i < l2.length
    · obtain ⟨hlt, hlt2⟩ := hgo
      obtain ⟨ad, rfl, q1⟩ := (HR2.out.no hO.out).at_ (by omega) (flC_getD hlt2)
      have hml := mixL_len l l2 hi1 hi2
      have q2 : wr.cell? ⟨g, i, none⟩ = some (.float .f64 ((mixL l l2 i).getD i 0)) := by
        rw [hown.cellAt i (by omega), flC_getD (by rw [hml]; omega)]
      have hset := Lib.hid (mixL_set l l2 hlt hlt2)
      have hst := Lib.hid (hown.stored i (.float .f64 (l2.getD i 0)))
      generalize l2.getD i 0 = x at *
      generalize (mixL l l2 i).getD i 0 = z at *
      have rst := fun (a : Addr) (b : Nat) (w : World) (m : Mode) => run_store Try.prog w a (.float .f64 b) m rfl
      clear hown hml
      go_wp2_with fail
      go_roundw
      case rel => exact ⟨i + 1, by omega, by omega, by go_num, by
        have h := hst.out.1
        rw [flC_set, hset.out] at h
        exact h, Lib.hid (hO.out.then (Only.of_grown hst.out.2) (fun j hj => .inr (by have := hg.out; have := hsz.out; simp at hj; omega)))⟩
      case measure => simp [intOf]; omega
    · have hml := mixL_len l l2 hi1 hi2
      have hx : (¬ i < l.length) ∨ (i < l.length ∧ ¬ i < l2.length) := by omega
      have RM := Rds_take (Rds.of_own hown) (show l.length ≤ l.length + 9 by omega)
      have hM : ((mixL l l2 i).take l.length).length = l.length := by rw [List.length_take, hml]; omega
      generalize (mixL l l2 i).take l.length = M at *
      have m1 := fun w k => mean14 w (some ⟨g, 0, none⟩) c3 M k (by omega)
      have m2 := fun w k => rmean15 w (some ⟨g, 0, none⟩) c3 M k (by omega)
      rw [hM] at m1 m2
      replace m1 := Lib.hid m1
      replace m2 := Lib.hid m2
      replace RM := Lib.hid RM
      clear hown hgo f1 hml hM
      rcases hx with hx | ⟨hx, hx2⟩
      all_goals
        go_wp2_with fail
        refine (m1.out wr RM.out).mono ?_
        rintro e w6 ⟨p, q, d, hp, hq, rfl, rfl⟩
        go_wp2_with fail
        refine (m2.out _ (RM.out.no ((Only.refl No wr).drewN d))).mono ?_
        rintro e w6 ⟨p2, q2, d2, hp2, hq2, rfl, rfl⟩
        have HP := Lib.hid (hp.trans hp2.symm)
        have HQ := Lib.hid (hq.trans hq2.symm)
        clear hp hp2 hq hq2 RM m1 m2
        go_wp2_with fail
        refine (alike17 _ HA.out).mono ?_
        rintro e w7 ⟨rfl, rfl⟩
        go_wp2_with fail
        refine (alike17 _ HB.out).mono ?_
        rintro e w7 ⟨rfl, rfl⟩
        go_wp2_with fail
        refine (alike17 _ HP.out).mono ?_
        rintro e w7 ⟨rfl, rfl⟩
        go_wp2_with fail
        refine (alike17 _ HQ.out).mono ?_
        rintro e w7 ⟨rfl, rfl⟩
        go_wp2_with fail
        go_ret
        exact ⟨rfl, by first | exact hO.out.drewN _ | exact (hO.out.drewN _).drewN _⟩
end Go.Proofs.Ytfaciljklligeaa.Ct
