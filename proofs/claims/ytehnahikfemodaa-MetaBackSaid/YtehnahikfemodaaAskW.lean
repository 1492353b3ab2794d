/- MetaAsked's walk. -/
import Derived.Test.YtehnahikfemodaaAsk
import Derived.Test.YtehnahikfemodaaKept
namespace Go.Proofs.Ytehnahikfemodaa.Ct
open Go.ChangeShapes Go.WideShapes Go.RowKit Mm
theorem szl_reverse (l : List Ex) : szl l.reverse = szl l := by
  unfold szl
  rw [List.map_reverse, List.sum_reverse]
theorem exC_set (L : List Ex) (i : Nat) (x : Ex) (h : i < L.length) : ((exC L).set (i * 2) (.int .u8 x.1)).set (i * 2 + 1) (.string x.2) = exC (L.set i x) := by
  induction L generalizing i with
  | nil => simp at h
  | cons a L ih =>
    cases i with
    | zero => rfl
    | succ i =>
      have := ih i (by simpa using h)
      rw [show (i + 1) * 2 = i * 2 + 1 + 1 by omega]
      have e : exC (a :: L) = .int .u8 a.1 :: .string a.2 :: exC L := rfl
      rw [e]
      simp only [List.set_cons_succ]
      rw [this]
      rfl
theorem mix_set {α : Type} (R X : List α) (i : Nat) (h1 : i < R.length) (h2 : i < X.length) : (R.take i ++ X.drop i).set i R[i] = R.take (i + 1) ++ X.drop (i + 1) := by
  have hl : (R.take i).length = i := by rw [List.length_take]; omega
  rw [List.set_append_right _ _ (by omega), hl, Nat.sub_self, List.drop_eq_getElem_cons h2, List.set_cons_zero, List.take_succ_eq_append_getElem h1, List.append_assoc]
  rfl
theorem own_pre {w : World} {b g c m k : Nat} {L T : List Ex} (h : w.ownsRow b 36 2 (.slice (some ⟨g, 0, none⟩) (m + k) c) (m + k) (exC (L ++ T))) (hL : L.length = m) : Rds w 2 (some ⟨g, 0, none⟩) m (exC L) := by
  refine ⟨by rw [exC_len, hL], fun h0 => ?_⟩
  obtain ⟨ad, e, hb', hcell⟩ := (Rds.of_own h).2 (by omega)
  refine ⟨ad, e, hb', fun j u hu => hcell j u ?_⟩
  rw [exC_append, List.getElem?_append_left (List.getElem?_eq_some_iff.1 hu).1]
  exact hu
set_option maxRecDepth 100000 in
set_option maxHeartbeats 6400000 in
theorem asked_law (A : Option Addr) (m c : Nat) (l : List Ex) (w : World) (hr : Rds w 2 A m (exC l)) (hl : l.length = m) (hm : m * 24 ≤ 140737488351232) (hz : szl l ≤ 140737488351232) :
    Calls Try.prog 5 #[.slice A m c] w (fun e w' => e = .returned (.bool true) ∧ Below w.heap.size w w') := by
  obtain ⟨i0, hi0, hz0, hz1, hz2⟩ := info_parts info36
  have HR := Lib.hid hr
  have HL := Lib.hid hl
  have HZ := Lib.hid hz
  clear hr hl hz
  go_enter Try.func5, Try.ntmps5
  go_wp2_with fail
  refine (twin_any A m c l w HR.out HL.out hm).mono ?_
  rintro e w1 ⟨g, c2, rfl, hc2, hown, o1⟩
  have hgw : Hid (w.heap.size ≤ g) := Lib.hid (own_ge hown g (by simp [Value.ownBlock]))
  have hgl : Hid (g < w1.heap.size) := Lib.hid (own_lt hown g (by simp [Value.ownBlock]))
  replace hown := Lib.hid hown
  replace o1 := Lib.hid o1
  go_wp2_with fail
  refine (asked20 (some ⟨g, 0, none⟩) A m c2 c l w1 (own_pre hown.out HL.out) (HR.out.no o1.out) HL.out hm HZ.out).mono ?_
  rintro e w2 ⟨rfl, o2⟩
  have hown2 := Lib.hid (own_only hown.out o2 (fun _ _ => id))
  have q2 := Lib.hid (o1.out.trans o2)
  have z2 : Hid (g < w2.heap.size) := Lib.hid (Nat.lt_of_lt_of_le hgl.out o2.size)
  clear o2 hown o1 hgl
  go_wp2_with fail
  refine (asked20 (some ⟨g, 0, none⟩) A m c2 c l w2 (own_pre hown2.out HL.out) (HR.out.no q2.out) HL.out hm HZ.out).mono ?_
  rintro e w3 ⟨rfl, o3⟩
  have hown3 := Lib.hid (own_only hown2.out o3 (fun _ _ => id))
  have q3 := Lib.hid (q2.out.trans o3)
  have z3 : Hid (g < w3.heap.size) := Lib.hid (Nat.lt_of_lt_of_le z2.out o3.size)
  clear o3 hown2 q2 z2
  go_wp2_with fail
  refine (kept_yes g c2 c m A l w3 (Rds.of_own hown3.out) hc2 (HR.out.no q3.out) HL.out hm).mono ?_
  rintro e w4 ⟨rfl, o4⟩
  have hown4 := Lib.hid (own_only hown3.out o4 (fun _ _ => id))
  have q4 := Lib.hid (q3.out.trans o4)
  have z4 : Hid (g < w4.heap.size) := Lib.hid (Nat.lt_of_lt_of_le z3.out o4.size)
  clear o4 hown3 q3 z3
  go_wp2_with fail
  go_loopw [5, 6] (fun v5 v6 wr => ∃ n : Nat, v6 = .int .i64 ((n : Int) - 1) ∧ n ≤ m ∧ Hid (wr.ownsRow w4.heap.size 36 2 v5 (m - n) (exC (l.drop n).reverse) ∧ Only No w4 wr)) (fun _ v6 _ => (intOf v6 + 1).toNat)
  case atStart => exact ⟨m, rfl, by omega, Lib.hid ⟨by rw [List.drop_of_length_le (by rw [HL.out]; omega), Nat.sub_self]; exact World.ownsRow_nil _ _ _ _, Only.refl _ _⟩⟩
  case round =>
    obtain ⟨n, rfl, hn, hI⟩ := hrel
    cases n with
    | zero =>
      rw [show ((0 : Nat) : Int) - 1 = -1 from rfl]
      have hRow : Hid (wr.ownsRow w4.heap.size 36 2 u5 m (exC l.reverse)) := Lib.hid (by simpa using hI.out.1)
      have q5 : Hid (Only No w4 wr) := Lib.hid hI.out.2
      obtain ⟨A5, c5, rfl⟩ := own_slice hRow.out
      obtain ⟨w5, rfl⟩ : ∃ w5 : World, w5 = wr := ⟨_, rfl⟩
      clear hI
      have g5 : Hid (∀ b, (Value.slice A5 m c5).ownBlock = some b → g < b) := Lib.hid (fun b hb => by have h1 := own_ge hRow.out b hb; have h2 := z4.out; omega)
      have hTw : Hid (w5.ownsRow w.heap.size 36 2 (.slice (some ⟨g, 0, none⟩) (m + 12) c2) (m + 12) (exC (l ++ List.replicate 12 mark))) := Lib.hid (own_only hown4.out q5.out (fun _ _ => id))
      have hRL : Hid (l.reverse.length = m) := Lib.hid (by rw [List.length_reverse, HL.out])
      have hXL : Hid ((l ++ List.replicate 12 mark).length = m + 12) := Lib.hid (by rw [List.length_append, HL.out, List.length_replicate])
      obtain ⟨R, hR⟩ : ∃ R, Hid (R = l.reverse) := ⟨_, Lib.hid rfl⟩
      obtain ⟨X, hX⟩ : ∃ X, Hid (X = l ++ List.replicate 12 mark) := ⟨_, Lib.hid rfl⟩
      rw [← hR.out] at hRow hRL
      rw [← hX.out] at hTw hXL
      clear hown4
      go_wp2_with fail
      go_loopw [7] (fun v7 wr => ∃ i : Nat, v7 = .int .i64 i ∧ i ≤ m ∧ Hid (wr.ownsRow w.heap.size 36 2 (.slice (some ⟨g, 0, none⟩) (m + 12) c2) (m + 12) (exC (R.take i ++ X.drop i)) ∧ Only (One g) w5 wr)) (fun v7 _ => m - (intOf v7).toNat)
      case atStart => exact ⟨0, rfl, by omega, Lib.hid ⟨by simpa using hTw.out, Only.refl _ _⟩⟩
      case round =>
        obtain ⟨i, rfl, hi, hJ⟩ := hrel
        have hRr : Hid (Rds wr 2 A5 m (exC R)) := Lib.hid ((Rds.of_own hRow.out).only hJ.out.2 (fun hn ad he hb => by
          have h1 := g5.out ad.block (by rw [he]; simp only [Value.ownBlock])
          have h2 : ad.block = g := hb
          omega))
        by_cases hlt : i < m
        · have hlt' : (i : Int) < m := by omega
          obtain ⟨ad, rfl, p0, p1, pb⟩ := ex_cells hRr.out hRL.out i hlt
          obtain ⟨u, hu⟩ : ∃ u, Hid (u = R[i]'(by rw [hRL.out]; exact hlt)) := ⟨_, Lib.hid rfl⟩
          rw [← hu.out] at p0 p1
          have hlen : Hid ((R.take i ++ X.drop i).length = m + 12) := Lib.hid (by rw [List.length_append, List.length_take, List.length_drop, hRL.out, hXL.out]; omega)
          have hset : Hid (((wr.setCell ⟨g, i * 2, none⟩ (.int .u8 u.1)).setCell ⟨g, i * 2 + 1, none⟩ (.string u.2)).ownsRow w.heap.size 36 2 (.slice (some ⟨g, 0, none⟩) (m + 12) c2) (m + 12) (exC (R.take (i + 1) ++ X.drop (i + 1))) ∧ Only (One g) w5 ((wr.setCell ⟨g, i * 2, none⟩ (.int .u8 u.1)).setCell ⟨g, i * 2 + 1, none⟩ (.string u.2))) := Lib.hid (by
            refine ⟨?_, (hJ.out.2.setCell (p := ⟨g, i * 2, none⟩) (.inl rfl) _).setCell (p := ⟨g, i * 2 + 1, none⟩) (.inl rfl) _⟩
            rw [← mix_set R X i (by rw [hRL.out]; exact hlt) (by rw [hXL.out]; omega), ← hu.out, ← exC_set _ _ _ (by rw [hlen.out]; omega)]
            exact ((hJ.out.1.stored (i * 2) (.int .u8 u.1)).1.stored (i * 2 + 1) (.string u.2)).1)
          have f0 := hJ.out.1.frozenAt (i * 2)
          have f1 := hJ.out.1.frozenAt (i * 2 + 1)
          obtain ⟨u0, hu0⟩ : ∃ u, wr.cell? ⟨g, i * 2, none⟩ = some u := by
            rw [hJ.out.1.cellAt (i * 2) (by omega)]
            exact ⟨_, List.getElem?_eq_getElem (by rw [exC_len, hlen.out]; omega)⟩
          obtain ⟨u1, hu1⟩ : ∃ u, wr.cell? ⟨g, i * 2 + 1, none⟩ = some u := by
            rw [hJ.out.1.cellAt (i * 2 + 1) (by omega)]
            exact ⟨_, List.getElem?_eq_getElem (by rw [exC_len, hlen.out]; omega)⟩
          go_wp2
          go_roundw
          case rel => exact ⟨i + 1, by go_num, by omega, hset⟩
          case measure => simp [intOf]; omega
        · have hlt' : ¬ (i : Int) < m := by omega
          obtain rfl : i = m := by omega
          have hend : Hid (wr.ownsRow w.heap.size 36 2 (.slice (some ⟨g, 0, none⟩) (i + 12) c2) (i + 12) (exC (R ++ X.drop i))) := Lib.hid (by
            have := hJ.out.1
            rwa [List.take_of_length_le (by rw [hRL.out]; omega)] at this)
          go_wp2_with fail
          refine (asked20 (some ⟨g, 0, none⟩) A5 i c2 c5 R wr (own_pre hend.out hRL.out) hRr.out hRL.out hm (by rw [hR.out, szl_reverse]; exact HZ.out)).mono ?_
          rintro e w6 ⟨rfl, o6⟩
          replace o6 := Lib.hid o6
          go_wp2_with fail
          go_ret
          refine ⟨rfl, ?_⟩
          have h1 : Only No w w5 := q4.out.trans q5.out
          have h2 : Only No w wr := h1.then hJ.out.2 (fun b hb => .inr (by have h3 : b = g := hb; have h4 := hgw.out; omega))
          exact (h2.trans o6.out).below_no
    | succ n =>
      rw [show ((n + 1 : Nat) : Int) - 1 = (n : Int) from by omega]
      have hlt : n < m := by omega
      have hlt' : (n : Int) < m := by omega
      obtain ⟨ad, rfl, p0, p1, pb⟩ := ex_cells (HR.out.no (q4.out.trans hI.out.2)) HL.out n hlt
      obtain ⟨u, hu⟩ : ∃ u, Hid (u = l[n]'(by rw [HL.out]; exact hlt)) := ⟨_, Lib.hid rfl⟩
      rw [← hu.out] at p0 p1
      have hst : Hid ((l.drop n).reverse = (l.drop (n + 1)).reverse ++ [u]) := Lib.hid (by rw [List.drop_eq_getElem_cons (by rw [HL.out]; exact hlt), List.reverse_cons, ← hu.out])
      have hmn : Hid (m - n = m - (n + 1) + 1) := Lib.hid (by omega)
      have hmb : Hid (m - (n + 1) + 1 ≤ m) := Lib.hid (by omega)
      go_wp2_with (at_builtin; go_loud (refine Mm.wpList_append_any _ rfl (.tmp 30) (.tmp 35) _ rfl w4.heap.size 36 i0 _ 2 24 Try.underlying22 hi0 hz0 hz1 hz2 rfl (by omega) u5 (m - (n + 1)) (exC (l.drop (n + 1)).reverse) rfl (hI.out.1.alloc _) (some ⟨wr.heap.size, 0, none⟩) 1 1 [.int .u8 u.1, .string u.2] rfl (Rds.fresh (Blk.new _ _ _) rfl) (by simp [Value.oneCell']) (by have := hmb.out; simp only [maxLen]; omega) (by have := hmb.out; omega) (by have := hI.out.2.size; simp; omega) ?_); intro v5 w5 hown5 hon5 hat5)
      have hnew := Lib.hid (show w5.ownsRow w4.heap.size 36 2 v5 (m - n) (exC (l.drop n).reverse) ∧ Only No w4 w5 from ⟨by rw [hst.out, hmn.out, exC_append]; exact hown5, (hI.out.2.alloc _).then hon5 (fun i hi => .inr (own_ge hI.out.1 i hi))⟩)
      clear hown5 hon5 hat5
      go_roundw
      case rel => exact ⟨n, by go_num, by omega, hnew⟩
      case measure => simp [intOf]
end Go.Proofs.Ytehnahikfemodaa.Ct
