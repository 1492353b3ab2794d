/- A profile is read: the reference's. -/
import Derived.Test.YtehnahikfemodaaPr
namespace Go.Proofs.Ytehnahikfemodaa.Ct
open Go.ChangeShapes Go.WideShapes Go.RowKit Mm
theorem szs_take (l : List Ex) (k : Nat) : Pf.szs tt (pcs (l.take k)) ≤ Pf.szs tt (pcs l) := by
  unfold Pf.szs pcs
  conv => rhs; rw [← List.take_append_drop k l, List.filter_append, List.map_append, List.sum_append]
  omega
set_option maxRecDepth 100000 in
set_option maxHeartbeats 6400000 in
theorem rprof32 (A : Option Addr) (m c : Nat) (l : List Ex) (w : World) (hr : Rds w 2 A m (exC l)) (hl : l.length = m) (hm : m * 24 ≤ 140737488351232) (hz : szl l ≤ 140737488351232) :
    Calls Try.prog 32 #[.slice A m c] w fun e w' => e = .returned (.tuple #[.string (profR l).1, .int .i64 (profR l).2]) ∧ Only No w w' := by
  have HR := Lib.hid hr
  have HL := Lib.hid hl
  have HZ := Lib.hid (Nat.le_trans (szs_pcs l) hz)
  clear hr hl hz
  go_enter Try.func32, Try.ntmps32
  go_wp2_with fail
  go_loopw [4, 5, 6, 7] (fun v4 v5 v6 _ wr => ∃ k : Nat, v6 = .int .i64 k ∧ k ≤ m ∧ v4 = .int .i64 (pcs (l.take k)).length ∧ v5 = .int .i64 (Pf.lastC ct (pcs (l.take k))) ∧ Hid (Only No w wr)) (fun _ _ v6 _ _ => m - (intOf v6).toNat)
  case atStart => exact ⟨0, rfl, by omega, rfl, rfl, Lib.hid (Only.refl _ _)⟩
  case round =>
    obtain ⟨k, rfl, hk, rfl, rfl, hO⟩ := hrel
    have hpl : (pcs (l.take k)).length ≤ k := Nat.le_trans (pcs_len _) (by rw [List.length_take]; omega)
    have hc255 := lastC_le (pcs (l.take k))
    by_cases hlt : k < m
    · have hlt' : (k : Int) < m := by omega
      obtain ⟨ad, rfl, p0, p1, pb⟩ := ex_cells (HR.out.no hO.out) HL.out k hlt
      obtain ⟨u, hu⟩ : ∃ u, Hid (u = l[k]'(by rw [HL.out]; exact hlt)) := ⟨_, Lib.hid rfl⟩
      rw [← hu.out] at p0 p1
      have hst : Hid (pcs (l.take (k + 1)) = pcs (l.take k) ++ if isPc u then [u] else []) := Lib.hid (by rw [hu.out]; exact pcs_take l k (by rw [HL.out]; exact hlt))
      go_wp2_with fail
      refine (pieces43 u _).mono ?_
      rintro e w1 ⟨rfl, q1⟩
      have o1 : Hid (Only No w w1) := Lib.hid (hO.out.trans q1)
      obtain ⟨ad2, e2, r0, r1, rb⟩ := ex_cells (HR.out.no o1.out) HL.out k hlt
      obtain rfl := Option.some.inj e2
      rw [← hu.out] at r0 r1
      clear q1 e2
      rw [show isKind 226 iccH 14 u = isPc u from rfl]
      cases hqu : isPc u
      · rw [hqu] at hst
        have hst2 : Hid (pcs (l.take (k + 1)) = pcs (l.take k)) := Lib.hid (by simpa using hst.out)
        go_wp2_with fail
        go_roundw
        case rel => exact ⟨k + 1, by go_num, by omega, by rw [hst2.out], by rw [hst2.out], o1⟩
        case measure => simp [intOf]; omega
      · rw [hqu] at hst
        have hst2 : Hid (pcs (l.take (k + 1)) = pcs (l.take k) ++ [u]) := Lib.hid (by rw [hst.out]; rfl)
        have hlen := isPc_len hqu
        have h13 : (13 : Int) < u.2.size := by omega
        have e13 := Lib.hid (ct_eq u hlen)
        have b13 := (u.2[13]'(by omega)).toNat_lt
        replace hqu := Lib.hid hqu
        go_wp2_with fail
        go_roundw
        case rel => exact ⟨k + 1, by go_num, by omega, by rw [hst2.out, List.length_append]; go_num, by rw [hst2.out, Pf.lastC_snoc, e13.out], o1⟩
        case measure => simp [intOf]; omega
    · have hlt' : ¬ (k : Int) < m := by omega
      obtain ⟨p, hp⟩ : ∃ p, Hid (p = pcs (l.take k)) := ⟨_, Lib.hid rfl⟩
      have hpl2 : Hid (p = pcs l) := Lib.hid (by rw [hp.out, List.take_of_length_le (by rw [HL.out]; omega)])
      have hZp : Hid (Pf.szs tt p ≤ 140737488351232) := Lib.hid (by rw [hpl2.out]; exact HZ.out)
      rw [← hp.out] at hpl hc255 ⊢
      obtain ⟨F, hF⟩ : ∃ F, Hid (F = p.length) := ⟨_, Lib.hid rfl⟩
      obtain ⟨L, hL⟩ : ∃ L, Hid (L = Pf.lastC ct p) := ⟨_, Lib.hid rfl⟩
      rw [← hF.out] at hpl ⊢
      rw [← hL.out] at hc255 ⊢
      have hbd : ∀ x ∈ p, ct x ≠ L → profR l = (ByteArray.empty, 165) := fun x hx hne => by
        unfold profR
        rw [← hpl2.out]
        exact prof_bad (fun h => hne (by rw [hL.out]; exact Pf.Pw_last nm ct h.1 x hx))
      have hbm : ∀ j : Nat, j + 1 ≤ F → Pf.many nm p ((j + 1 : Nat) : Int) ≠ 1 → profR l = (ByteArray.empty, 165) := fun j hj hne => by
        unfold profR
        rw [← hpl2.out]
        exact prof_bad (fun h => hne (Pf.good_many nm ct h (j + 1) (by omega) (by rw [← hF.out]; exact hj)))
      have hbl : L ≠ F → profR l = (ByteArray.empty, 165) := fun hne => by
        unfold profR
        rw [← hpl2.out]
        exact prof_bad (fun h => hne (by rw [hL.out, hF.out]; exact h.2.1))
      replace hbd := Lib.hid hbd
      replace hbm := Lib.hid hbm
      replace hbl := Lib.hid hbl
      obtain ⟨wo, rfl⟩ : ∃ wo : World, wo = wr := ⟨_, rfl⟩
      go_wp2_with fail
      go_loopw [8, 9, 10, 11, 12] (fun v8 v9 _ _ _ wr => ∃ (j : Nat) (O : ByteArray), v9 = .int .i64 ((j : Int) + 1) ∧ v8 = .string O ∧ j ≤ F ∧ Hid (O = Pf.cat nm tt p j ∧ (1 ≤ j → (∀ x ∈ p, ct x = L) ∧ L = F) ∧ (∀ i : Nat, 1 ≤ i → i ≤ j → Pf.many nm p i = 1) ∧ Only No w wr)) (fun _ v9 _ _ _ _ => F + 1 - (intOf v9).toNat)
      case atStart => exact ⟨0, ByteArray.empty, rfl, rfl, by omega, Lib.hid ⟨rfl, fun h => by omega, fun i h1 h2 => by omega, hO.out⟩⟩
      case round =>
        obtain ⟨j, O, rfl, rfl, hj, hI⟩ := hrel
        by_cases hle : j + 1 ≤ F
        · have hle' : (j : Int) + 1 ≤ F := by omega
          obtain ⟨wq, rfl⟩ : ∃ wq : World, wq = wr := ⟨_, rfl⟩
          go_wp2_with fail
          go_loopw [8, 10, 11, 12] (fun v8 v10 v11 _ wr => ∃ (i : Nat) (O2 : ByteArray), v11 = .int .i64 i ∧ i ≤ m ∧ v8 = .string O2 ∧ O2.size ≤ 281474976702464 ∧ v10 = .int .i64 (Pf.many nm (pcs (l.take i)) ((j : Int) + 1)) ∧ Hid (O2 = Pf.cat nm tt p j ++ Pf.txs nm tt (pcs (l.take i)) ((j : Int) + 1) ∧ (∀ x ∈ pcs (l.take i), ct x = L) ∧ Only No w wr)) (fun _ _ v11 _ _ => m - (intOf v11).toNat)
          case atStart => exact ⟨0, O, rfl, by omega, rfl, by rw [hI.out.1]; have h1 := Pf.cat_le nm tt p j; have h2 := hZp.out; omega, rfl, Lib.hid ⟨by rw [hI.out.1]; simp [pcs, Pf.txs], fun x hx => by simp [pcs] at hx, hI.out.2.2.2⟩⟩
          case round =>
            obtain ⟨i, O2, rfl, hi, rfl, hO2, rfl, hI2⟩ := hrel
            have hmny : Pf.many nm (pcs (l.take i)) ((j : Int) + 1) ≤ i := by
              unfold Pf.many
              exact Nat.le_trans List.countP_le_length (Nat.le_trans (pcs_len _) (by rw [List.length_take]; omega))
            by_cases hlt2 : i < m
            · have hlt2' : (i : Int) < m := by omega
              obtain ⟨ad, rfl, p0, p1, pb⟩ := ex_cells (HR.out.no hI2.out.2.2) HL.out i hlt2
              obtain ⟨u, hu⟩ : ∃ u, Hid (u = l[i]'(by rw [HL.out]; exact hlt2)) := ⟨_, Lib.hid rfl⟩
              rw [← hu.out] at p0 p1
              have hst : Hid (pcs (l.take (i + 1)) = pcs (l.take i) ++ if isPc u then [u] else []) := Lib.hid (by rw [hu.out]; exact pcs_take l i (by rw [HL.out]; exact hlt2))
              have hmem : Hid (u ∈ l) := Lib.hid (by rw [hu.out]; exact List.getElem_mem _)
              go_wp2_with fail
              refine (pieces43 u _).mono ?_
              rintro e w1 ⟨rfl, q1⟩
              have o1 : Hid (Only No w w1) := Lib.hid (hI2.out.2.2.trans q1)
              obtain ⟨ad2, e2, r0, r1, rb⟩ := ex_cells (HR.out.no o1.out) HL.out i hlt2
              obtain rfl := Option.some.inj e2
              rw [← hu.out] at r0 r1
              clear q1 e2
              rw [show isKind 226 iccH 14 u = isPc u from rfl]
              cases hqu : isPc u
              · rw [hqu] at hst
                have hst2 : Hid (pcs (l.take (i + 1)) = pcs (l.take i)) := Lib.hid (by simpa using hst.out)
                go_wp2_with fail
                go_roundw
                case rel => exact ⟨i + 1, O2, by go_num, by omega, rfl, hO2, by rw [hst2.out], Lib.hid (by rw [hst2.out]; exact ⟨hI2.out.1, hI2.out.2.1, o1.out⟩)⟩
                case measure => simp [intOf]; omega
              · rw [hqu] at hst
                have hst2 : Hid (pcs (l.take (i + 1)) = pcs (l.take i) ++ [u]) := Lib.hid (by rw [hst.out]; rfl)
                have hlen := isPc_len hqu
                have hup : Hid (u ∈ p) := Lib.hid (by rw [hpl2.out]; unfold pcs; rw [List.mem_filter]; exact ⟨hmem.out, hqu⟩)
                have h12 : (12 : Int) < u.2.size := by omega
                have h13 : (13 : Int) < u.2.size := by omega
                have e12 := nm_eq u hlen
                have e13 := ct_eq u hlen
                have b12 := (u.2[12]'(by omega)).toNat_lt
                have b13 := (u.2[13]'(by omega)).toNat_lt
                replace hqu := Lib.hid hqu
                by_cases hcL : ct u = L
                · have n1 : ((u.2[13].toNat : Int) == L) = true := by rw [← e13, hcL]; exact beq_self_eq_true _
                  have n2 : ((u.2[13].toNat : Int) != L) = false := by rw [bne, n1]; rfl
                  have hall : Hid (∀ x ∈ pcs (l.take (i + 1)), ct x = L) := Lib.hid (by
                    rw [hst2.out]
                    intro x hx
                    rcases List.mem_append.1 hx with h | h
                    · exact hI2.out.2.1 x h
                    · rw [List.mem_singleton.1 h]; exact hcL)
                  by_cases hnj : nm u = (j : Int) + 1
                  · have n3 : ((u.2[12].toNat : Int) == (j : Int) + 1) = true := by rw [← e12, hnj]; exact beq_self_eq_true _
                    have hmy : Hid (Pf.many nm (pcs (l.take (i + 1))) ((j : Int) + 1) = Pf.many nm (pcs (l.take i)) ((j : Int) + 1) + 1) := Lib.hid (by rw [hst2.out, Pf.many_snoc, hnj, beq_self_eq_true]; rfl)
                    have hOn : Hid (O2 ++ u.2.extract 14 u.2.size = Pf.cat nm tt p j ++ Pf.txs nm tt (pcs (l.take (i + 1))) ((j : Int) + 1)) := Lib.hid (by
                      rw [hst2.out, Pf.txs_snoc, hnj, beq_self_eq_true, hI2.out.1, if_pos rfl, ByteArray.append_assoc]; rfl)
                    have hOs : Hid ((O2 ++ u.2.extract 14 u.2.size).size ≤ 281474976702464) := Lib.hid (by
                      rw [hOn.out, ByteArray.size_append]
                      have h1 := Pf.cat_le nm tt p j
                      have h2 := Pf.txs_le nm tt (pcs (l.take (i + 1))) ((j : Int) + 1)
                      have h3 := szs_take l (i + 1)
                      have h4 := hZp.out
                      have h5 := HZ.out
                      omega)
                    have hadd : O2.size + (u.2.extract 14 u.2.size).size ≤ 9223372036854775807 := by have := hOs.out; rw [ByteArray.size_append] at this; omega
                    have hadd2 : O2.size + (u.2.size - 14) ≤ 9223372036854775807 := by rw [ByteArray.size_extract] at hadd; omega
                    replace e12 := Lib.hid e12
                    replace e13 := Lib.hid e13
                    replace hcL := Lib.hid hcL
                    replace hnj := Lib.hid hnj
                    go_wp2_with fail
                    go_roundw
                    case rel => exact ⟨i + 1, _, by go_num, by omega, rfl, hOs.out, by rw [hmy.out]; go_num, Lib.hid ⟨hOn.out, hall.out, o1.out⟩⟩
                    case measure => simp [intOf]; omega
                  · have n3 : ((u.2[12].toNat : Int) == (j : Int) + 1) = false := by rw [← e12]; exact beq_eq_false_iff_ne.2 hnj
                    have hmy : Hid (Pf.many nm (pcs (l.take (i + 1))) ((j : Int) + 1) = Pf.many nm (pcs (l.take i)) ((j : Int) + 1)) := Lib.hid (by rw [hst2.out, Pf.many_snoc, beq_eq_false_iff_ne.2 hnj]; rfl)
                    have hOn : Hid (O2 = Pf.cat nm tt p j ++ Pf.txs nm tt (pcs (l.take (i + 1))) ((j : Int) + 1)) := Lib.hid (by
                      rw [hst2.out, Pf.txs_snoc, beq_eq_false_iff_ne.2 hnj, hI2.out.1]; rfl)
                    replace e12 := Lib.hid e12
                    replace e13 := Lib.hid e13
                    replace hcL := Lib.hid hcL
                    replace hnj := Lib.hid hnj
                    go_wp2_with fail
                    go_roundw
                    case rel => exact ⟨i + 1, O2, by go_num, by omega, rfl, hO2, by rw [hmy.out], Lib.hid ⟨hOn.out, hall.out, o1.out⟩⟩
                    case measure => simp [intOf]; omega
                · have n1 : ((u.2[13].toNat : Int) == L) = false := by rw [← e13]; exact beq_eq_false_iff_ne.2 hcL
                  have n2 : ((u.2[13].toNat : Int) != L) = true := by rw [bne, n1]; rfl
                  have hbad := Lib.hid (hbd.out u hup.out hcL)
                  replace e12 := Lib.hid e12
                  replace e13 := Lib.hid e13
                  replace hcL := Lib.hid hcL
                  go_wp2_with fail
                  go_ret2
                  exact ⟨by rw [hbad.out]; rfl, o1.out⟩
            · have hlt2' : ¬ (i : Int) < m := by omega
              have hpi : Hid (pcs (l.take i) = p) := Lib.hid (by rw [hpl2.out, List.take_of_length_le (by rw [HL.out]; omega)])
              obtain ⟨M, hM⟩ : ∃ M, Hid (M = Pf.many nm p ((j : Int) + 1)) := ⟨_, Lib.hid rfl⟩
              rw [hpi.out, ← hM.out] at hmny ⊢
              by_cases hM1 : M = 1
              · obtain rfl := hM1
                by_cases hLF : L = F
                · have n1 : (L == (F : Int)) = true := by rw [hLF]; exact beq_self_eq_true _
                  have n2 : (L != (F : Int)) = false := by rw [bne, n1]; rfl
                  have hO3 : Hid (O2 = Pf.cat nm tt p (j + 1)) := Lib.hid (by
                    rw [hI2.out.1, hpi.out, Pf.txs_one nm tt hM.out.symm]; rfl)
                  have hnew : Hid ((∀ x ∈ p, ct x = L) ∧ L = F) := Lib.hid ⟨by rw [← hpi.out]; exact hI2.out.2.1, hLF⟩
                  have hones : Hid (∀ a : Nat, 1 ≤ a → a ≤ j + 1 → Pf.many nm p a = 1) := Lib.hid (fun a h1 h2 => by
                    by_cases ha : a ≤ j
                    · exact hI.out.2.2.1 a h1 ha
                    · obtain rfl : a = j + 1 := by omega
                      exact hM.out.symm)
                  replace hLF := Lib.hid hLF
                  go_wp2_with fail
                  go_roundw
                  case rel => exact ⟨j + 1, O2, by go_num, rfl, by omega, Lib.hid ⟨hO3.out, fun _ => hnew.out, hones.out, hI2.out.2.2⟩⟩
                  case measure => simp [intOf]; omega
                · have n1 : (L == (F : Int)) = false := beq_eq_false_iff_ne.2 hLF
                  have n2 : (L != (F : Int)) = true := by rw [bne, n1]; rfl
                  have hbad := Lib.hid (hbl.out hLF)
                  replace hLF := Lib.hid hLF
                  go_wp2_with fail
                  go_ret2
                  exact ⟨by rw [hbad.out]; rfl, hI2.out.2.2⟩
              · have n1 : ((M : Int) == 1) = false := by rw [beq_eq_false_iff_ne]; omega
                have n2 : ((M : Int) != 1) = true := by rw [bne, n1]; rfl
                have hbad := Lib.hid (hbm.out j hle (by rw [show ((j + 1 : Nat) : Int) = (j : Int) + 1 from by omega, ← hM.out]; exact hM1))
                replace hM1 := Lib.hid hM1
                go_wp2_with fail
                go_ret2
                exact ⟨by rw [hbad.out]; rfl, hI2.out.2.2⟩
        · have hle' : ¬ (j : Int) + 1 ≤ F := by omega
          obtain rfl : j = F := by omega
          have hgood : Hid (profR l = (O, 0)) := Lib.hid (by
            have hg : Pf.Good nm ct p := by
              by_cases hj0 : j = 0
              · have hp0 : p = [] := List.eq_nil_of_length_eq_zero (by rw [← hF.out]; exact hj0)
                rw [hp0]
                exact ⟨Pf.Pw_nil nm ct, rfl, fun i h1 h2 => by simp at h2; omega⟩
              · have h1 := hI.out.2.1 (by omega)
                exact Pf.good_of nm ct (fun x hx => by rw [← hL.out]; exact h1.1 x hx) (by rw [← hL.out, ← hF.out]; exact h1.2) (fun i h2 h3 => hI.out.2.2.1 i h2 (by rw [hF.out]; exact h3))
            unfold profR
            rw [← hpl2.out, prof_good hg, ← hF.out, hI.out.1])
          go_wp2_with fail
          go_ret2
          exact ⟨by rw [hgood.out]; rfl, hI.out.2.2.2⟩
end Go.Proofs.Ytehnahikfemodaa.Ct
