/- A profile is read: the program's. -/
import Derived.Test.YtehnahikfemodaaPf
import Derived.Test.YtehnahikfemodaaPm
import Derived.Test.YtehnahikfemodaaBld
import Derived.Test.YtehnahikfemodaaRk
import Derived.Laws.EntriesVeiled
namespace Go.Proofs.Ytehnahikfemodaa.Ct
open Go.ChangeShapes Go.WideShapes Go.RowKit Mm
def nm (x : Ex) : Int := byteAt x.2 12
def ct (x : Ex) : Int := byteAt x.2 13
def tt (x : Ex) : ByteArray := x.2.extract 14 x.2.size
def isPc (x : Ex) : Bool := isKind 226 iccH 14 x
def pcs (l : List Ex) : List Ex := l.filter isPc
noncomputable def profR (l : List Ex) : ByteArray × Int := Pf.prof nm ct tt (pcs l)
def szl (l : List Ex) : Nat := (l.map fun x => x.2.size).sum
theorem szs_pcs (l : List Ex) : Pf.szs tt (pcs l) ≤ szl l := by
  unfold Pf.szs pcs szl
  induction l with
  | nil => simp
  | cons a l ih =>
    rw [List.filter_cons]
    split
    · simp only [List.map_cons, List.sum_cons]
      have : (tt a).size ≤ a.2.size := by unfold tt; rw [ByteArray.size_extract]; omega
      omega
    · simp only [List.map_cons, List.sum_cons]
      omega
theorem pcs_take (l : List Ex) (k : Nat) (h : k < l.length) : pcs (l.take (k + 1)) = pcs (l.take k) ++ if isPc l[k] then [l[k]] else [] := by
  unfold pcs
  rw [List.take_succ_eq_append_getElem h, List.filter_append]
  congr 1
  by_cases hc : isPc l[k] = true
  · simp [hc]
  · simp [hc]
theorem pcs_len (l : List Ex) : (pcs l).length ≤ l.length := List.length_filter_le _ _
/-- the map of pieces -/
def fm (p : List Ex) : Int → Option ByteArray := fun k => (p.find? fun x => nm x == k).map tt
theorem fm_nil : fm [] = fun _ => none := rfl
theorem fm_snoc (p : List Ex) (x : Ex) (h : ∀ a ∈ p, nm a ≠ nm x) : fm (p ++ [x]) = fun j => if j = nm x then some (tt x) else fm p j := by
  funext j
  unfold fm
  rw [List.find?_append]
  by_cases hj : j = nm x
  · have h0 : p.find? (fun y => nm y == j) = none := by
      rw [List.find?_eq_none]
      intro a ha hc
      exact h a ha (by rw [← hj]; simpa using hc)
    rw [h0, if_pos hj]
    simp [hj]
  · have h0 : [x].find? (fun y => nm y == j) = none := by
      rw [List.find?_eq_none]
      intro a ha hc
      rw [List.mem_singleton.1 ha] at hc
      exact hj (by symm; simpa using hc)
    rw [h0, if_neg hj]
    simp
theorem fm_some (p : List Ex) (k : Int) : (fm p k).isSome = true ↔ ∃ a ∈ p, nm a = k := by
  unfold fm
  rw [Option.isSome_map, List.find?_isSome]
  simp
theorem prof_bad {p : List Ex} (h : ¬ Pf.Good nm ct p) : Pf.prof nm ct tt p = (ByteArray.empty, 165) := if_neg h
theorem prof_good {p : List Ex} (h : Pf.Good nm ct p) : Pf.prof nm ct tt p = (Pf.cat nm tt p p.length, 0) := if_pos h
/-- a bad beginning makes a bad whole -/
theorem bad_pre {l : List Ex} {k : Nat} (h : ¬ Pf.Pw nm ct (pcs (l.take k))) : profR l = (ByteArray.empty, 165) := by
  refine prof_bad fun hg => h ?_
  refine Pf.Pw_take nm ct hg.1 _ (pcs (l.drop k)) ?_
  unfold pcs
  rw [← List.filter_append, List.take_append_drop]
theorem isPc_len {x : Ex} (h : isPc x = true) : (14 : Int) ≤ x.2.size := by
  unfold isPc isKind at h
  simp only [Bool.and_eq_true, decide_eq_true_eq] at h
  exact h.2
/-- what holds ahead of round k -/
def PrI (l : List Ex) (B k : Nat) (W wr : World) : Prop := Pf.Pw nm ct (pcs (l.take k)) ∧ PM wr B (pcs (l.take k)).length (fm (pcs (l.take k))) ∧ Only (One B) W wr
theorem nm_eq (x : Ex) (h : (14 : Int) ≤ x.2.size) : nm x = (x.2[12]'(by omega)).toNat := byteAt_eq _ _ _
theorem ct_eq (x : Ex) (h : (14 : Int) ≤ x.2.size) : ct x = (x.2[13]'(by omega)).toNat := byteAt_eq _ _ _
theorem lastC_le (p : List Ex) : 0 ≤ Pf.lastC ct p ∧ Pf.lastC ct p ≤ 255 := by
  unfold Pf.lastC
  cases p.getLast? with
  | none => simp
  | some x => exact byteAt_le _ _
theorem bld_alloc {b : Nat} {bs : List Value} {w : World} (h : Lib.IsBuilder 70 5 b b bs w) (o : Obj) : Lib.IsBuilder 70 5 b b bs (w.alloc o) := by
  rcases h with h | h
  · obtain ⟨h1, v, h2, h3, h4⟩ := h
    exact .inl ⟨h1, v, (Below.heap_alloc w o b (Array.getElem?_eq_some_iff.1 h2).1).trans h2, h3.alloc o, h4⟩
  · obtain ⟨h1, v, h2, h3, h4⟩ := h
    exact .inr ⟨h1, v, (Below.heap_alloc w o b (Array.getElem?_eq_some_iff.1 h2).1).trans h2, h3.alloc o, h4⟩
theorem wrap_byte (b : UInt8) : wrap64 (b.toNat : Int) = b.toNat := by have := b.toNat_lt; unfold wrap64; omega
set_option maxRecDepth 100000 in
set_option maxHeartbeats 6400000 in
theorem prof27s (A : Option Addr) (m c : Nat) (l : List Ex) (w : World) (hr : Rds w 2 A m (exC l)) (hl : l.length = m) (hm : m * 24 ≤ 140737488355328) (hz : Pf.szs tt (pcs l) ≤ 140737488351232) :
    Calls Try.prog 27 #[.slice A m c] w fun e w' => e = .returned (.tuple #[.string (profR l).1, .int .i64 (profR l).2]) ∧ Only No w w' := by
  have hmf : ∀ (fn : Fn) (first cap : Array Value) (w : World), (Instr.makeFunc fn first cap).run Try.prog w = .ok (.func fn first cap) w := fun _ _ _ _ => rfl
  have hmm := @run_makeMap Try.prog
  have HR := Lib.hid hr
  have HL := Lib.hid hl
  have HZ := Lib.hid hz
  clear hr hl hz
  go_enter Try.func27, Try.ntmps27
  go_wp2_with fail
  refine (kind_any 226 iccH 14 w).mono ?_
  rintro e w1 ⟨f, rfl, hk, o1⟩
  have hf := hk.f
  subst hf
  replace hk := Lib.hid hk
  replace o1 := Lib.hid o1
  go_wp2_with fail
  obtain ⟨W, hW⟩ : ∃ W, W = w1.alloc (.map #[] 0) := ⟨_, rfl⟩
  rw [← hW]
  obtain ⟨B, hB⟩ : ∃ B, B = w1.heap.size := ⟨_, rfl⟩
  rw [← hB]
  have hP : Hid (PM W B 0 (fun _ => none)) := Lib.hid (by rw [hW, hB]; exact PM.made _)
  have oW1 : Only No w1 W := by rw [hW]; exact (Only.refl _ _).alloc _
  have oW : Hid (Only No w W) := Lib.hid (o1.out.trans oW1)
  have hK : Hid (KC W (.func (.func 47) #[] #[P w.heap.size, P (w.heap.size + 1), P (w.heap.size + 2)]) 226 iccH 14 w.heap.size (w.heap.size + 1) (w.heap.size + 2)) := Lib.hid (hk.out.no oW1)
  have hwB : Hid (w.heap.size + 2 < B) := Lib.hid (by rw [hB]; exact hk.out.b3.lt)
  clear hW hB oW1 hk o1
  go_loopw [6, 7, 9, 10, 11, 12, 13, 22] (fun v6 v7 _ _ _ _ _ v22 wr => ∃ k : Nat, v22 = .int .i64 k ∧ k ≤ m ∧ v6 = .int .i64 (pcs (l.take k)).length ∧ v7 = .int .i64 (Pf.lastC ct (pcs (l.take k))) ∧ Hid (PrI l B k W wr)) (fun _ _ _ _ _ _ _ v22 _ => m - (intOf v22).toNat)
  case atStart => exact ⟨0, rfl, by omega, rfl, rfl, Lib.hid ⟨by simpa [pcs] using Pf.Pw_nil nm ct, by simpa [pcs, fm_nil] using hP.out, Only.refl _ _⟩⟩
  case round =>
    obtain ⟨k, rfl, hk, rfl, rfl, hI⟩ := hrel
    have hpl : (pcs (l.take k)).length ≤ k := Nat.le_trans (pcs_len _) (by rw [List.length_take]; omega)
    have hc255 := lastC_le (pcs (l.take k))
    by_cases hlt : k < m
    · have hlt' : (k : Int) < m := by omega
      have hO : Hid (Only (One B) W wr) := Lib.hid hI.out.2.2
      have HRW : Hid (Rds wr 2 A m (exC l)) := Lib.hid ((HR.out.no oW.out).only hO.out (fun hn ad he hb => by
        obtain ⟨ad', he', hb', _⟩ := HR.out.2 hn
        rw [he] at he'
        injection he' with he'
        subst he'
        have := hwB.out
        have hb2 : ad.block = B := hb
        omega))
      obtain ⟨ad, rfl, p0, p1, pb⟩ := ex_cells HRW.out HL.out k hlt
      obtain ⟨u, hu⟩ : ∃ u, Hid (u = l[k]'(by rw [HL.out]; exact hlt)) := ⟨_, Lib.hid rfl⟩
      rw [← hu.out] at p0 p1
      have hst : Hid (pcs (l.take (k + 1)) = pcs (l.take k) ++ if isPc u then [u] else []) := Lib.hid (by rw [hu.out]; exact pcs_take l k (by rw [HL.out]; exact hlt))
      have hKr : Hid (KC wr (.func (.func 47) #[] #[P w.heap.size, P (w.heap.size + 1), P (w.heap.size + 2)]) 226 iccH 14 w.heap.size (w.heap.size + 1) (w.heap.size + 2)) := Lib.hid (by
        have h0 := hwB.out
        exact ⟨hK.out.f, hK.out.b1.only hO.out (fun h => by have h2 : w.heap.size = B := h; omega), hK.out.b2.only hO.out (fun h => by have h2 : w.heap.size + 1 = B := h; omega), hK.out.b3.only hO.out (fun h => by have h2 : w.heap.size + 2 = B := h; omega)⟩)
      go_wp2_with fail
      refine (kind1_any 226 iccH 14 _ _ _ u _ _ (hKr.out.no ((Only.refl _ _).alloc _))).mono ?_
      rintro e w2 ⟨rfl, q1⟩
      have hbx : Blk w2 wr.heap.size 36 #[.int .u8 u.1, .string u.2] := (Blk.new wr 36 #[.int .u8 u.1, .string u.2]).only q1 id
      have hc0 : w2.cell? ⟨wr.heap.size, 0, none⟩ = some (.int .u8 u.1) := hbx.cell 0
      have hc1 : w2.cell? ⟨wr.heap.size, 1, none⟩ = some (.string u.2) := hbx.cell 1
      have o2 : Hid (Only No wr w2) := Lib.hid (((Only.refl _ _).alloc _).trans q1)
      clear q1
      rw [show isKind 226 iccH 14 u = isPc u from rfl]
      cases hqu : isPc u
      · rw [hqu] at hst
        have hst2 : Hid (pcs (l.take (k + 1)) = pcs (l.take k)) := Lib.hid (by simpa using hst.out)
        go_wp2_with fail
        go_roundw
        case rel => exact ⟨k + 1, by go_num, by omega, by rw [hst2.out], by rw [hst2.out], Lib.hid (by unfold PrI; rw [hst2.out]; exact ⟨hI.out.1, hI.out.2.1.only o2.out id, hO.out.trans (o2.out.mono fun _ h => h.elim)⟩)⟩
        case measure => simp [intOf]; omega
      · rw [hqu] at hst
        have hlen := isPc_len hqu
        have h12 : (12 : Int) < u.2.size := by omega
        have h13 : (13 : Int) < u.2.size := by omega
        have e12 := Lib.hid (nm_eq u hlen)
        have e13 := Lib.hid (ct_eq u hlen)
        have b12 := (u.2[12]'(by omega)).toNat_lt
        have b13 := (u.2[13]'(by omega)).toNat_lt
        replace hqu := Lib.hid hqu
        go_wp2_with fail
        go_quiet (fail)
        rw [← e12.out, ← e13.out]
        have oD : Hid (Only No wr (w2.drewN nq)) := Lib.hid (o2.out.drewN nq)
        have hbd : Hid (Blk (w2.drewN nq) wr.heap.size 36 #[.int .u8 u.1, .string u.2]) := Lib.hid (hbx.drewN nq)
        have hPM : Hid (PM (w2.drewN nq) B (pcs (l.take k)).length (fm (pcs (l.take k)))) := Lib.hid (hI.out.2.1.only oD.out id)
        obtain ⟨w3, hw3⟩ : ∃ w3, w3 = w2.drewN nq := ⟨_, rfl⟩
        rw [← hw3] at oD hbd hPM ⊢
        clear hw3 hc0 hc1
        have hd1 : w3.cell? ⟨wr.heap.size, 1, none⟩ = some (.string u.2) := hbd.out.cell 1
        have hdl := hbd.out.lt
        have h14 : (14 : Int) ≤ u.2.size := hlen
        replace hbx := Lib.hid hbx
        obtain ⟨N, hN⟩ : ∃ N : Int, N = nm u := ⟨_, rfl⟩
        obtain ⟨C, hC⟩ : ∃ C : Int, C = ct u := ⟨_, rfl⟩
        have hNb : 0 ≤ N ∧ N ≤ 255 := by rw [hN]; exact byteAt_le _ _
        have hCb : 0 ≤ C ∧ C ≤ 255 := by rw [hC]; exact byteAt_le _ _
        rw [← hN, ← hC]
        replace hN := Lib.hid hN
        replace hC := Lib.hid hC
        obtain ⟨p, hp⟩ : ∃ p, Hid (p = pcs (l.take k)) := ⟨_, Lib.hid rfl⟩
        rw [← hp.out] at hst hpl hc255 hPM ⊢
        have hpw := Lib.hid hI.out.1
        rw [← hp.out] at hpw
        have oR : Hid (Only (One B) W w3) := Lib.hid (hO.out.trans (oD.out.mono fun _ h => h.elim))
        have oF : Hid (∀ w' , Only (One B) W w' → Only No w w') := Lib.hid (fun w' h => oW.out.then h (fun i hi => .inr (by have h1 := hwB.out; have h2 : i = B := hi; omega)))
        cases htw : (fm p N).isSome
        · have hnew : Hid (∀ a ∈ p, nm a ≠ nm u) := Lib.hid (fun a ha he => by
            have : (fm p N).isSome = true := (fm_some p N).2 ⟨a, ha, by rw [hN.out, he]⟩
            rw [htw] at this
            cases this)
          by_cases hpn : p.length = 0
          · have hg0 : ¬ (0 : Int) < p.length := by omega
            have hgd : decide ((0 : Int) < (p.length : Int)) = false := decide_eq_false hg0
            have hpe : Hid (p = [] ∨ ct u = Pf.lastC ct p) := Lib.hid (.inl (List.eq_nil_of_length_eq_zero hpn))
            replace hpn := Lib.hid hpn
            go_wp2_with (first | (at_lookup; refine wpList_pm_look _ rfl _ _ rfl B p.length (fm p) rfl hPM.out N rfl (WalkArith.wf_i64 (by omega)) ?_) | (at_mapUpdate; go_loud (refine wpList_pm_put _ rfl _ _ _ rfl B p.length (fm p) rfl (hPM.out.only ((Only.refl No _).alloc _) id) (by simp only [maxLen]; omega) N (tt u) rfl rfl (WalkArith.wf_i64 (by omega)) ?_); intro w4 hpm4 ho4))
            have hst3 : Hid (pcs (l.take (k + 1)) = p ++ [u]) := Lib.hid (by rw [hst.out]; rfl)
            have hnw : Hid (PrI l B (k + 1) W w4) := Lib.hid (by
              unfold PrI
              rw [hst3.out, List.length_append, fm_snoc p u hnew.out, ← hN.out]
              exact ⟨Pf.Pw_more nm ct hpw.out u hnew.out hpe.out, hpm4, (oR.out.alloc _).trans ho4⟩)
            clear hpm4 ho4
            go_wp2
            go_roundw
            case rel => exact ⟨k + 1, by go_num, by omega, by rw [hst3.out, List.length_append]; go_num, by rw [hst3.out, Pf.lastC_snoc, ← hC.out], hnw⟩
            case measure => simp [intOf]; omega
          · have hg0 : (0 : Int) < p.length := by omega
            have hgd : decide ((0 : Int) < (p.length : Int)) = true := decide_eq_true hg0
            by_cases hcc : C = Pf.lastC ct p
            · have hpe : Hid (p = [] ∨ ct u = Pf.lastC ct p) := Lib.hid (.inr (by rw [← hC.out, hcc]))
              have hce : (C == Pf.lastC ct p) = true := by rw [hcc]; exact beq_self_eq_true _
              have hcn : (C != Pf.lastC ct p) = false := by rw [bne, hce]; rfl
              replace hcc := Lib.hid hcc
              go_wp2_with (first | (at_lookup; refine wpList_pm_look _ rfl _ _ rfl B p.length (fm p) rfl hPM.out N rfl (WalkArith.wf_i64 (by omega)) ?_) | (at_mapUpdate; go_loud (refine wpList_pm_put _ rfl _ _ _ rfl B p.length (fm p) rfl (hPM.out.only ((Only.refl No _).alloc _) id) (by simp only [maxLen]; omega) N (tt u) rfl rfl (WalkArith.wf_i64 (by omega)) ?_); intro w4 hpm4 ho4))
              have hst3 : Hid (pcs (l.take (k + 1)) = p ++ [u]) := Lib.hid (by rw [hst.out]; rfl)
              have hnw : Hid (PrI l B (k + 1) W w4) := Lib.hid (by
                unfold PrI
                rw [hst3.out, List.length_append, fm_snoc p u hnew.out, ← hN.out]
                exact ⟨Pf.Pw_more nm ct hpw.out u hnew.out hpe.out, hpm4, (oR.out.alloc _).trans ho4⟩)
              clear hpm4 ho4
              go_wp2
              go_roundw
              case rel => exact ⟨k + 1, by go_num, by omega, by rw [hst3.out, List.length_append]; go_num, by rw [hst3.out, Pf.lastC_snoc, ← hC.out], hnw⟩
              case measure => simp [intOf]; omega
            · have hbad : Hid (profR l = (ByteArray.empty, 165)) := Lib.hid (bad_pre (k := k + 1) (by
                rw [hst.out]
                intro hpw2
                rcases (Pf.Pw_fall nm ct u hpw2).2 with h | h
                · rw [h] at hpn; exact hpn rfl
                · exact hcc (by rw [hC.out, h])))
              have hce : (C == Pf.lastC ct p) = false := by rw [beq_eq_false_iff_ne]; exact hcc
              have hcn : (C != Pf.lastC ct p) = true := by rw [bne, hce]; rfl
              replace hcc := Lib.hid hcc
              replace hpn := Lib.hid hpn
              go_wp2_with (at_lookup; refine wpList_pm_look _ rfl _ _ rfl B p.length (fm p) rfl hPM.out N rfl (WalkArith.wf_i64 (by omega)) ?_)
              go_ret2
              exact ⟨by rw [hbad.out]; rfl, oF.out _ (oR.out.alloc _)⟩
        · have hbad : Hid (profR l = (ByteArray.empty, 165)) := Lib.hid (bad_pre (k := k + 1) (by
            rw [hst.out]
            intro hpw2
            obtain ⟨a, ha, he⟩ := (fm_some p N).1 htw
            exact (Pf.Pw_fall nm ct u hpw2).1 a ha (by rw [he, hN.out])))
          go_wp2_with (at_lookup; refine wpList_pm_look _ rfl _ _ rfl B p.length (fm p) rfl hPM.out N rfl (WalkArith.wf_i64 (by omega)) ?_)
          go_ret2
          exact ⟨by rw [hbad.out]; rfl, oF.out _ (oR.out.alloc _)⟩
    · have hlt' : ¬ (k : Int) < m := by omega
      have hO : Hid (Only No w wr) := Lib.hid (oW.out.then hI.out.2.2 (fun i hi => .inr (by have h1 := hwB.out; have h2 : i = B := hi; omega)))
      obtain ⟨p, hp⟩ : ∃ p, Hid (p = pcs (l.take k)) := ⟨_, Lib.hid rfl⟩
      have hpl2 : Hid (p = pcs l) := Lib.hid (by rw [hp.out, List.take_of_length_le (by rw [HL.out]; omega)])
      have hpw : Hid (Pf.Pw nm ct p) := Lib.hid (by rw [hp.out]; exact hI.out.1)
      have hPM : Hid (PM wr B p.length (fm p)) := Lib.hid (by rw [hp.out]; exact hI.out.2.1)
      have hsz : Hid (Pf.szs tt p ≤ 140737488351232) := Lib.hid (by rw [hpl2.out]; exact HZ.out)
      rw [← hp.out] at hpl hc255 ⊢
      clear hI
      by_cases hFL : Pf.lastC ct p = p.length
      · rw [hFL] at hc255 ⊢
        obtain ⟨F, hF⟩ : ∃ F, Hid (F = p.length) := ⟨_, Lib.hid rfl⟩
        rw [← hF.out] at hc255 hPM ⊢
        replace hFL := Lib.hid hFL
        go_wp2_with fail
        obtain ⟨b, hb⟩ : ∃ b, b = wr.heap.size := ⟨_, rfl⟩
        obtain ⟨W2, hW2⟩ : ∃ W2, W2 = wr.alloc (.cells #[.pointer none, .slice none 0 0] 70) := ⟨_, rfl⟩
        rw [← hW2, ← hb]
        have hBd : Hid (Lib.IsBuilder 70 5 b b [] W2) := Lib.hid (by
          refine .inl ⟨Nat.le_refl _, .slice none 0 0, ?_, World.ownsRow_nil _ _ _ _, by simp [Value.ownBlock]⟩
          rw [hW2, hb]
          exact heap_alloc_new wr _)
        have hPM2 : Hid (PM W2 B F (fm p)) := Lib.hid (by rw [hW2]; exact hPM.out.only ((Only.refl No _).alloc _) id)
        have hBb : Hid (B < b) := Lib.hid (by rw [hb]; exact hPM.out.lt)
        have hb2 : Hid (b ≤ W2.heap.size) := Lib.hid (by rw [hW2, hb]; simp)
        have hOW2 : Hid (∀ w', Below b W2 w' → Only No w w') := Lib.hid (fun w' h => by
          have h1 : Only No w W2 := by rw [hW2]; exact hO.out.alloc _
          have h2 : Only (fun i => b ≤ i) W2 w' := ⟨h.os, h.tape, h.output, h.size, fun i _ hn => h.block i (by omega)⟩
          have h3 := hO.out.size
          exact h1.then h2 (fun i hi => .inr (by have h4 : b ≤ i := hi; omega)))
        clear hW2 hb
        obtain ⟨wo, rfl⟩ : ∃ wo : World, wo = wr := ⟨_, rfl⟩
        go_loopw [15, 16, 17] (fun v15 _ _ w' => ∃ j : Nat, v15 = .int .i64 ((j : Int) + 1) ∧ j ≤ F ∧ Hid ((∀ i : Nat, 1 ≤ i → i ≤ j → ∃ x ∈ p, nm x = i) ∧ Lib.IsBuilder 70 5 b b (Lib.strCells (Pf.cat nm tt p j)) w' ∧ Below b W2 w')) (fun v15 _ _ _ => F + 1 - (intOf v15).toNat)
        case atStart => exact ⟨0, rfl, by omega, Lib.hid ⟨fun i h1 h2 => by omega, hBd.out, Below.refl _ _⟩⟩
        case round =>
          obtain ⟨j, rfl, hj, hI2⟩ := hrel
          have hPMr : Hid (PM wr B F (fm p)) := Lib.hid (hPM2.out.kept (hI2.out.2.2.block B hBb.out))
          have hbr : Hid (b ≤ wr.heap.size) := Lib.hid (Nat.le_trans hb2.out hI2.out.2.2.size)
          by_cases hle : j + 1 ≤ F
          · have hle' : (j : Int) + 1 ≤ F := by omega
            have hcat : Hid (Pf.cat nm tt p (j + 1) = Pf.cat nm tt p j ++ Pf.tx nm tt p ((j : Int) + 1)) := Lib.hid rfl
            have htx : Hid ((fm p ((j : Int) + 1)).getD ByteArray.empty = Pf.tx nm tt p ((j : Int) + 1)) := Lib.hid rfl
            cases hso : (fm p ((j : Int) + 1)).isSome
            · have hbad : Hid (profR l = (ByteArray.empty, 165)) := Lib.hid (by
                unfold profR
                rw [← hpl2.out]
                refine prof_bad (fun h => ?_)
                obtain ⟨x, hx, he⟩ := h.2.2 (j + 1) (by omega) (by have := hF.out; omega)
                have := (fm_some p ((j : Int) + 1)).2 ⟨x, hx, by rw [he]; rfl⟩
                rw [hso] at this
                cases this)
              go_wp2_with (at_lookup; refine wpList_pm_look _ rfl _ _ rfl B F (fm p) rfl hPMr.out ((j : Int) + 1) rfl (WalkArith.wf_i64 (by omega)) ?_)
              go_ret2
              exact ⟨by rw [hbad.out]; rfl, (hOW2.out _ hI2.out.2.2).alloc _⟩
            · have hex : Hid (∃ x ∈ p, nm x = ((j + 1 : Nat) : Int)) := Lib.hid ((fm_some p ((j : Int) + 1)).1 hso)
              have hszj : Hid ((Lib.strCells (Pf.cat nm tt p j)).length + (Pf.tx nm tt p ((j : Int) + 1)).size ≤ 140737488355328) := Lib.hid (by
                rw [Lib.strCells_length, ← ByteArray.size_append, ← hcat.out]
                exact Nat.le_trans (Pf.cat_le nm tt p (j + 1)) (Nat.le_trans hsz.out (by omega)))
              go_wp2_with (at_lookup; refine wpList_pm_look _ rfl _ _ rfl B F (fm p) rfl hPMr.out ((j : Int) + 1) rfl (WalkArith.wf_i64 (by omega)) ?_)
              rw [htx.out]
              refine (write40 b b (Lib.strCells (Pf.cat nm tt p j)) (Pf.tx nm tt p ((j : Int) + 1)) _ (bld_alloc hI2.out.2.1 _) hszj.out (by have := hbr.out; simp; omega)).mono ?_
              rintro e w5 ⟨rfl, hB5, hb5⟩
              have hnw : Hid ((∀ i : Nat, 1 ≤ i → i ≤ j + 1 → ∃ x ∈ p, nm x = i) ∧ Lib.IsBuilder 70 5 b b (Lib.strCells (Pf.cat nm tt p (j + 1))) w5 ∧ Below b W2 w5) := Lib.hid (by
                refine ⟨fun i h1 h2 => ?_, .inr ?_, (hI2.out.2.2.alloc hbr.out _).trans hb5⟩
                · by_cases hij : i ≤ j
                  · exact hI2.out.1 i h1 hij
                  · obtain rfl : i = j + 1 := by omega
                    exact hex.out
                · rw [hcat.out, Lib.strCells_eq, ByteArray.data_append, Array.toList_append, Lib.byteCells_append]
                  exact hB5)
              clear hB5 hb5
              go_wp2_with fail
              go_roundw
              case rel => exact ⟨j + 1, by go_num, by omega, hnw⟩
              case measure => simp [intOf]; omega
          · have hle' : ¬ (j : Int) + 1 ≤ F := by omega
            obtain rfl : j = F := by omega
            go_wp2_with fail
            refine (Sh.Try.Builder_String_any b b (Pf.cat nm tt p j).data.toList wr hI2.out.2.1 hbr.out).mono ?_
            rintro e wf ⟨rfl, hbf⟩
            replace hbf := Lib.hid hbf
            have hgood : Hid (profR l = (Pf.cat nm tt p j, 0)) := Lib.hid (by
              have hg : Pf.Good nm ct p := ⟨hpw.out, hFL.out, fun i h1 h2 => hI2.out.1 i h1 (by rw [hF.out]; exact h2)⟩
              unfold profR
              rw [← hpl2.out, prof_good hg, ← hF.out])
            go_wp2_with fail
            go_ret2
            exact ⟨by rw [hgood.out]; rfl, hOW2.out _ (hI2.out.2.2.trans hbf.out)⟩
      · have hbad : Hid (profR l = (ByteArray.empty, 165)) := Lib.hid (by
          unfold profR
          rw [← hpl2.out]
          exact prof_bad (fun h => hFL h.2.1))
        have hne : ((p.length : Int) == Pf.lastC ct p) = false := by rw [beq_eq_false_iff_ne]; exact fun h => hFL h.symm
        have hne2 : ((p.length : Int) != Pf.lastC ct p) = true := by rw [bne, hne]; rfl
        replace hFL := Lib.hid hFL
        go_wp2_with fail
        go_ret2
        exact ⟨by rw [hbad.out]; rfl, hO.out⟩
theorem prof27 (A : Option Addr) (m c : Nat) (l : List Ex) (w : World) (hr : Rds w 2 A m (exC l)) (hl : l.length = m) (hm : m * 24 ≤ 140737488351232) (hz : szl l ≤ 140737488351232) :
    Calls Try.prog 27 #[.slice A m c] w fun e w' => e = .returned (.tuple #[.string (profR l).1, .int .i64 (profR l).2]) ∧ Only No w w' :=
  prof27s A m c l w hr hl (by omega) (Nat.le_trans (szs_pcs l) hz)
end Go.Proofs.Ytehnahikfemodaa.Ct
