/- MetaBack's walk. -/
import Derived.Test.YtehnahikfemodaaOth
import Derived.Test.YtehnahikfemodaaAskW
import Derived.Test.YtehnahikfemodaaCmB
import Derived.Deep.DeepCutAuto
import Derived.Deep.RegionHeld
import Derived.Deep.CutRange
namespace Go.Proofs.Ytehnahikfemodaa.Ct
open Go.ChangeShapes Go.WideShapes Go.RowKit Mm
theorem swap_perm' {α : Type} (p : List α) (a b : Nat) (ha : a < p.length) (hb : b < p.length) : ((p.set a p[b]).set b p[a]).Perm p := by
  have h := Array.swap_perm (xs := p.toArray) (i := a) (j := b) (by simpa using ha) (by simpa using hb)
  rw [Array.perm_iff_toList_perm, Array.toList_swap] at h
  simpa using h
theorem szs_small {S : ByteArray} {N : Nat} {p : List Ex} (h : ∀ x ∈ p, ∃ k, k < N ∧ x = pieceP S k) : Pf.szs tt p ≤ p.length * 65519 := by
  unfold Pf.szs
  induction p with
  | nil => simp
  | cons a p ih =>
    have h1 := ih (fun x hx => h x (by simp [hx]))
    obtain ⟨k, _, rfl⟩ := h a (by simp)
    simp only [List.map_cons, List.sum_cons, List.length_cons]
    rw [tt_piece, ByteArray.size_extract]
    omega
theorem five_J (J : ByteArray) : five (224, J) = true := rfl
section
variable {S : ByteArray} {N : Nat} {p : List Ex} (h : ∀ x ∈ p, ∃ k, k < N ∧ x = pieceP S k) (J : ByteArray)
include h
theorem code_p {x : Ex} (hx : x ∈ p) : x.1 = 226 := by obtain ⟨k, _, rfl⟩ := h x hx; rfl
theorem F5_p : F5 p = p := by
  unfold F5
  rw [List.filter_eq_self]
  intro x hx
  simp [five, code_p h hx]
theorem none_p {q : Ex → Bool} (hq : ∀ x, q x = true → x.1 ≠ 226) : p.find? q = none := by
  rw [List.find?_eq_none]
  intro x hx hc
  exact hq x hc (code_p h hx)
theorem F5_pJ {L : List Ex} (hL : F5 L = p) : F5 (L ++ [(224, J)]) = F5 (p ++ [(224, J)]) := by rw [F5_append, F5_append, hL, F5_p h]
theorem pcs_pJ : pcs (p ++ [(224, J)]) = p := by
  unfold pcs
  rw [List.filter_append]
  have h1 : p.filter isPc = p := by
    rw [List.filter_eq_self]
    intro x hx
    obtain ⟨k, _, rfl⟩ := h x hx
    exact isPc_piece S k
  have h2 : [((224 : Int), J)].filter isPc = [] := by
    rw [List.filter_eq_nil_iff]
    intro x hx hc
    rw [List.mem_singleton.1 hx] at hc
    have := isKind_code hc
    simp at this
  rw [h1, h2, List.append_nil]
theorem adobe_pJ : adobeOf (p ++ [(224, J)]) = -1 := by
  unfold adobeOf
  rw [List.find?_append, none_p h (fun x hx => by
    unfold isAdobe at hx
    simp only [Bool.and_eq_true] at hx
    have := isKind_code hx.1
    omega)]
  have h2 : [((224 : Int), J)].find? isAdobe = none := by
    rw [List.find?_eq_none]
    intro x hx hc
    rw [List.mem_singleton.1 hx] at hc
    unfold isAdobe at hc
    simp only [Bool.and_eq_true] at hc
    have := isKind_code hc.1
    simp at this
  rw [h2]
  rfl
theorem exif_pJ : (p ++ [(224, J)]).find? isExif = none := by
  rw [List.find?_append, none_p h (fun x hx => by have := isKind_code hx; omega)]
  rw [Option.none_or, List.find?_eq_none]
  intro x hx hc
  rw [List.mem_singleton.1 hx] at hc
  have := isKind_code hc
  simp at this
theorem turned_pJ : turnedOf (p ++ [(224, J)]) = 0 := by
  unfold turnedOf
  rw [exif_pJ h J]
theorem cms_pJ : cms (p ++ [(224, J)]) = [] := by
  unfold cms
  rw [List.map_eq_nil_iff, List.filter_eq_nil_iff]
  intro x hx hc
  rcases List.mem_append.1 hx with h1 | h1
  · rw [code_p h h1] at hc; simp at hc
  · rw [List.mem_singleton.1 h1] at hc; simp at hc
theorem jfif_pJ (hJ : isJfif (224, J) = true) : (p ++ [(224, J)]).find? isJfif = some (224, J) := by
  rw [List.find?_append, none_p h (fun x hx => by have := isKind_code hx; omega), List.find?_cons, hJ]
  rfl
end
theorem prof_pJ {S : ByteArray} (hS : S.size ≤ 16707345) {p : List Ex} (hp : p.Perm (wpl S (allP S))) (J : ByteArray) : profR (p ++ [(224, J)]) = (S, 0) := by
  unfold profR
  rw [pcs_pJ (N := allP S) (fun x hx => perm_mem hS hp hx) J]
  exact prof_perm hS hp
set_option maxRecDepth 100000 in
set_option maxHeartbeats 12800000 in
theorem back_law (D B : Option Addr) (mp mb cp cb : Nat) (M mi U X Y : Int) (part : ByteArray) (times : Int) (ps : List Int) (bt : List Ex) (w : World) (hpart : part.size ≤ maxLen) (hrp : Rds w 1 D mp (ps.map (Value.int .i64))) (hlp : ps.length = mp) (hmp : mp ≤ maxLen)
    (hrb : Rds w 2 B mb (exC bt)) (hlb : bt.length = mb) (hmb : mb * 24 ≤ 140737488351232) (hM : 0 ≤ M ∧ M ≤ 255) (hmi : 0 ≤ mi ∧ mi ≤ 255) (hU : 0 ≤ U ∧ U ≤ 255) :
    Calls Try.prog 8 #[.agg (dnC M mi U X Y), .string part, .int .i64 times, .slice D mp cp, .slice B mb cb] w (fun e w' => e = .returned (.bool true) ∧ Below w.heap.size w w') := by
  obtain ⟨i0, hi0, hz0, hz1, hz2⟩ := info_parts info36
  obtain ⟨i5, hi5, hy0, hy1, hy2⟩ := info_parts info5
  have HRB := Lib.hid hrb
  have HLB := Lib.hid hlb
  have HRP := Lib.hid hrp
  have HLP := Lib.hid hlp
  have HM := Lib.hid hM
  have HMi := Lib.hid hmi
  have HU := Lib.hid hU
  simp only [maxLen] at hpart hmp
  clear hrb hlb hrp hlp hM hmi hU
  go_enter Try.func8, Try.ntmps8
  go_wp2_with fail
  obtain ⟨W, hW⟩ : ∃ W, W = w.alloc (.cells (dnC M mi U X Y) 30) := ⟨_, rfl⟩
  have hbox : Hid (Blk W w.heap.size 30 (dnC M mi U X Y)) := Lib.hid (by rw [hW]; exact Blk.new _ _ _)
  have oW : Hid (Only No w W) := Lib.hid (by rw [hW]; exact (Only.refl _ _).alloc _)
  obtain ⟨gd, hgd⟩ : ∃ gd, gd = w.heap.size := ⟨_, rfl⟩
  rw [← hW]
  rw [← hgd] at hbox ⊢
  have hgw : Hid (w.heap.size ≤ gd) := Lib.hid (by omega)
  clear hW hgd
  refine (alive21 W).mono ?_
  rintro e w1 ⟨rfl, o1⟩
  have bx1 := Lib.hid (hbox.out.only o1 id)
  have q1 := Lib.hid (oW.out.trans o1)
  clear o1 hbox oW
  go_wp2_with fail
  refine (place_any times 40000 w1 (by omega) (by omega)).mono ?_
  rintro e w2 ⟨rfl, rfl⟩
  obtain ⟨n, hn⟩ : ∃ n : Nat, (n : Int) = times % (40000 + 1) := ⟨(times % 40001).toNat, by omega⟩
  have hn2 : n ≤ 40000 := by omega
  rw [← hn]
  replace hn := Lib.hid hn
  go_upto_if 32 with (fail)
  go_cut [1] (fun s1 wx => (∃ Q : ByteArray, s1 = .string Q ∧ Q.size ≤ 16) ∧ w1 = wx)
  case first =>
    as_aux_lemma =>
      go_wp2_with fail
      all_goals
        go_meet
        exact ⟨⟨_, rfl, by first | omega | (rw [ByteArray.size_extract]; omega)⟩, rfl⟩
  case rest =>
    obtain ⟨⟨Q, rfl, hQ⟩, rfl⟩ := hcut
    go_wp2_with fail
    go_loopw [13, 14] (fun v13 v14 wr => ∃ k : Nat, v14 = .int .i64 k ∧ k ≤ n ∧ Hid (∃ ns : List Int, ns.length = k * Q.size ∧ wr.ownsRow w1.heap.size 5 1 v13 (k * Q.size) (ns.map (Value.int .u8)) ∧ Only No w1 wr)) (fun _ v14 _ => n - (intOf v14).toNat)
    case atStart => exact ⟨0, rfl, by omega, Lib.hid ⟨[], by simp, by simpa using World.ownsRow_nil _ _ _ _, Only.refl _ _⟩⟩
    case round =>
      obtain ⟨k, rfl, hk, hI⟩ := hrel
      by_cases hlt : k < n
      · as_aux_lemma =>
          have hlt' : (k : Int) < n := by omega
          obtain ⟨ns, hns, hown, hon⟩ := hI.out
          replace hown := Lib.hid hown
          replace hon := Lib.hid hon
          replace hns := Lib.hid hns
          have hsz : Hid (k * Q.size ≤ 40000 * 16) := Lib.hid (Nat.mul_le_mul (by omega) (by omega))
          clear hI
          go_wp2_with (at_builtin; go_loud (refine wpList_append_str _ rfl (.tmp 40) (.tmp 41) 31 9 rfl w1.heap.size 5 i5 _ Try.underlying31 Try.underlying9 hi5 hy0 hy1 hy2 rfl u13 (k * Q.size) (ns.map (Value.int .u8)) rfl hown.out Q rfl (by have := hsz.out; simp only [maxLen]; omega) (by have := hsz.out; omega) hon.out.size ?_); intro v4 w4 hown4 hon4 hat4)
          have hnew := Lib.hid (show ∃ ns : List Int, ns.length = (k + 1) * Q.size ∧ w4.ownsRow w1.heap.size 5 1 v4 ((k + 1) * Q.size) (ns.map (Value.int .u8)) ∧ Only No w1 w4 from ⟨ns ++ numsOf Q, by rw [List.length_append, hns.out, numsOf_len, Nat.succ_mul], by rw [Nat.succ_mul, List.map_append, ← byteCells_nums]; exact hown4, hon.out.then hon4 (fun i hi => .inr (own_ge hown.out i hi))⟩)
          clear hown4 hon4 hat4
          go_roundw
          case rel => exact ⟨k + 1, by go_num, by omega, hnew⟩
          case measure => simp [intOf]; omega
      · have hlt' : ¬ (k : Int) < n := by omega
        obtain ⟨ns, hns, hown, hon⟩ := hI.out
        obtain ⟨T, hT⟩ : ∃ T, T = k * Q.size := ⟨_, rfl⟩
        have hT2 : T ≤ 640000 := by rw [hT]; exact Nat.le_trans (Nat.mul_le_mul (show k ≤ 40000 by omega) (show Q.size ≤ 16 by omega)) (by omega)
        rw [← hT] at hown hns
        have hcv := conv_own hown hns
        obtain ⟨S, hS⟩ : ∃ S, S = strOfNums ns := ⟨_, rfl⟩
        rw [← hS] at hcv
        have hSs : S.size = T := by rw [hS, strOfNums_size, hns]
        obtain ⟨A13, c13, rfl⟩ := own_slice hown
        obtain ⟨wS, rfl⟩ : ∃ wS : World, wS = wr := ⟨_, rfl⟩
        have q2 := Lib.hid (q1.out.trans hon)
        have bx2 := Lib.hid (bx1.out.only hon id)
        have l13 := Lib.hid (own_lt hown)
        have zgd := Lib.hid bx2.out.lt
        have zwS : Hid (w.heap.size ≤ wS.heap.size) := Lib.hid q2.out.size
        have g13 : Hid (∀ b, (Value.slice A13 T c13).ownBlock = some b → gd < b) := Lib.hid (fun b hb => by have h1 := own_ge hown b hb; have h2 := bx1.out.lt; omega)
        replace hown := Lib.hid hown
        replace hS := Lib.hid hS
        replace hns := Lib.hid hns
        have hSb : Hid (S.size ≤ 16707345) := Lib.hid (by rw [hSs]; omega)
        have hN : allP S = (T + 65518) / 65519 := by unfold allP; rw [hSs]
        obtain ⟨N, hNe⟩ : ∃ N, N = allP S := ⟨_, rfl⟩
        have hN10 : N ≤ 10 := by rw [hNe, hN]; omega
        have hNT : Hid (((T : Int) + 65518) / 65519 = N) := Lib.hid (by rw [hNe, hN]; omega)
        have hPL : Hid (profL S = wpl S N) := Lib.hid (by unfold profL; rw [if_pos hSb.out, hNe])
        have hPE : profE S = 0 := by unfold profE; rw [if_pos hSb.out]
        replace hSs := Lib.hid hSs
        replace hNe := Lib.hid hNe
        clear hN hI hon hT bx1 q1
        go_wp2_with fail
        refine (prof_any S wS hSb.out).mono ?_
        rintro e w2 ⟨v15, rfl, h15, o2⟩
        rw [hPL.out, wpl_len] at h15
        rw [hPE]
        obtain ⟨A15, c15, rfl⟩ := own_slice h15
        have g15 := Lib.hid (own_ge h15)
        have q3 := Lib.hid (q2.out.trans o2)
        have bx3 := Lib.hid (bx2.out.only o2 id)
        have h13b := Lib.hid (own_only hown.out o2 (fun _ _ => id))
        have z23 := Lib.hid o2.size
        replace h15 := Lib.hid h15
        clear o2 hcv hown q2 bx2 hPE
        go_upto_if 63 with (fail)
        rw [hNT.out, show ((N : Int) != (N : Int)) = false from by simp]
        go_upto_region 14 with (fail)
        go_loopw [17, 18, 19, 20] (fun v17 _ _ _ wr => ∃ i : Nat, v17 = .int .i64 i ∧ i ≤ mp ∧ Hid (∃ p : List Ex, p.Perm (wpl S N) ∧ wr.ownsRow wS.heap.size 36 2 (.slice A15 N c15) N (exC p) ∧ Only (fun b => (Value.slice A15 N c15).ownBlock = some b) w2 wr)) (fun v17 _ _ _ _ => mp - (intOf v17).toNat)
        case atStart => exact ⟨0, rfl, by omega, Lib.hid ⟨_, List.Perm.refl _, h15.out, Only.refl _ _⟩⟩
        case round =>
          obtain ⟨i, rfl, hi, hI⟩ := hrel
          go_upto_region 14 with (fail)
          go_cut [72] from 64 to 101 (fun s72 wx => s72 = .bool (decide (i < mp ∧ 0 < N)) ∧ wr = wx)
          case first =>
            as_aux_lemma =>
              by_cases hlt : i < mp
              · have hlt' : (i : Int) < mp := by omega
                by_cases hN0 : 0 < N
                · have hN0' : (0 : Int) < N := by omega
                  go_wp2_with fail
                  go_meet
                  first | exact ⟨by rw [decide_eq_true ⟨hlt, hN0⟩], rfl⟩ | exact ⟨⟨by rw [decide_eq_true ⟨hlt, hN0⟩], rfl⟩, rfl⟩ | ((repeat apply Exists.intro); exact ⟨⟨by rw [decide_eq_true ⟨hlt, hN0⟩], rfl⟩, rfl⟩)
                · have hN0' : ¬ (0 : Int) < N := by omega
                  go_wp2_with fail
                  go_meet
                  first | exact ⟨by rw [decide_eq_false (fun h => hN0 h.2)], rfl⟩ | exact ⟨⟨by rw [decide_eq_false (fun h => hN0 h.2)], rfl⟩, rfl⟩ | ((repeat apply Exists.intro); exact ⟨⟨by rw [decide_eq_false (fun h => hN0 h.2)], rfl⟩, rfl⟩)
              · have hlt' : ¬ (i : Int) < mp := by omega
                go_wp2_with fail
                go_meet
                first | exact ⟨by rw [decide_eq_false (fun h => hlt h.1)], rfl⟩ | exact ⟨⟨by rw [decide_eq_false (fun h => hlt h.1)], rfl⟩, rfl⟩ | ((repeat apply Exists.intro); exact ⟨⟨by rw [decide_eq_false (fun h => hlt h.1)], rfl⟩, rfl⟩)
          case rest =>
            obtain ⟨rfl, rfl⟩ := hcut
            by_cases hgo : i < mp ∧ 0 < N
            · as_aux_lemma =>
                rw [decide_eq_true hgo]
                obtain ⟨hlt, hN0⟩ := hgo
                have hlt' : (i : Int) < mp := by omega
                have hN0' : (0 : Int) < N := by omega
                obtain ⟨p, hpm, hown, hon⟩ := hI.out
                obtain ⟨g, cc, he, _⟩ := own_some hown hN0
                obtain ⟨rfl, rfl⟩ : A15 = some ⟨g, 0, none⟩ ∧ c15 = cc := by injection he with a b c; exact ⟨a, c⟩
                have hpl : Hid (p.length = N) := Lib.hid (by rw [hpm.length_eq, wpl_len])
                replace hpm := Lib.hid hpm
                replace hown := Lib.hid hown
                replace hon := Lib.hid hon
                clear hI he
                have gS : Hid (wS.heap.size ≤ g) := Lib.hid (own_ge hown.out g (by simp [Value.ownBlock]))
                have hRPr : Hid (Rds wr 1 D mp (ps.map (Value.int .i64))) := Lib.hid ((HRP.out.no q3.out).only hon.out (fun hn0 ad he hb => by
                  obtain ⟨ad', he', hb', _⟩ := HRP.out.2 hn0
                  rw [he] at he'
                  injection he' with he'
                  subst he'
                  have h1 : (Value.slice (some ⟨g, 0, none⟩) N c15).ownBlock = some ad.block := hb
                  simp only [Value.ownBlock, Option.some.injEq] at h1
                  have h2 := gS.out
                  have h3 := zwS.out
                  omega))
                obtain ⟨adp, rfl, _, hcp⟩ := hRPr.out.2 (by omega)
                obtain ⟨z, hzz⟩ : ∃ z, Hid (z = ps[i]'(by rw [HLP.out]; exact hlt)) := ⟨_, Lib.hid rfl⟩
                have pz : wr.cell? (adp.add i) = some (.int .i64 z) := hcp i _ (by rw [List.getElem?_map, List.getElem?_eq_getElem (by rw [HLP.out]; exact hlt), hzz.out]; rfl)
                clear hcp
                go_wp2_with fail
                refine (place_any z ((N : Int) - 1) wr (by omega) (by omega)).mono ?_
                rintro e w4 ⟨rfl, rfl⟩
                obtain ⟨a, ha⟩ : ∃ a : Nat, (a : Int) = z % ((N : Int) - 1 + 1) := ⟨(z % ((N : Int) - 1 + 1)).toNat, by have := Int.emod_nonneg z (show (N : Int) - 1 + 1 ≠ 0 by omega); omega⟩
                have haN : a < N := by have := Int.emod_lt_of_pos z (show (0 : Int) < (N : Int) - 1 + 1 by omega); omega
                rw [← ha]
                replace ha := Lib.hid ha
                obtain ⟨b, hb⟩ : ∃ b : Nat, Hid ((i : Int) % (N : Int) = (b : Int)) := ⟨i % N, Lib.hid (by omega)⟩
                have hbN : b < N := by have h1 := hb.out; have := Int.emod_lt_of_pos (i : Int) hN0'; omega
                obtain ⟨xa, hxa⟩ : ∃ x, Hid (x = p[a]'(by rw [hpl.out]; exact haN)) := ⟨_, Lib.hid rfl⟩
                obtain ⟨xb, hxb⟩ : ∃ x, Hid (x = p[b]'(by rw [hpl.out]; exact hbN)) := ⟨_, Lib.hid rfl⟩
                have hlx : (exC p).length = N * 2 := by rw [exC_len, hpl.out]
                have ka0 : wr.cell? ⟨g, a * 2, none⟩ = some (.int .u8 xa.1) := by rw [hown.out.cellAt (a * 2) (by omega), (exC_get p a (by rw [hpl.out]; exact haN)).1, hxa.out]
                have ka1 : wr.cell? ⟨g, a * 2 + 1, none⟩ = some (.string xa.2) := by rw [hown.out.cellAt (a * 2 + 1) (by omega), (exC_get p a (by rw [hpl.out]; exact haN)).2, hxa.out]
                go_upto_region 18 with (fail)
                rw [hb.out]
                go_upto_region 19 with (fail)
                obtain ⟨w4, hw4⟩ : ∃ w4, w4 = wr.alloc (.cells #[.int .u8 xa.1, .string xa.2] 36) := ⟨_, rfl⟩
                rw [← hw4]
                have hown4 : Hid (w4.ownsRow wS.heap.size 36 2 (.slice (some ⟨g, 0, none⟩) N c15) N (exC p)) := Lib.hid (by rw [hw4]; exact hown.out.alloc _)
                have hbx4 : Hid (Blk w4 wr.heap.size 36 #[.int .u8 xa.1, .string xa.2]) := Lib.hid (by rw [hw4]; exact Blk.new _ _ _)
                have on4 : Hid (Only (fun b => (Value.slice (some ⟨g, 0, none⟩) N c15).ownBlock = some b) w2 w4) := Lib.hid (by rw [hw4]; exact hon.out.alloc _)
                have gwr : g < wr.heap.size := own_lt hown.out g (by simp [Value.ownBlock])
                clear hw4 ka0 ka1 pz
                have kb0 : w4.cell? ⟨g, b * 2, none⟩ = some (.int .u8 xb.1) := by rw [hown4.out.cellAt (b * 2) (by omega), (exC_get p b (by rw [hpl.out]; exact hbN)).1, hxb.out]
                have kb1 : w4.cell? ⟨g, b * 2 + 1, none⟩ = some (.string xb.2) := by rw [hown4.out.cellAt (b * 2 + 1) (by omega), (exC_get p b (by rw [hpl.out]; exact hbN)).2, hxb.out]
                have ja0 : w4.cell? ⟨g, a * 2, none⟩ = some (.int .u8 xa.1) := by rw [hown4.out.cellAt (a * 2) (by omega), (exC_get p a (by rw [hpl.out]; exact haN)).1, hxa.out]
                have ja1 : w4.cell? ⟨g, a * 2 + 1, none⟩ = some (.string xa.2) := by rw [hown4.out.cellAt (a * 2 + 1) (by omega), (exC_get p a (by rw [hpl.out]; exact haN)).2, hxa.out]
                have fa0 := hown4.out.frozenAt (a * 2)
                have fa1 := hown4.out.frozenAt (a * 2 + 1)
                go_upto_region 20 with (fail)
                obtain ⟨w5, hw5⟩ : ∃ w5, w5 = (w4.setCell ⟨g, a * 2, none⟩ (.int .u8 xb.1)).setCell ⟨g, a * 2 + 1, none⟩ (.string xb.2) := ⟨_, rfl⟩
                rw [← hw5]
                have hown5 : Hid (w5.ownsRow wS.heap.size 36 2 (.slice (some ⟨g, 0, none⟩) N c15) N (exC (p.set a xb))) := Lib.hid (by
                  rw [hw5, ← exC_set p a xb (by rw [hpl.out]; exact haN)]
                  exact ((hown4.out.stored (a * 2) (.int .u8 xb.1)).1.stored (a * 2 + 1) (.string xb.2)).1)
                have hbx5 : Blk w5 wr.heap.size 36 #[.int .u8 xa.1, .string xa.2] := by rw [hw5]; exact (hbx4.out.far (p := ⟨g, a * 2, none⟩) (by simp; omega) _).far (p := ⟨g, a * 2 + 1, none⟩) (by simp; omega) _
                have on5 : Hid (Only (fun b => (Value.slice (some ⟨g, 0, none⟩) N c15).ownBlock = some b) w2 w5) := Lib.hid (by rw [hw5]; exact (on4.out.setCell (p := ⟨g, a * 2, none⟩) (.inl (by simp [Value.ownBlock])) _).setCell (p := ⟨g, a * 2 + 1, none⟩) (.inl (by simp [Value.ownBlock])) _)
                clear hw5 kb0 kb1 ja0 ja1 fa0 fa1
                have hbc0 : w5.cell? ⟨wr.heap.size, 0, none⟩ = some (.int .u8 xa.1) := hbx5.cell 0
                have hbc1 : w5.cell? ⟨wr.heap.size, 1, none⟩ = some (.string xa.2) := hbx5.cell 1
                have hpl2 : Hid ((p.set a xb).length = N) := Lib.hid (by rw [List.length_set, hpl.out])
                have hlx2 : (exC (p.set a xb)).length = N * 2 := by rw [exC_len, hpl2.out]
                obtain ⟨ub0, hub0⟩ : ∃ u, w5.cell? ⟨g, b * 2, none⟩ = some u := by
                  rw [hown5.out.cellAt (b * 2) (by omega)]
                  exact ⟨_, List.getElem?_eq_getElem (by omega)⟩
                obtain ⟨ub1, hub1⟩ : ∃ u, w5.cell? ⟨g, b * 2 + 1, none⟩ = some u := by
                  rw [hown5.out.cellAt (b * 2 + 1) (by omega)]
                  exact ⟨_, List.getElem?_eq_getElem (by omega)⟩
                have fb0 := hown5.out.frozenAt (b * 2)
                have fb1 := hown5.out.frozenAt (b * 2 + 1)
                have hnew : Hid (∃ p : List Ex, p.Perm (wpl S N) ∧ ((w5.setCell ⟨g, b * 2, none⟩ (.int .u8 xa.1)).setCell ⟨g, b * 2 + 1, none⟩ (.string xa.2)).ownsRow wS.heap.size 36 2 (.slice (some ⟨g, 0, none⟩) N c15) N (exC p) ∧ Only (fun b => (Value.slice (some ⟨g, 0, none⟩) N c15).ownBlock = some b) w2 ((w5.setCell ⟨g, b * 2, none⟩ (.int .u8 xa.1)).setCell ⟨g, b * 2 + 1, none⟩ (.string xa.2))) := Lib.hid (by
                  refine ⟨(p.set a xb).set b xa, ?_, ?_, (on5.out.setCell (p := ⟨g, b * 2, none⟩) (.inl (by simp [Value.ownBlock])) _).setCell (p := ⟨g, b * 2 + 1, none⟩) (.inl (by simp [Value.ownBlock])) _⟩
                  · rw [hxa.out, hxb.out]
                    exact (swap_perm' p a b _ _).trans hpm.out
                  · rw [← exC_set _ b xa (by rw [hpl2.out]; exact hbN)]
                    exact ((hown5.out.stored (b * 2) (.int .u8 xa.1)).1.stored (b * 2 + 1) (.string xa.2)).1)
                go_wp2_with fail
                go_roundw
                case rel => exact ⟨i + 1, by go_num, by omega, hnew⟩
                case measure => simp [intOf]; omega
            · rw [decide_eq_false hgo]
              obtain ⟨p, hpm, hown, hon⟩ := hI.out
              replace hpm := Lib.hid hpm
              replace hown := Lib.hid hown
              replace hon := Lib.hid hon
              replace hgo := Lib.hid hgo
              clear hI
              obtain ⟨w3, rfl⟩ : ∃ w3 : World, w3 = wr := ⟨_, rfl⟩
              have bx4 : Hid (Blk w3 gd 30 (dnC M mi U X Y)) := Lib.hid (bx3.out.only hon.out (fun hb => by have h1 := g15.out _ hb; have h2 := zgd.out; omega))
              have h13c : Hid (w3.ownsRow w1.heap.size 5 1 (.slice A13 T c13) T (ns.map (Value.int .u8))) := Lib.hid (own_only h13b.out hon.out (fun b hb hb2 => by have h1 := l13.out b hb; have h2 := g15.out b hb2; omega))
              have q4 : Hid (Only No w w3) := Lib.hid (q3.out.then hon.out (fun b hb => .inr (by have h1 := g15.out b hb; have h2 := zwS.out; omega)))
              have z3 : Hid (wS.heap.size ≤ w3.heap.size) := Lib.hid (Nat.le_trans z23.out hon.out.size)
              clear bx3 h13b q3 z23 hon
              have cX := bx4.out.cell 3
              have cY := bx4.out.cell 4
              simp only [List.getElem?_toArray, List.getElem?_cons_zero, List.getElem?_cons_succ] at cX cY
              have fX := bx4.out.frozen 3
              go_upto_region 21 with (fail)
              go_cut [109] (fun s109 wx => s109 = .bool (decide (X < 0 ∨ 65535 < X)) ∧ w3 = wx)
              case first =>
                as_aux_lemma =>
                  by_cases hx0 : X < 0
                  · go_wp2_with fail
                    go_meet
                    exact ⟨by rw [decide_eq_true (.inl hx0)], rfl⟩
                  · by_cases hx1 : 65535 < X
                    · have hd0 : decide (X < 0) = false := decide_eq_false hx0
                      have hd1 : decide (65535 < X) = true := decide_eq_true hx1
                      go_wp2_with fail
                      go_meet
                      exact ⟨by rw [decide_eq_true (.inr hx1)], rfl⟩
                    · have hd0 : decide (X < 0) = false := decide_eq_false hx0
                      have hd1 : decide (65535 < X) = false := decide_eq_false hx1
                      go_wp2_with fail
                      go_meet
                      exact ⟨by rw [decide_eq_false (fun h => h.elim (fun a => by omega) (fun b => by omega))], rfl⟩
              case rest =>
                obtain ⟨rfl, rfl⟩ := hcut
                go_upto_if 109 with (fail)
                go_cut [] (fun wx => ∃ X', 0 ≤ X' ∧ X' ≤ 65535 ∧ Blk wx gd 30 (dnC M mi U X' Y) ∧ Only (One gd) w3 wx)
                case first =>
                  as_aux_lemma =>
                    by_cases hx : X < 0 ∨ 65535 < X
                    · rw [decide_eq_true hx]
                      replace hx := Lib.hid hx
                      go_wp2_with fail
                      go_meet
                      exact ⟨7, by omega, by omega, bx4.out.set 3 _, (Only.refl (One gd) _).setCell (p := ⟨gd, 3, none⟩) (.inl (show gd = gd from rfl)) _⟩
                    · rw [decide_eq_false hx]
                      have hx2 := Lib.hid hx
                      clear hx
                      go_wp2_with fail
                      go_meet
                      exact ⟨X, by have := hx2.out; omega, by have := hx2.out; omega, bx4.out, Only.refl _ _⟩
                case rest =>
                  obtain ⟨X', hX0, hX1, bx5, on5⟩ := hcut
                  obtain ⟨w4, rfl⟩ : ∃ w4 : World, w4 = wc := ⟨_, rfl⟩
                  replace bx5 := Lib.hid bx5
                  replace on5 := Lib.hid on5
                  have hXb := Lib.hid (And.intro hX0 hX1)
                  clear hX0 hX1 cX cY fX
                  have cY := bx5.out.cell 4
                  simp only [List.getElem?_toArray, List.getElem?_cons_zero, List.getElem?_cons_succ] at cY
                  have fY := bx5.out.frozen 4
                  go_upto_region 23 with (fail)
                  go_cut [118] (fun s118 wx => s118 = .bool (decide (Y < 0 ∨ 65535 < Y)) ∧ w4 = wx)
                  case first =>
                    as_aux_lemma =>
                      by_cases hx0 : Y < 0
                      · go_wp2_with fail
                        go_meet
                        exact ⟨by rw [decide_eq_true (.inl hx0)], rfl⟩
                      · by_cases hx1 : 65535 < Y
                        · have hd0 : decide (Y < 0) = false := decide_eq_false hx0
                          have hd1 : decide (65535 < Y) = true := decide_eq_true hx1
                          go_wp2_with fail
                          go_meet
                          exact ⟨by rw [decide_eq_true (.inr hx1)], rfl⟩
                        · have hd0 : decide (Y < 0) = false := decide_eq_false hx0
                          have hd1 : decide (65535 < Y) = false := decide_eq_false hx1
                          go_wp2_with fail
                          go_meet
                          exact ⟨by rw [decide_eq_false (fun h => h.elim (fun a => by omega) (fun b => by omega))], rfl⟩
                  case rest =>
                    obtain ⟨rfl, rfl⟩ := hcut
                    go_upto_if 118 with (fail)
                    go_cut [] (fun wx => ∃ Y', 0 ≤ Y' ∧ Y' ≤ 65535 ∧ Blk wx gd 30 (dnC M mi U X' Y') ∧ Only (One gd) w3 wx)
                    case first =>
                      as_aux_lemma =>
                        by_cases hx : Y < 0 ∨ 65535 < Y
                        · rw [decide_eq_true hx]
                          replace hx := Lib.hid hx
                          go_wp2_with fail
                          go_meet
                          exact ⟨65535, by omega, by omega, bx5.out.set 4 _, on5.out.setCell (p := ⟨gd, 4, none⟩) (.inl (show gd = gd from rfl)) _⟩
                        · rw [decide_eq_false hx]
                          have hx2 := Lib.hid hx
                          clear hx
                          go_wp2_with fail
                          go_meet
                          exact ⟨Y, by have := hx2.out; omega, by have := hx2.out; omega, bx5.out, on5.out⟩
                    case rest =>
                      obtain ⟨Y', hY0, hY1, bx6, on6⟩ := hcut
                      obtain ⟨w5, rfl⟩ : ∃ w5 : World, w5 = wc := ⟨_, rfl⟩
                      have hYb := Lib.hid (And.intro hY0 hY1)
                      clear hY0 hY1 cY fY bx5 on5 bx4
                      have h15e : Hid (w5.ownsRow wS.heap.size 36 2 (.slice A15 N c15) N (exC p)) := Lib.hid (own_only hown.out on6 (fun b hb hb2 => by have h1 := g15.out b hb; have h2 : b = gd := hb2; have h3 := zgd.out; omega))
                      have h13e : Hid (w5.ownsRow w1.heap.size 5 1 (.slice A13 T c13) T (ns.map (Value.int .u8))) := Lib.hid (own_only h13c.out on6 (fun b hb hb2 => by have h1 := g13.out b hb; have h2 : b = gd := hb2; omega))
                      have q5 : Hid (Only No w w5) := Lib.hid (q4.out.then on6 (fun b hb => .inr (by have h1 : b = gd := hb; have h2 := hgw.out; omega)))
                      replace bx6 := Lib.hid bx6
                      have hmemp : Hid (∀ x ∈ p, ∃ k, k < N ∧ x = pieceP S k) := Lib.hid (fun x hx => wpl_mem (hpm.out.mem_iff.1 hx))
                      have hplen : Hid (p.length = N) := Lib.hid (by rw [hpm.out.length_eq, wpl_len])
                      clear on6 hown h13c q4
                      go_wp2_with fail
                      go_loopw [21, 22] (fun v21 v22 wr => ∃ (j : Nat) (L : List Ex), v22 = .int .i64 j ∧ (j ≤ N ∨ j ≤ mb) ∧ Hid (wr.ownsRow w5.heap.size 36 2 v21 L.length (exC L) ∧ L.length = min j mb + min j N ∧ F5 L = p.take j ∧ Only No w5 wr)) (fun _ v22 _ => N + mb - (intOf v22).toNat)
                      case atStart => exact ⟨0, [], rfl, by omega, Lib.hid ⟨World.ownsRow_nil _ _ _ _, by simp, rfl, Only.refl _ _⟩⟩
                      case round =>
                        obtain ⟨j, L, rfl, hj, hI3⟩ := hrel
                        have hlen : Hid (L.length = min j mb + min j N) := Lib.hid hI3.out.2.1
                        have hlb : Hid (L.length ≤ mb + 10) := Lib.hid (by rw [hlen.out]; omega)
                        have o5r : Hid (Only No w5 wr) := Lib.hid hI3.out.2.2.2
                        have hrw : Hid (wr.ownsRow w5.heap.size 36 2 u21 L.length (exC L)) := Lib.hid hI3.out.1
                        have hF : Hid (F5 L = p.take j) := Lib.hid hI3.out.2.2.1
                        clear hI3
                        by_cases h1 : j < N
                        · have h1' : (j : Int) < N := by omega
                          have hp1 := ex_cells ((Rds.of_own h15e.out).no o5r.out) hplen.out j h1
                          obtain ⟨pd, hpd, pp0, pp1, _⟩ := hp1
                          subst hpd
                          obtain ⟨y, hy⟩ : ∃ y, Hid (y = p[j]'(by rw [hplen.out]; exact h1)) := ⟨_, Lib.hid rfl⟩
                          rw [← hy.out] at pp0 pp1
                          have hy5 : Hid (F5 [y] = [y]) := Lib.hid (by
                            have hc := code_p hmemp.out (show y ∈ p by rw [hy.out]; exact List.getElem_mem _)
                            unfold F5
                            simp [five, hc])
                          have htk : Hid (p.take (j + 1) = p.take j ++ [y]) := Lib.hid (by rw [List.take_succ_eq_append_getElem (by rw [hplen.out]; exact h1), ← hy.out])
                          by_cases h2 : j < mb
                          · as_aux_lemma =>
                              have h2' : (j : Int) < mb := by omega
                              obtain ⟨ad, hAd, p0, p1, _⟩ := ex_cells (HRB.out.no (q5.out.trans o5r.out)) HLB.out j h2
                              subst hAd
                              obtain ⟨x, hx⟩ : ∃ x, Hid (x = bt[j]'(by rw [HLB.out]; exact h2)) := ⟨_, Lib.hid rfl⟩
                              rw [← hx.out] at p0 p1
                              go_wp2_with fail
                              refine (other_any x wr).mono ?_
                              rintro e w6 ⟨rfl, o6⟩
                              have r6 := Lib.hid (o5r.out.trans o6)
                              have hrw6 := Lib.hid (own_only hrw.out o6 (fun _ _ => id))
                              clear o6 pp0 pp1 p0 p1
                              go_wp2_with (first
                                | (at_builtin
                                   refine Mm.wpList_append_any _ rfl (.tmp 136) (.tmp 142) _ rfl w5.heap.size 36 i0 _ 2 24 Try.underlying22 hi0 hz0 hz1 hz2 rfl (by omega) u21 L.length (exC L) rfl (hrw6.out.alloc _) (some ⟨w6.heap.size, 0, none⟩) 1 1 [.int .u8 (otherC x.1), .string x.2] rfl (Rds.fresh (Blk.new _ _ _) rfl) (by simp [Value.oneCell']) (by have := hlb.out; simp only [maxLen]; omega) (by have := hlb.out; omega) (by have := r6.out.size; simp; omega) ?_
                                   intro v7 w7 hown7 hon7 hat7
                                   have hrw7 : Hid (w7.ownsRow w5.heap.size 36 2 v7 (L.length + 1) (exC (L ++ [(otherC x.1, x.2)]))) := Lib.hid (by rw [exC_append]; exact hown7)
                                   have r7 : Hid (Only No w5 w7) := Lib.hid ((r6.out.alloc _).then hon7 (fun b hb => .inr (own_ge hrw6.out b hb)))
                                   obtain ⟨pd2, hpd2, pp0, pp1, _⟩ := ex_cells ((Rds.of_own h15e.out).no r7.out) hplen.out j h1
                                   obtain rfl := Option.some.inj hpd2
                                   rw [← hy.out] at pp0 pp1
                                   clear hown7 hon7 hat7 hpd2)
                                | (at_builtin
                                   refine Mm.wpList_append_any _ rfl (.tmp 148) (.tmp 153) _ rfl w5.heap.size 36 i0 _ 2 24 Try.underlying22 hi0 hz0 hz1 hz2 rfl (by omega) v7 (L.length + 1) (exC (L ++ [(otherC x.1, x.2)])) rfl (hrw7.out.alloc _) (some ⟨w7.heap.size, 0, none⟩) 1 1 [.int .u8 y.1, .string y.2] rfl (Rds.fresh (Blk.new _ _ _) rfl) (by simp [Value.oneCell']) (by have := hlb.out; simp only [maxLen]; omega) (by have := hlb.out; omega) (by have := r7.out.size; simp; omega) ?_
                                   intro v8 w8 hown8 hon8 hat8
                                   have hnew : Hid (w8.ownsRow w5.heap.size 36 2 v8 (L ++ [(otherC x.1, x.2)] ++ [y]).length (exC (L ++ [(otherC x.1, x.2)] ++ [y])) ∧ (L ++ [(otherC x.1, x.2)] ++ [y]).length = min (j + 1) mb + min (j + 1) N ∧ F5 (L ++ [(otherC x.1, x.2)] ++ [y]) = p.take (j + 1) ∧ Only No w5 w8) := Lib.hid (by
                                     refine ⟨?_, ?_, ?_, (r7.out.alloc _).then hon8 (fun b hb => .inr (own_ge hrw7.out b hb))⟩
                                     · rw [exC_append, List.length_append, List.length_append]; exact hown8
                                     · simp only [List.length_append, List.length_cons, List.length_nil, hlen.out]; omega
                                     · rw [F5_append, F5_append, hy5.out, hF.out, htk.out, show F5 [(otherC x.1, x.2)] = [] from by unfold F5; simp [five_other x], List.append_nil])
                                   clear hown8 hon8 hat8))
                              go_roundw
                              case rel => exact ⟨j + 1, _, by go_num, by omega, hnew⟩
                              case measure => simp [intOf]; omega
                          · as_aux_lemma =>
                              have h2' : ¬ (j : Int) < mb := by omega
                              go_wp2_with (first
                                | (at_builtin
                                   refine Mm.wpList_append_any _ rfl (.tmp 148) (.tmp 153) _ rfl w5.heap.size 36 i0 _ 2 24 Try.underlying22 hi0 hz0 hz1 hz2 rfl (by omega) u21 L.length (exC L) rfl (hrw.out.alloc _) (some ⟨wr.heap.size, 0, none⟩) 1 1 [.int .u8 y.1, .string y.2] rfl (Rds.fresh (Blk.new _ _ _) rfl) (by simp [Value.oneCell']) (by have := hlb.out; simp only [maxLen]; omega) (by have := hlb.out; omega) (by have := o5r.out.size; simp; omega) ?_
                                   intro v8 w8 hown8 hon8 hat8
                                   have hnew : Hid (w8.ownsRow w5.heap.size 36 2 v8 (L ++ [y]).length (exC (L ++ [y])) ∧ (L ++ [y]).length = min (j + 1) mb + min (j + 1) N ∧ F5 (L ++ [y]) = p.take (j + 1) ∧ Only No w5 w8) := Lib.hid (by
                                     refine ⟨?_, ?_, ?_, (o5r.out.alloc _).then hon8 (fun b hb => .inr (own_ge hrw.out b hb))⟩
                                     · rw [exC_append, List.length_append]; exact hown8
                                     · simp only [List.length_append, List.length_cons, List.length_nil, hlen.out]; omega
                                     · rw [F5_append, hy5.out, hF.out, htk.out])
                                   clear hown8 hon8 hat8)
                                | fail)
                              go_roundw
                              case rel => exact ⟨j + 1, _, by go_num, by omega, hnew⟩
                              case measure => simp [intOf]; omega
                        · have h1' : ¬ (j : Int) < N := by omega
                          have htk : Hid (p.take j = p) := Lib.hid (List.take_of_length_le (by rw [hplen.out]; omega))
                          by_cases h2 : j < mb
                          · as_aux_lemma =>
                              have h2' : (j : Int) < mb := by omega
                              obtain ⟨ad, hAd, p0, p1, _⟩ := ex_cells (HRB.out.no (q5.out.trans o5r.out)) HLB.out j h2
                              subst hAd
                              obtain ⟨x, hx⟩ : ∃ x, Hid (x = bt[j]'(by rw [HLB.out]; exact h2)) := ⟨_, Lib.hid rfl⟩
                              rw [← hx.out] at p0 p1
                              go_wp2_with fail
                              refine (other_any x wr).mono ?_
                              rintro e w6 ⟨rfl, o6⟩
                              have r6 := Lib.hid (o5r.out.trans o6)
                              have hrw6 := Lib.hid (own_only hrw.out o6 (fun _ _ => id))
                              clear o6 p0 p1
                              go_wp2_with (first
                                | (at_builtin
                                   refine Mm.wpList_append_any _ rfl (.tmp 136) (.tmp 142) _ rfl w5.heap.size 36 i0 _ 2 24 Try.underlying22 hi0 hz0 hz1 hz2 rfl (by omega) u21 L.length (exC L) rfl (hrw6.out.alloc _) (some ⟨w6.heap.size, 0, none⟩) 1 1 [.int .u8 (otherC x.1), .string x.2] rfl (Rds.fresh (Blk.new _ _ _) rfl) (by simp [Value.oneCell']) (by have := hlb.out; simp only [maxLen]; omega) (by have := hlb.out; omega) (by have := r6.out.size; simp; omega) ?_
                                   intro v7 w7 hown7 hon7 hat7
                                   have hnew : Hid (w7.ownsRow w5.heap.size 36 2 v7 (L ++ [(otherC x.1, x.2)]).length (exC (L ++ [(otherC x.1, x.2)])) ∧ (L ++ [(otherC x.1, x.2)]).length = min (j + 1) mb + min (j + 1) N ∧ F5 (L ++ [(otherC x.1, x.2)]) = p.take (j + 1) ∧ Only No w5 w7) := Lib.hid (by
                                     refine ⟨?_, ?_, ?_, (r6.out.alloc _).then hon7 (fun b hb => .inr (own_ge hrw6.out b hb))⟩
                                     · rw [exC_append, List.length_append]; exact hown7
                                     · simp only [List.length_append, List.length_cons, List.length_nil, hlen.out]; omega
                                     · rw [F5_append, hF.out, htk.out, show F5 [(otherC x.1, x.2)] = [] from by unfold F5; simp [five_other x], List.append_nil, List.take_of_length_le (by rw [hplen.out]; omega)])
                                   clear hown7 hon7 hat7)
                                | fail)
                              go_roundw
                              case rel => exact ⟨j + 1, _, by go_num, by omega, hnew⟩
                              case measure => simp [intOf]; omega
                          · as_aux_lemma =>
                              have h2' : ¬ (j : Int) < mb := by omega
                              have hFp : Hid (F5 L = p) := Lib.hid (hF.out.trans htk.out)
                              have bx7 := Lib.hid (bx6.out.only o5r.out id)
                              obtain ⟨w6, rfl⟩ : ∃ w6 : World, w6 = wr := ⟨_, rfl⟩
                              have d0 : w6.cell? ⟨gd, 0, none⟩ = some (.int .u8 M) := bx7.out.cell 0
                              have d1 : w6.cell? ⟨gd, 1, none⟩ = some (.int .u8 mi) := bx7.out.cell 1
                              have d2 : w6.cell? ⟨gd, 2, none⟩ = some (.int .u8 U) := bx7.out.cell 2
                              have d3 : w6.cell? ⟨gd, 3, none⟩ = some (.int .i64 X') := bx7.out.cell 3
                              have d4 : w6.cell? ⟨gd, 4, none⟩ = some (.int .i64 Y') := bx7.out.cell 4
                              clear hF htk
                              go_wp2_with fail
                              refine (jfif_any M mi U X' Y' w6).mono ?_
                              rintro e w7 ⟨rfl, o7⟩
                              obtain ⟨J, hJ⟩ : ∃ J, Hid (J = jfB M mi U X' Y') := ⟨_, Lib.hid rfl⟩
                              rw [← hJ.out]
                              have hJi : Hid (isJfif (224, J) = true) := Lib.hid (by rw [hJ.out]; exact jfif_is _ _ _ _ _)
                              have hrw7 := Lib.hid (own_only hrw.out o7 (fun _ _ => id))
                              have r7 := Lib.hid (o5r.out.trans o7)
                              have hans := answers_eq (F5_pJ hmemp.out J hFp.out)
                              obtain ⟨a1, a2, a3, a4, a5, a6⟩ := hans
                              have b1 : Hid (jfifOf (L ++ [(224, J)]) = (dnV M mi U X' Y', true)) := Lib.hid (by
                                rw [a1]
                                refine jfif_one M mi U X' Y' HM.out HMi.out HU.out hXb.out hYb.out _ ?_
                                rw [← hJ.out]
                                exact jfif_pJ hmemp.out J hJi.out)
                              have b2 : Hid (profR (L ++ [(224, J)]) = (S, 0)) := Lib.hid (by rw [a2]; exact prof_pJ hSb.out (by rw [← hNe.out]; exact hpm.out) J)
                              have b3 : Hid (adobeOf (L ++ [(224, J)]) = -1) := Lib.hid (by rw [a3]; exact adobe_pJ hmemp.out J)
                              have b4 : Hid (turnedOf (L ++ [(224, J)]) = 0) := Lib.hid (by rw [a4]; exact turned_pJ hmemp.out J)
                              have b5 : Hid (cms (L ++ [(224, J)]) = []) := Lib.hid (by rw [a5]; exact cms_pJ hmemp.out J)
                              have b6 : Hid (Pf.szs tt (pcs (L ++ [(224, J)])) ≤ 140737488351232) := Lib.hid (by
                                rw [a6, pcs_pJ hmemp.out J]
                                have h3 := szs_small hmemp.out
                                rw [hplen.out] at h3
                                exact Nat.le_trans h3 (by omega))
                              have b7 : Hid (∀ x, (L ++ [((224 : Int), J)]).find? isExif = some x → x.2.size ≤ 9223372036854775807) := Lib.hid (fun x hx => by
                                rw [← find_F5 five_exif, F5_pJ hmemp.out J hFp.out, find_F5 five_exif, exif_pJ hmemp.out J] at hx
                                cases hx)
                              clear a1 a2 a3 a4 a5 a6 o7 d0 d1 d2 d3 d4
                              go_wp2_with (first
                                | (at_builtin
                                   refine Mm.wpList_append_any _ rfl (.tmp 155) (.tmp 158) _ rfl w5.heap.size 36 i0 _ 2 24 Try.underlying22 hi0 hz0 hz1 hz2 rfl (by omega) u21 L.length (exC L) rfl (hrw7.out.alloc _) (some ⟨w7.heap.size, 0, none⟩) 1 1 [.int .u8 224, .string J] rfl (Rds.fresh (Blk.new _ _ _) rfl) (by simp [Value.oneCell']) (by have := hlb.out; simp only [maxLen]; omega) (by have := hlb.out; omega) (by have := r7.out.size; simp; omega) ?_
                                   intro v8 w8 hown8 hon8 hat8
                                   have hrw8 : Hid (w8.ownsRow w5.heap.size 36 2 v8 (L.length + 1) (exC (L ++ [(224, J)]))) := Lib.hid (by rw [exC_append]; exact hown8)
                                   have r8 : Hid (Only No w5 w8) := Lib.hid ((r7.out.alloc _).then hon8 (fun b hb => .inr (own_ge hrw7.out b hb)))
                                   obtain ⟨A8, c8, rfl⟩ := own_slice hrw8.out
                                   have hR8 : Hid (Rds w8 2 A8 (L.length + 1) (exC (L ++ [(224, J)]))) := Lib.hid (Rds.of_own hrw8.out)
                                   have hl8 : Hid ((L ++ [((224 : Int), J)]).length = L.length + 1) := Lib.hid (by rw [List.length_append]; rfl)
                                   clear hown8 hon8 hat8)
                                | fail)
                              obtain ⟨K, hK⟩ : ∃ K, Hid (K = L.length + 1) := ⟨_, Lib.hid rfl⟩
                              rw [← hK.out] at hR8 hl8 ⊢
                              have hKb : K * 24 ≤ 140737488351496 := by have h3 := hK.out; have h4 := hlb.out; omega
                              have bx8 := Lib.hid (bx6.out.only r8.out id)
                              have h13f := Lib.hid (own_only h13e.out r8.out (fun _ _ => id))
                              have q8 := Lib.hid (q5.out.trans r8.out)
                              clear hrw8
                              go_wp2_with fail
                              refine (prof27s A8 K c8 _ w8 hR8.out hl8.out (by omega) b6.out).mono ?_
                              rintro e w9 ⟨rfl, o9⟩
                              rw [b2.out]
                              have r9 := Lib.hid o9
                              clear o9
                              go_wp2_with fail
                              refine (jfifw_any A8 K c8 _ w9 (hR8.out.no r9.out) hl8.out (by omega)).mono ?_
                              rintro e w10 ⟨rfl, o10⟩
                              rw [b1.out]
                              have r10 := Lib.hid (r9.out.trans o10)
                              clear o10 r9
                              have r11 : Hid (Only No w8 (w10.alloc (.cells (dnC M mi U X' Y') 30))) := Lib.hid (r10.out.alloc _)
                              have hcv := conv_own (own_only h13f.out r11.out (fun _ _ => id)) hns.out
                              rw [← hS.out] at hcv
                              have bx11 := bx8.out.only r11.out id
                              have by11 : Blk (w10.alloc (.cells (dnC M mi U X' Y') 30)) w10.heap.size 30 (dnC M mi U X' Y') := Blk.new _ _ _
                              have d0 := bx11.cell 0
                              have d1 := bx11.cell 1
                              have d2 := bx11.cell 2
                              have d3 := bx11.cell 3
                              have d4 := bx11.cell 4
                              have e0 := by11.cell 0
                              have e1 := by11.cell 1
                              have e2 := by11.cell 2
                              have e3 := by11.cell 3
                              have e4 := by11.cell 4
                              simp only [List.getElem?_toArray, List.getElem?_cons_zero, List.getElem?_cons_succ] at d0 d1 d2 d3 d4 e0 e1 e2 e3 e4
                              replace bx11 := Lib.hid bx11
                              replace by11 := Lib.hid by11
                              go_wp2_with fail
                              refine (adobe_any A8 K c8 _ _ (hR8.out.no r11.out) hl8.out (by omega)).mono ?_
                              rintro e w12 ⟨rfl, o12⟩
                              rw [b3.out]
                              have r12 := Lib.hid (r11.out.trans o12)
                              clear o12 hcv d0 d1 d2 d3 d4 e0 e1 e2 e3 e4
                              go_wp2_with fail
                              refine (turned24s A8 K c8 _ _ (hR8.out.no r12.out) hl8.out (by omega) b7.out).mono ?_
                              rintro e w13 ⟨rfl, o13⟩
                              rw [b4.out]
                              have r13 := Lib.hid (r12.out.trans o13)
                              clear o13
                              go_wp2_with fail
                              refine (comm_b A8 K c8 _ _ (hR8.out.no r13.out) hl8.out (by omega)).mono ?_
                              rintro e w14 ⟨v14, rfl, h14, o14⟩
                              rw [b5.out] at h14
                              obtain ⟨A14, c14, rfl⟩ := own_slice h14
                              have r14 := Lib.hid (r13.out.trans o14)
                              rw [show ([] : List ByteArray).length = 0 from rfl]
                              clear o14 h14
                              go_wp2_with fail
                              go_ret
                              exact ⟨rfl, (q8.out.trans r14.out).below_no⟩
end Go.Proofs.Ytehnahikfemodaa.Ct
