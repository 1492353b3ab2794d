/- ResyncOrder's walk. -/
import Derived.Test.YtdbidojncboalaaPlWalk
import Derived.Test.YtdbidojncboalaaOrdLaw
import Derived.Deep.CutRange
namespace Go.Proofs.Ytdbidojncboalaa.Ct
open Go.ChangeShapes Go.WideShapes Go.RowKit Mm Rs

/-- is one of the first k strays behind the last placed piece, and ahead of this one? -/
def oddAt (S : List Int) (s : Slot) (a : Int) (k : Nat) : Bool := (S.take k).any fun x => decide (x < s.1) && decide (a < x)
theorem oddAt_succ (S : List Int) (s : Slot) (a : Int) (k : Nat) (h : k < S.length) : oddAt S s a (k + 1) = (oddAt S s a k || (decide (S[k] < s.1) && decide (a < S[k]))) := by
  unfold oddAt
  rw [List.take_succ_eq_append_getElem h, List.any_append]
  simp
theorem oddAt_all (S : List Int) (s : Slot) (a : Int) : oddAt S s a S.length = true ↔ ∃ x ∈ S, a < x ∧ x < s.1 := by
  unfold oddAt
  rw [List.take_length, List.any_eq_true]
  simp only [Bool.and_eq_true, decide_eq_true_eq]
  exact ⟨fun ⟨x, h1, h2, h3⟩ => ⟨x, h1, h3, h2⟩, fun ⟨x, h1, h2, h3⟩ => ⟨x, h1, h3, h2⟩⟩
set_option maxRecDepth 100000 in
set_option maxHeartbeats 6400000 in
theorem order_any (A : Option Addr) (m c : Nat) (ps : List Piece) (a1 : Int) (w : World) (hr : Rds w 4 A m (pcC ps)) (hl : ps.length = m) (hm : m * 32 ≤ 140737488355328) (hR : ∀ p ∈ ps, -128 ≤ p.r ∧ p.r ≤ 127) :
    Calls Try.prog 8 #[.slice A m c, .int .i64 a1] w (fun e w' => e = .returned (.bool true) ∧ Below w.heap.size w w') := by
  obtain ⟨n, hn⟩ : ∃ n, Hid (n = a1 % 600) := ⟨_, Lib.hid rfl⟩
  have hn1 : 0 ≤ n := by have := hn.out; omega
  have hn2 : n ≤ 600 := by have := hn.out; omega
  have HR0 := Lib.hid hr
  have HL0 := Lib.hid hl
  have HQ := Lib.hid hR
  clear hr hl hR
  go_enter Try.func8, Try.ntmps8
  go_wp2_with (first | (go_at_call 22; refine (alive_any _).mono ?_; rintro e w1 ⟨rfl, o1⟩) | (go_at_call 26; refine (pick_any _ 600 _ (by omega) (by omega)).mono ?_; rintro e w2 ⟨rfl, rfl⟩))
  rw [← hn.out]
  refine (place_yes A m c ps n w1 (by omega) (by omega) (HR0.out.no o1) HL0.out hm HQ.out).mono ?_
  rintro e w5 ⟨v7, v8, rfl, ha, hs, ho⟩
  obtain ⟨rs, hrs⟩ : ∃ rs, Hid (rs = ps.map (·.r)) := ⟨_, Lib.hid rfl⟩
  rw [← hrs.out] at ha hs ⊢
  obtain ⟨L, S, T, hP⟩ : ∃ L S T, Hid (place rs n = (L, S, T)) := ⟨_, _, _, Lib.hid rfl⟩
  have hord := place_ord rs n hn1 (by omega)
  rw [hP.out] at ha hs hord ⊢
  simp only at ha hs hord ⊢
  obtain ⟨A7, c7, rfl⟩ := own_slice ha
  obtain ⟨A8, c8, rfl⟩ := own_slice hs
  have hLn := hord.len
  have hT0 := hord.t0
  have hT1 : T ≤ m := by have := hord.t1; rw [hrs.out, List.length_map, HL0.out] at this; exact this
  obtain ⟨N, rfl⟩ : ∃ N : Nat, n = N := ⟨n.toNat, by omega⟩
  have hN : L.length = N := by omega
  rw [hN] at ha hLn ⊢
  have hSl : S.length ≤ m := by
    have := (placeGo_len rs (new N) 0 [] [] (new_ok hn1) (by simp [new])).2.2.2
    have h2 : (place rs N).2.1.length ≤ rs.length := by
      unfold place
      split
      · simp
      · simpa using this
    rw [hP.out, hrs.out, List.length_map, HL0.out] at h2
    exact h2
  have hneN : ((N : Int) != (N : Int)) = false := by simp
  have HA := Lib.hid (Rds.of_own ha)
  have HS := Lib.hid (Rds.of_own hs)
  have HO := Lib.hid hord
  have on5 := Lib.hid (o1.trans ho)
  have HL := Lib.hid hN
  clear ha hs hord ho o1 hN hLn
  go_wp2_with fail
  go_loopw [10] (fun v10 wr => ∃ i : Nat, v10 = .int .i64 i ∧ i ≤ N ∧ Hid (Only No w5 wr)) (fun v10 _ => N - (intOf v10).toNat)
  case atStart => exact ⟨0, rfl, by omega, Lib.hid (Only.refl _ _)⟩
  case round =>
    obtain ⟨i, rfl, hi, hI⟩ := hrel
    by_cases hlt : i < N
    · have hlt' : (i : Int) < N := by omega
      obtain ⟨ad, rfl, x0, x1⟩ := slot_cells (HA.out.no hI.out) HL.out i hlt
      obtain ⟨s, hs⟩ : ∃ s, Hid (s = L[i]'(by rw [HL.out]; exact hlt)) := ⟨_, Lib.hid rfl⟩
      rw [← hs.out] at x0 x1
      have hso : Hid (SlotOk rs N S (L.take i) s) := Lib.hid (by rw [hs.out]; exact HO.out.all i (by rw [HL.out]; exact hlt))
      have hsT : s.1 < T := by rw [hs.out]; exact HO.out.lt _ (List.getElem_mem _)
      have hs1 : -1 ≤ s.1 := hso.out.low
      go_upto_region 10 with (fail)
      have hQall : Hid (∀ W', Only No wr W' → Rds W' 2 (some ad) N (slC L)) := Lib.hid (fun W' h => HA.out.no (hI.out.trans h))
      obtain ⟨W, hW⟩ : ∃ W, W = wr.alloc (.cells #[.int .i64 s.1, .int .i8 s.2] 48) := ⟨_, rfl⟩
      have oW : Hid (Only No wr W) := Lib.hid (by rw [hW]; exact (Only.refl _ _).alloc _)
      have hb : Blk W wr.heap.size 48 #[.int .i64 s.1, .int .i8 s.2] := by rw [hW]; exact Blk.new _ _ _
      rw [← hW]
      obtain ⟨g, hg⟩ : ∃ g, g = wr.heap.size := ⟨_, rfl⟩
      rw [← hg] at hb ⊢
      have b0 : W.cell? ⟨g, 0, none⟩ = some (.int .i64 s.1) := hb.cell 0
      have b1 : W.cell? ⟨g, 1, none⟩ = some (.int .i8 s.2) := hb.cell 1
      have hzW : Hid (g < W.heap.size) := Lib.hid hb.lt
      clear hW hg hb x0 x1
      go_cut [78] from 46 to 273 (fun s78 wx => s78 = .bool false ∧ ∃ k, wx = W.drewN k)
      case first =>
        as_aux_lemma =>
          by_cases h0 : (0 : Int) < i
          · obtain ⟨k, hk⟩ : ∃ k : Nat, (i : Int) - 1 = k := ⟨i - 1, by omega⟩
            have hkN : k < N := by omega
            have hkN' : (k : Int) < N := by omega
            have hk0 : (0 : Int) ≤ k := by omega
            have hw : IntKind.i64.wrap (k : Int) = (k : Int) := by rw [IntKind.wrap_i64]; omega
            obtain ⟨ad2, e2, y0, y1⟩ := slot_cells (hQall.out W oW.out) HL.out k hkN
            obtain rfl := Option.some.inj e2
            have hle : (L[k]'(by rw [HL.out]; exact hkN)).1 ≤ s.1 := hso.out.asc _ (by
              rw [List.mem_take_iff_getElem]
              exact ⟨k, by rw [HL.out]; omega, rfl⟩)
            generalize L[k]'(by rw [HL.out]; exact hkN) = u at y0 y1 hle
            have f1 : decide (s.1 < u.1) = false := decide_eq_false (by omega)
            have f1' : ¬ s.1 < u.1 := by omega
            have f2' : ¬ T ≤ s.1 := by omega
            have f3' : ¬ s.1 < -1 := by omega
            have h0n : 0 < i := by omega
            have hd0 : decide (0 < i) = true := decide_eq_true h0n
            have hd1 : decide ((0 : Int) < i) = true := decide_eq_true h0
            go_quiet (fail)
            go_wp2_with fail
            go_meet
            exact ⟨rfl, _, rfl⟩
          · have h0n : ¬ 0 < i := by omega
            have hd0 : decide (0 < i) = false := decide_eq_false h0n
            have hd1 : decide ((0 : Int) < i) = false := decide_eq_false h0
            have f2' : ¬ T ≤ s.1 := by omega
            have f3' : ¬ s.1 < -1 := by omega
            go_quiet (fail)
            go_wp2_with fail
            go_meet
            exact ⟨rfl, _, rfl⟩
      case rest =>
        obtain ⟨rfl, k1, hwc⟩ := hcut
        obtain ⟨W2, rfl⟩ : ∃ W2 : World, W2 = wc := ⟨_, rfl⟩
        have a0 : W2.cell? ⟨g, 0, none⟩ = some (.int .i64 s.1) := by rw [hwc]; exact b0
        have a1 : W2.cell? ⟨g, 1, none⟩ = some (.int .i8 s.2) := by rw [hwc]; exact b1
        have oW2 : Hid (Only No wr W2) := Lib.hid (by rw [hwc]; exact oW.out.drewN _)
        have hzW2 : Hid (g < W2.heap.size) := Lib.hid (by rw [hwc]; exact hzW.out)
        clear hwc
        go_upto_region 12 with (fail)
        go_cut [12] from 46 to 273 (fun s12 wx => s12 = .bool (pl s) ∧ W2 = wx)
        case first =>
          as_aux_lemma =>
            rcases hso.out.st with e | e | e | e
            all_goals
              rw [e] at a1
              go_wp2_with fail
              go_meet
              exact ⟨by simp [pl, e], rfl⟩
        case rest =>
          obtain ⟨rfl, hwc⟩ := hcut
          obtain rfl := hwc
          cases hpl : pl s
          · as_aux_lemma =>
              have hst2 : s.2 = 5 ∨ s.2 = 7 := by
                have h1 := hso.out.st
                have h2 : ¬ s.2 = 0 ∧ ¬ s.2 = 6 := by simpa [pl] using hpl
                omega
              go_upto_region 13 with (fail)
              go_cut [98] from 46 to 273 (fun s98 wx => s98 = .bool false ∧ W2 = wx)
              case first =>
                as_aux_lemma =>
                  rcases hst2 with e | e
                  all_goals
                    rw [e] at a1
                    go_wp2_with fail
                    go_meet
                    exact ⟨rfl, rfl⟩
              case rest =>
                obtain ⟨rfl, hwc⟩ := hcut
                obtain rfl := hwc
                go_upto_region 21 with (fail)
                go_cut [176] from 46 to 273 (fun s176 wx => s176 = .bool false ∧ W2 = wx)
                case first =>
                  as_aux_lemma =>
                    rcases hst2 with e | e
                    · rw [e] at a1
                      go_wp2_with fail
                      go_meet
                      exact ⟨rfl, rfl⟩
                    · rw [e] at a1
                      obtain ⟨h2p, r, hr, hr1⟩ := hso.out.cut e
                      obtain ⟨p, hsp⟩ : ∃ p : Nat, s.1 = p := ⟨s.1.toNat, by omega⟩
                      have hpm : p < m := by omega
                      have hpm' : (p : Int) < m := by omega
                      have hrp : Hid (r = (ps[p]'(by rw [HL0.out]; exact hpm)).r) := Lib.hid (by
                        rw [hsp, Int.toNat_natCast, hrs.out, List.getElem?_map, List.getElem?_eq_getElem (by rw [HL0.out]; exact hpm)] at hr
                        exact (Option.some.inj hr).symm)
                      rw [hsp] at a0
                      obtain ⟨ad3, rfl, q0, q1, q2, q3, qb⟩ := piece_cells (HR0.out.no ((on5.out.trans hI.out).trans oW2.out)) HL0.out p hpm
                      rw [← hrp.out] at q2
                      have hr2 : ¬ -1 ≤ r := by omega
                      have hrb : decide (-1 ≤ r) = false := decide_eq_false hr2
                      replace hr := Lib.hid hr
                      replace hsp := Lib.hid hsp
                      by_cases hl1 : (i : Int) < N - 1
                      · obtain ⟨k, hk⟩ : ∃ k : Nat, k = i + 1 := ⟨_, rfl⟩
                        have hkN : k < N := by omega
                        have hk1 : (i : Int) + 1 = k := by omega
                        have hkN' : (k : Int) < N := by omega
                        have hw : IntKind.i64.wrap ((i : Int) + 1) = (k : Int) := by rw [IntKind.wrap_i64]; omega
                        have hk0 : (0 : Int) ≤ k := by omega
                        clear hk1
                        obtain ⟨ad2, e2, y0, y1⟩ := slot_cells (hQall.out W2 oW2.out) HL.out k hkN
                        obtain rfl := Option.some.inj e2
                        have h7 : (L[k]'(by rw [HL.out]; exact hkN)).2 = 7 := HO.out.run i k (by omega) (by rw [HL.out]; exact hkN) (by rw [← hs.out]; exact e)
                        rw [h7] at y1
                        replace hk := Lib.hid hk
                        replace h7 := Lib.hid h7
                        go_wp2_with fail
                        go_meet
                        exact ⟨rfl, rfl⟩
                      · go_wp2_with fail
                        go_meet
                        exact ⟨rfl, rfl⟩
                case rest =>
                  obtain ⟨rfl, hwc⟩ := hcut
                  obtain rfl := hwc
                  have oWt : Hid (Only No wr W2) := oW2
                  have hgW := hzW2
                  as_aux_lemma =>
                    go_wp2_with fail
                    obtain ⟨AH, hAH⟩ : ∃ AH : Int, Hid (AH = Rs.ahead (L.take i)) := ⟨_, Lib.hid rfl⟩
                    go_loopw [14, 15] (fun v14 v15 wq => ∃ k : Nat, v15 = .int .i64 k ∧ k ≤ S.length ∧ v14 = .bool (oddAt S s AH k) ∧ Hid (Only No W2 wq)) (fun _ v15 _ => S.length - (intOf v15).toNat)
                    case atStart => exact ⟨0, rfl, by omega, rfl, Lib.hid (Only.refl _ _)⟩
                    case round =>
                      obtain ⟨k, rfl, hkS, rfl, hK⟩ := hrel
                      obtain ⟨wj, rfl⟩ : ∃ wj : World, wj = wr := ⟨_, rfl⟩
                      have a0j : wj.cell? ⟨g, 0, none⟩ = some (.int .i64 s.1) := (hK.out.cell hgW.out id).trans a0
                      have a1k : wj.cell? ⟨g, 1, none⟩ = some (.int .i8 s.2) := (hK.out.cell hgW.out id).trans a1
                      by_cases hkl : k < S.length
                      · have hkl' : (k : Int) < S.length := by omega
                        go_wp2_with fail
                        go_loopw [16, 17] (fun v16 v17 wq => ∃ j : Nat, v17 = .int .i64 j ∧ j ≤ i ∧ v16 = .int .i64 (Rs.ahead (L.take j)) ∧ wj = wq) (fun _ v17 _ => i - (intOf v17).toNat)
                        case atStart => exact ⟨0, rfl, by omega, rfl, rfl⟩
                        case round =>
                          obtain ⟨j, rfl, hj, rfl, rfl⟩ := hrel
                          by_cases hjl : j < i
                          · have hjl' : (j : Int) < i := by omega
                            have hjN : (j : Int) < N := by omega
                            obtain ⟨ad2, e2, y0, y1⟩ := slot_cells (hQall.out wj (oWt.out.trans hK.out)) HL.out j (by omega)
                            obtain rfl := Option.some.inj e2
                            have hah : Rs.ahead (L.take (j + 1)) = if pl (L[j]'(by rw [HL.out]; omega)) then (L[j]'(by rw [HL.out]; omega)).1 else Rs.ahead (L.take j) := by
                              rw [List.take_succ_eq_append_getElem (by rw [HL.out]; omega), ahead_snoc]
                            have hjst := (HO.out.all j (by rw [HL.out]; omega)).st
                            generalize L[j]'(by rw [HL.out]; omega) = u at y0 y1 hah hjst
                            rcases hjst with e | e | e | e
                            all_goals
                              rw [e] at y1
                              have hpu : pl u = (u.2 == 0 || u.2 == 6) := rfl
                              rw [e] at hpu
                              rw [hpu] at hah
                              replace hah := Lib.hid hah
                              go_wp2_with fail
                              go_roundw
                            all_goals first
                              | exact ⟨j + 1, by go_num, by omega, by rw [hah.out]; rfl, rfl⟩
                              | exact ⟨j + 1, by go_num, by omega, by rw [hah.out]; rfl, trivial⟩
                              | (simp [intOf]; omega)
                              | ((repeat apply Exists.intro); exact ⟨⟨j + 1, by go_num, by omega, by rw [hah.out]; rfl, rfl⟩, rfl⟩)
                          · have hjl' : ¬ (j : Int) < i := by omega
                            obtain rfl : j = i := by omega
                            rw [← hAH.out]
                            have hk1 : (k : Int) < S.length := by omega
                            obtain ⟨ad8, e8, x0⟩ := int_cell (HS.out.no ((hI.out.trans oWt.out).trans hK.out)) rfl k hkl
                            obtain ⟨x, hx⟩ : ∃ x, Hid (x = S[k]) := ⟨_, Lib.hid rfl⟩
                            rw [← hx.out] at x0
                            obtain rfl := e8
                            go_upto_region 33 with (fail)
                            go_cut [14] from 177 to 265 (fun s14 wx => s14 = .bool (oddAt S s AH (k + 1)) ∧ ∃ q, wx = wj.drewN q)
                            case first =>
                              as_aux_lemma =>
                                have hsucc : oddAt S s AH (k + 1) = (oddAt S s AH k || (decide (x < s.1) && decide (AH < x))) := by rw [hx.out]; exact oddAt_succ S s AH k hkl
                                cases ho : oddAt S s AH k
                                · rw [ho] at hsucc
                                  by_cases f1 : x < s.1
                                  · have d1 : decide (x < s.1) = true := decide_eq_true f1
                                    by_cases f2 : AH < x
                                    · have d2 : decide (AH < x) = true := decide_eq_true f2
                                      rw [d1, d2] at hsucc
                                      replace hsucc := Lib.hid hsucc
                                      go_quiet (fail)
                                      go_wp2_with fail
                                      go_meet
                                      exact ⟨by rw [hsucc.out]; rfl, _, rfl⟩
                                    · have d2 : decide (AH < x) = false := decide_eq_false f2
                                      rw [d1, d2] at hsucc
                                      replace hsucc := Lib.hid hsucc
                                      go_quiet (fail)
                                      go_wp2_with fail
                                      go_meet
                                      exact ⟨by rw [hsucc.out]; rfl, _, rfl⟩
                                  · have d1 : decide (x < s.1) = false := decide_eq_false f1
                                    rw [d1] at hsucc
                                    replace hsucc := Lib.hid hsucc
                                    go_quiet (fail)
                                    go_wp2_with fail
                                    go_meet
                                    exact ⟨by rw [hsucc.out]; rfl, _, rfl⟩
                                · rw [ho] at hsucc
                                  replace hsucc := Lib.hid hsucc
                                  go_quiet (fail)
                                  go_wp2_with fail
                                  go_meet
                                  exact ⟨by rw [hsucc.out]; rfl, _, rfl⟩
                            case rest =>
                              obtain ⟨rfl, q1, hwc⟩ := hcut
                              obtain ⟨wX, rfl⟩ : ∃ wX : World, wX = wc := ⟨_, rfl⟩
                              have oX : Hid (Only No W2 wX) := Lib.hid (by rw [hwc]; exact hK.out.drewN _)
                              have x0 : wX.cell? (ad8.add k) = some (.int .i64 x) := by rw [hwc]; exact x0
                              have a0 : wX.cell? ⟨g, 0, none⟩ = some (.int .i64 s.1) := by rw [hwc]; exact a0j
                              clear hwc
                              go_upto_region 34 with (fail)
                              go_cut [265] from 177 to 265 (fun s265 wx => s265 = .bool false ∧ ∃ q, wx = wX.drewN q)
                              case first =>
                                as_aux_lemma =>
                                  have f3 : ¬ x < 0 := by rw [hx.out]; have := (HO.out.sl _ (List.getElem_mem hkl)).1; omega
                                  have f4 : ¬ T ≤ x := by rw [hx.out]; have := (HO.out.sl _ (List.getElem_mem hkl)).2; omega
                                  by_cases h0 : (0 : Int) < k
                                  · obtain ⟨q, hq⟩ : ∃ q : Nat, (k : Int) - 1 = q := ⟨k - 1, by omega⟩
                                    have hqS : q < S.length := by omega
                                    have hqS' : (q : Int) < S.length := by omega
                                    have hq0 : (0 : Int) ≤ q := by omega
                                    have hw : IntKind.i64.wrap (q : Int) = (q : Int) := by rw [IntKind.wrap_i64]; omega
                                    obtain ⟨ad9, e9, z0⟩ := int_cell (HS.out.no ((hI.out.trans oWt.out).trans oX.out)) rfl q hqS
                                    obtain rfl := Option.some.inj e9
                                    have hlt9 : S[q] < x := by rw [hx.out]; exact List.pairwise_iff_getElem.1 HO.out.sp q k hqS hkl (by omega)
                                    generalize S[q] = y at z0 hlt9
                                    have f5 : ¬ x ≤ y := by omega
                                    have h0n : 0 < k := by omega
                                    have hd0 : decide (0 < k) = true := decide_eq_true h0n
                                    have hd1 : decide ((0 : Int) < k) = true := decide_eq_true h0
                                    go_quiet (fail)
                                    go_wp2_with fail
                                    go_meet
                                    exact ⟨rfl, _, rfl⟩
                                  · have h0n : ¬ 0 < k := by omega
                                    have hd0 : decide (0 < k) = false := decide_eq_false h0n
                                    have hd1 : decide ((0 : Int) < k) = false := decide_eq_false h0
                                    go_quiet (fail)
                                    go_wp2_with fail
                                    go_meet
                                    exact ⟨rfl, _, rfl⟩
                              case rest =>
                                obtain ⟨rfl, q2, hwc⟩ := hcut
                                have oY : Hid (Only No W2 wc) := Lib.hid (by rw [hwc]; exact oX.out.drewN _)
                                clear hwc
                                go_wp2_with fail
                                go_roundw
                                case rel => first
                                  | exact ⟨k + 1, by go_num, by omega, rfl, oY⟩
                                  | ((repeat apply Exists.intro); exact ⟨⟨k + 1, by go_num, by omega, rfl, oY⟩, rfl⟩)
                                case measure => simp [intOf]; omega
                      · have hkl' : ¬ (k : Int) < S.length := by omega
                        obtain rfl : k = S.length := by omega
                        go_wp2_with fail
                        go_roundw
                        case rel => first
                          | exact ⟨i + 1, by go_num, by omega, Lib.hid ((hI.out.trans oWt.out).trans hK.out)⟩
                          | ((repeat apply Exists.intro); exact ⟨⟨i + 1, by go_num, by omega, Lib.hid ((hI.out.trans oWt.out).trans hK.out)⟩, rfl⟩)
                        case measure => simp [intOf]; omega
          · as_aux_lemma =>
              obtain ⟨h1p, h2p, ⟨r, hr, hA, hB⟩, hnS, hodd⟩ := hso.out.placed hpl
              rw [List.length_take, HL.out, Nat.min_eq_left hi] at hA hB
              obtain ⟨p, hsp⟩ : ∃ p : Nat, s.1 = p := ⟨s.1.toNat, by omega⟩
              have hpm : p < m := by omega
              have hpm' : (p : Int) < m := by omega
              have hrp : Hid (r = (ps[p]'(by rw [HL0.out]; exact hpm)).r) := Lib.hid (by
                rw [hsp, Int.toNat_natCast, hrs.out, List.getElem?_map, List.getElem?_eq_getElem (by rw [HL0.out]; exact hpm)] at hr
                exact (Option.some.inj hr).symm)
              have hrng := HQ.out _ (List.getElem_mem (show p < ps.length by rw [HL0.out]; exact hpm))
              rw [← hrp.out] at hrng
              replace hsp := Lib.hid hsp
              replace h1p := Lib.hid h1p
              replace hr := Lib.hid hr
              replace hA := Lib.hid hA
              replace hB := Lib.hid hB
              replace hnS := Lib.hid hnS
              replace hodd := Lib.hid hodd
              go_upto_region 16 with (fail)
              go_cut [117] from 46 to 273 (fun s117 wx => s117 = .bool false ∧ ∃ k, wx = W2.drewN k)
              case first =>
                as_aux_lemma =>
                  have f3' : ¬ s.1 < 0 := by omega
                  by_cases h0 : (0 : Int) < i
                  · obtain ⟨k, hk⟩ : ∃ k : Nat, (i : Int) - 1 = k := ⟨i - 1, by omega⟩
                    have hkN : k < N := by omega
                    have hkN' : (k : Int) < N := by omega
                    have hk0 : (0 : Int) ≤ k := by omega
                    have hw : IntKind.i64.wrap (k : Int) = (k : Int) := by rw [IntKind.wrap_i64]; omega
                    obtain ⟨ad2, e2, y0, y1⟩ := slot_cells (hQall.out W2 oW2.out) HL.out k hkN
                    obtain rfl := Option.some.inj e2
                    have hle : (L[k]'(by rw [HL.out]; exact hkN)).1 < s.1 := h1p.out _ (by
                      rw [List.mem_take_iff_getElem]
                      exact ⟨k, by rw [HL.out]; omega, rfl⟩)
                    generalize L[k]'(by rw [HL.out]; exact hkN) = u at y0 y1 hle
                    have f1 : (s.1 == u.1) = false := by rw [beq_eq_false_iff_ne]; omega
                    have h0n : 0 < i := by omega
                    have hd0 : decide (0 < i) = true := decide_eq_true h0n
                    have hd1 : decide ((0 : Int) < i) = true := decide_eq_true h0
                    go_quiet (fail)
                    go_wp2_with fail
                    go_meet
                    exact ⟨rfl, _, rfl⟩
                  · have h0n : ¬ 0 < i := by omega
                    have hd0 : decide (0 < i) = false := decide_eq_false h0n
                    have hd1 : decide ((0 : Int) < i) = false := decide_eq_false h0
                    go_quiet (fail)
                    go_wp2_with fail
                    go_meet
                    exact ⟨rfl, _, rfl⟩
              case rest =>
                obtain ⟨rfl, k1, hwc⟩ := hcut
                obtain ⟨W3, rfl⟩ : ∃ W3 : World, W3 = wc := ⟨_, rfl⟩
                have a0 : W3.cell? ⟨g, 0, none⟩ = some (.int .i64 s.1) := by rw [hwc]; exact a0
                have a1 : W3.cell? ⟨g, 1, none⟩ = some (.int .i8 s.2) := by rw [hwc]; exact a1
                have oW3 : Hid (Only No wr W3) := Lib.hid (by rw [hwc]; exact oW2.out.drewN _)
                have hzW3 : Hid (g < W3.heap.size) := Lib.hid (by rw [hwc]; exact hzW2.out)
                clear hwc
                go_upto_region 18 with (fail)
                go_cut [13] from 46 to 273 (fun s13 wx => s13 = .int .i8 r ∧ W3 = wx)
                case first =>
                  as_aux_lemma =>
                    rw [hsp.out] at a0
                    obtain ⟨ad3, rfl, q0, q1, q2, q3, qb⟩ := piece_cells (HR0.out.no ((on5.out.trans hI.out).trans oW3.out)) HL0.out p hpm
                    rw [← hrp.out] at q2
                    go_wp2_with fail
                    go_meet
                    exact ⟨rfl, rfl⟩
                case rest =>
                  obtain ⟨rfl, hwc⟩ := hcut
                  obtain rfl := hwc
                  go_upto_region 19 with (fail)
                  go_cut [149] from 46 to 273 (fun s149 wx => s149 = .bool false ∧ W3 = wx)
                  case first =>
                    as_aux_lemma =>
                      by_cases hl1 : (i : Int) < N - 1
                      · obtain ⟨r0, r8⟩ := hA.out (by omega)
                        have t0 : (r - (i : Int)).tmod 8 = 0 := Int.tmod_eq_zero_of_dvd (by omega)
                        have hw : IntKind.i64.wrap (r - (i : Int)) = r - i := by rw [IntKind.wrap_i64]; omega
                        have hne : ((i : Int) == (N : Int) - 1) = false := by rw [beq_eq_false_iff_ne]; omega
                        have f0 : ¬ r < 0 := by omega
                        go_wp2_with fail
                        go_meet
                        exact ⟨rfl, rfl⟩
                      · have hr1 := hB.out (by omega)
                        have heq : ((i : Int) == (N : Int) - 1) = true := by rw [beq_iff_eq]; omega
                        subst hr1
                        go_wp2_with fail
                        go_meet
                        exact ⟨rfl, rfl⟩
                  case rest =>
                    obtain ⟨rfl, hwc⟩ := hcut
                    obtain rfl := hwc
                    go_upto_region 21 with (fail)
                    go_cut [176] from 46 to 273 (fun s176 wx => s176 = .bool false ∧ W3 = wx)
                    case first =>
                      as_aux_lemma =>
                        have f7 : (s.2 == 7) = false := by
                          have : s.2 = 0 ∨ s.2 = 6 := by simpa [pl] using hpl
                          rw [beq_eq_false_iff_ne]; omega
                        go_wp2_with fail
                        go_meet
                        exact ⟨rfl, rfl⟩
                    case rest =>
                      obtain ⟨rfl, hwc⟩ := hcut
                      obtain rfl := hwc
                      have oWt : Hid (Only No wr W3) := oW3
                      have hgW := hzW3
                      as_aux_lemma =>
                        go_wp2_with fail
                        obtain ⟨AH, hAH⟩ : ∃ AH : Int, Hid (AH = Rs.ahead (L.take i)) := ⟨_, Lib.hid rfl⟩
                        go_loopw [14, 15] (fun v14 v15 wq => ∃ k : Nat, v15 = .int .i64 k ∧ k ≤ S.length ∧ v14 = .bool (oddAt S s AH k) ∧ Hid (Only No W3 wq)) (fun _ v15 _ => S.length - (intOf v15).toNat)
                        case atStart => exact ⟨0, rfl, by omega, rfl, Lib.hid (Only.refl _ _)⟩
                        case round =>
                          obtain ⟨k, rfl, hkS, rfl, hK⟩ := hrel
                          obtain ⟨wj, rfl⟩ : ∃ wj : World, wj = wr := ⟨_, rfl⟩
                          have a0j : wj.cell? ⟨g, 0, none⟩ = some (.int .i64 s.1) := (hK.out.cell hgW.out id).trans a0
                          have a1k : wj.cell? ⟨g, 1, none⟩ = some (.int .i8 s.2) := (hK.out.cell hgW.out id).trans a1
                          by_cases hkl : k < S.length
                          · have hkl' : (k : Int) < S.length := by omega
                            go_wp2_with fail
                            go_loopw [16, 17] (fun v16 v17 wq => ∃ j : Nat, v17 = .int .i64 j ∧ j ≤ i ∧ v16 = .int .i64 (Rs.ahead (L.take j)) ∧ wj = wq) (fun _ v17 _ => i - (intOf v17).toNat)
                            case atStart => exact ⟨0, rfl, by omega, rfl, rfl⟩
                            case round =>
                              obtain ⟨j, rfl, hj, rfl, rfl⟩ := hrel
                              by_cases hjl : j < i
                              · have hjl' : (j : Int) < i := by omega
                                have hjN : (j : Int) < N := by omega
                                obtain ⟨ad2, e2, y0, y1⟩ := slot_cells (hQall.out wj (oWt.out.trans hK.out)) HL.out j (by omega)
                                obtain rfl := Option.some.inj e2
                                have hah : Rs.ahead (L.take (j + 1)) = if pl (L[j]'(by rw [HL.out]; omega)) then (L[j]'(by rw [HL.out]; omega)).1 else Rs.ahead (L.take j) := by
                                  rw [List.take_succ_eq_append_getElem (by rw [HL.out]; omega), ahead_snoc]
                                have hjst := (HO.out.all j (by rw [HL.out]; omega)).st
                                generalize L[j]'(by rw [HL.out]; omega) = u at y0 y1 hah hjst
                                rcases hjst with e | e | e | e
                                all_goals
                                  rw [e] at y1
                                  have hpu : pl u = (u.2 == 0 || u.2 == 6) := rfl
                                  rw [e] at hpu
                                  rw [hpu] at hah
                                  replace hah := Lib.hid hah
                                  go_wp2_with fail
                                  go_roundw
                                all_goals first
                                  | exact ⟨j + 1, by go_num, by omega, by rw [hah.out]; rfl, rfl⟩
                                  | exact ⟨j + 1, by go_num, by omega, by rw [hah.out]; rfl, trivial⟩
                                  | (simp [intOf]; omega)
                                  | ((repeat apply Exists.intro); exact ⟨⟨j + 1, by go_num, by omega, by rw [hah.out]; rfl, rfl⟩, rfl⟩)
                              · have hjl' : ¬ (j : Int) < i := by omega
                                obtain rfl : j = i := by omega
                                rw [← hAH.out]
                                have hk1 : (k : Int) < S.length := by omega
                                obtain ⟨ad8, e8, x0⟩ := int_cell (HS.out.no ((hI.out.trans oWt.out).trans hK.out)) rfl k hkl
                                obtain ⟨x, hx⟩ : ∃ x, Hid (x = S[k]) := ⟨_, Lib.hid rfl⟩
                                rw [← hx.out] at x0
                                obtain rfl := e8
                                go_upto_region 33 with (fail)
                                go_cut [14] from 177 to 265 (fun s14 wx => s14 = .bool (oddAt S s AH (k + 1)) ∧ ∃ q, wx = wj.drewN q)
                                case first =>
                                  as_aux_lemma =>
                                    have hsucc : oddAt S s AH (k + 1) = (oddAt S s AH k || (decide (x < s.1) && decide (AH < x))) := by rw [hx.out]; exact oddAt_succ S s AH k hkl
                                    cases ho : oddAt S s AH k
                                    · rw [ho] at hsucc
                                      by_cases f1 : x < s.1
                                      · have d1 : decide (x < s.1) = true := decide_eq_true f1
                                        by_cases f2 : AH < x
                                        · have d2 : decide (AH < x) = true := decide_eq_true f2
                                          rw [d1, d2] at hsucc
                                          replace hsucc := Lib.hid hsucc
                                          go_quiet (fail)
                                          go_wp2_with fail
                                          go_meet
                                          exact ⟨by rw [hsucc.out]; rfl, _, rfl⟩
                                        · have d2 : decide (AH < x) = false := decide_eq_false f2
                                          rw [d1, d2] at hsucc
                                          replace hsucc := Lib.hid hsucc
                                          go_quiet (fail)
                                          go_wp2_with fail
                                          go_meet
                                          exact ⟨by rw [hsucc.out]; rfl, _, rfl⟩
                                      · have d1 : decide (x < s.1) = false := decide_eq_false f1
                                        rw [d1] at hsucc
                                        replace hsucc := Lib.hid hsucc
                                        go_quiet (fail)
                                        go_wp2_with fail
                                        go_meet
                                        exact ⟨by rw [hsucc.out]; rfl, _, rfl⟩
                                    · rw [ho] at hsucc
                                      replace hsucc := Lib.hid hsucc
                                      go_quiet (fail)
                                      go_wp2_with fail
                                      go_meet
                                      exact ⟨by rw [hsucc.out]; rfl, _, rfl⟩
                                case rest =>
                                  obtain ⟨rfl, q1, hwc⟩ := hcut
                                  obtain ⟨wX, rfl⟩ : ∃ wX : World, wX = wc := ⟨_, rfl⟩
                                  have oX : Hid (Only No W3 wX) := Lib.hid (by rw [hwc]; exact hK.out.drewN _)
                                  have x0 : wX.cell? (ad8.add k) = some (.int .i64 x) := by rw [hwc]; exact x0
                                  have a0 : wX.cell? ⟨g, 0, none⟩ = some (.int .i64 s.1) := by rw [hwc]; exact a0j
                                  clear hwc
                                  go_upto_region 34 with (fail)
                                  go_cut [265] from 177 to 265 (fun s265 wx => s265 = .bool false ∧ ∃ q, wx = wX.drewN q)
                                  case first =>
                                    as_aux_lemma =>
                                      have f3 : ¬ x < 0 := by rw [hx.out]; have := (HO.out.sl _ (List.getElem_mem hkl)).1; omega
                                      have f4 : ¬ T ≤ x := by rw [hx.out]; have := (HO.out.sl _ (List.getElem_mem hkl)).2; omega
                                      have f6 : (x == s.1) = false := by
                                        rw [beq_eq_false_iff_ne]
                                        intro e
                                        exact hnS.out (by rw [← e, hx.out]; exact List.getElem_mem hkl)
                                      by_cases h0 : (0 : Int) < k
                                      · obtain ⟨q, hq⟩ : ∃ q : Nat, (k : Int) - 1 = q := ⟨k - 1, by omega⟩
                                        have hqS : q < S.length := by omega
                                        have hqS' : (q : Int) < S.length := by omega
                                        have hq0 : (0 : Int) ≤ q := by omega
                                        have hw : IntKind.i64.wrap (q : Int) = (q : Int) := by rw [IntKind.wrap_i64]; omega
                                        obtain ⟨ad9, e9, z0⟩ := int_cell (HS.out.no ((hI.out.trans oWt.out).trans oX.out)) rfl q hqS
                                        obtain rfl := Option.some.inj e9
                                        have hlt9 : S[q] < x := by rw [hx.out]; exact List.pairwise_iff_getElem.1 HO.out.sp q k hqS hkl (by omega)
                                        generalize S[q] = y at z0 hlt9
                                        have f5 : ¬ x ≤ y := by omega
                                        have h0n : 0 < k := by omega
                                        have hd0 : decide (0 < k) = true := decide_eq_true h0n
                                        have hd1 : decide ((0 : Int) < k) = true := decide_eq_true h0
                                        go_quiet (fail)
                                        go_wp2_with fail
                                        go_meet
                                        exact ⟨rfl, _, rfl⟩
                                      · have h0n : ¬ 0 < k := by omega
                                        have hd0 : decide (0 < k) = false := decide_eq_false h0n
                                        have hd1 : decide ((0 : Int) < k) = false := decide_eq_false h0
                                        go_quiet (fail)
                                        go_wp2_with fail
                                        go_meet
                                        exact ⟨rfl, _, rfl⟩
                                  case rest =>
                                    obtain ⟨rfl, q2, hwc⟩ := hcut
                                    have oY : Hid (Only No W3 wc) := Lib.hid (by rw [hwc]; exact oX.out.drewN _)
                                    clear hwc
                                    go_wp2_with fail
                                    go_roundw
                                    case rel => first
                                      | exact ⟨k + 1, by go_num, by omega, rfl, oY⟩
                                      | ((repeat apply Exists.intro); exact ⟨⟨k + 1, by go_num, by omega, rfl, oY⟩, rfl⟩)
                                    case measure => simp [intOf]; omega
                          · have hkl' : ¬ (k : Int) < S.length := by omega
                            obtain rfl : k = S.length := by omega
                            have hst6 : s.2 = 0 ∨ s.2 = 6 := by simpa [pl] using hpl
                            have hodd2 := oddAt_all S s AH
                            rw [← hAH.out] at hodd
                            rcases hst6 with e | e
                            · have ho : oddAt S s AH S.length = false := by
                                cases ho : oddAt S s AH S.length
                                · rfl
                                · rw [ho] at hodd2
                                  have := hodd.out.1 (hodd2.1 rfl)
                                  omega
                              rw [e] at a1k
                              rw [ho]
                              go_wp2_with fail
                              go_roundw
                              case rel => first
                                | exact ⟨i + 1, by go_num, by omega, Lib.hid ((hI.out.trans oWt.out).trans hK.out)⟩
                                | ((repeat apply Exists.intro); exact ⟨⟨i + 1, by go_num, by omega, Lib.hid ((hI.out.trans oWt.out).trans hK.out)⟩, rfl⟩)
                              case measure => simp [intOf]; omega
                            · have ho : oddAt S s AH S.length = true := hodd2.2 (hodd.out.2 e)
                              rw [e] at a1k
                              rw [ho]
                              go_wp2_with fail
                              go_roundw
                              case rel => first
                                | exact ⟨i + 1, by go_num, by omega, Lib.hid ((hI.out.trans oWt.out).trans hK.out)⟩
                                | ((repeat apply Exists.intro); exact ⟨⟨i + 1, by go_num, by omega, Lib.hid ((hI.out.trans oWt.out).trans hK.out)⟩, rfl⟩)
                              case measure => simp [intOf]; omega
    · have hlt2 : ¬ (i : Int) < N := by omega
      go_wp2
      go_ret
      exact ⟨rfl, (on5.out.trans hI.out).below_no⟩
end Go.Proofs.Ytdbidojncboalaa.Ct
