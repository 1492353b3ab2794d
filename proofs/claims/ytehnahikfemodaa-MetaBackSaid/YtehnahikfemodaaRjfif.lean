/- What the first JFIF segment says, as the reference reads it. -/
import Derived.Test.YtehnahikfemodaaRk
import Derived.Test.YtehnahikfemodaaJfifW
namespace Go.Proofs.Ytehnahikfemodaa.Ct
open Go.ChangeShapes Go.WideShapes Go.RowKit Mm
theorem mul_word (a b : Nat) (ha : a ≤ 255) (hb : b ≤ 255) : wrap64 (wrap64 (256 * wrap64 (a : Int)) + wrap64 (b : Int)) = 256 * a + b := by
  unfold wrap64; omega
set_option maxRecDepth 100000 in
set_option maxHeartbeats 3200000 in
theorem rjfif_read (A : Option Addr) (m c : Nat) (l : List Ex) (w : World) (hr : Rds w 2 A m (exC l)) (hl : l.length = m) (hm : m * 24 ≤ 140737488351232) :
    Calls Try.prog 31 #[.slice A m c] w fun e w' => e = .returned (.tuple #[(jfifOf l).1, .bool (jfifOf l).2]) ∧ Only No w w' := by
  have HR := Lib.hid hr
  have HL := Lib.hid hl
  clear hr hl
  go_enter Try.func31, Try.ntmps31
  go_wp2_with fail
  obtain ⟨W, hW⟩ : ∃ W, W = w.alloc (.cells #[.int .u8 0, .int .u8 0, .int .u8 0, .int .i64 0, .int .i64 0] 30) := ⟨_, rfl⟩
  rw [← hW]
  obtain ⟨g, hg⟩ : ∃ g, g = w.heap.size := ⟨_, rfl⟩
  have hb : Blk W g 30 #[.int .u8 0, .int .u8 0, .int .u8 0, .int .i64 0, .int .i64 0] := by rw [hW, hg]; exact Blk.new _ _ _
  have oW : Hid (Only No w W) := Lib.hid (by rw [hW]; exact (Only.refl _ _).alloc _)
  rw [← hg]
  have hgw : Hid (w.heap.size ≤ g) := Lib.hid (by omega)
  clear hW hg
  replace hb := Lib.hid hb
  go_loopw [4] (fun v4 wr => ∃ k : Nat, v4 = .int .i64 k ∧ k ≤ m ∧ Hid ((l.take k).find? isJfif = none ∧ Only No W wr)) (fun v4 _ => m - (intOf v4).toNat)
  case atStart => exact ⟨0, rfl, by omega, Lib.hid ⟨by simp, Only.refl _ _⟩⟩
  case round =>
    obtain ⟨k, rfl, hk, hI⟩ := hrel
    by_cases hlt : k < m
    · have hlt' : (k : Int) < m := by omega
      obtain ⟨ad, rfl, p0, p1, pb⟩ := ex_cells (HR.out.no (oW.out.trans hI.out.2)) HL.out k hlt
      obtain ⟨u, hu⟩ : ∃ u, Hid (u = l[k]'(by rw [HL.out]; exact hlt)) := ⟨_, Lib.hid rfl⟩
      rw [← hu.out] at p0 p1
      have hfind : Hid ((l.take (k + 1)).find? isJfif = if isJfif u then some u else none) := Lib.hid (by
        rw [List.take_succ_eq_append_getElem (by rw [HL.out]; exact hlt), List.find?_append, hI.out.1, ← hu.out]
        simp only [List.find?_cons, List.find?_nil, Option.none_or]
        cases isJfif u <;> rfl)
      go_wp2_with fail
      refine (jfifs42 u _).mono ?_
      rintro e w1 ⟨rfl, q1⟩
      have o1 : Hid (Only No W w1) := Lib.hid (hI.out.2.trans q1)
      obtain ⟨ad2, e2, r0, r1, rb⟩ := ex_cells (HR.out.no (oW.out.trans o1.out)) HL.out k hlt
      obtain rfl := Option.some.inj e2
      rw [← hu.out] at r0 r1
      clear q1 e2
      cases hqu : isJfif u
      · rw [hqu] at hfind
        have hqk : isKind 224 jfifH' 14 u = false := hqu
        rw [hqk]
        go_wp2_with fail
        go_roundw
        case rel => exact ⟨k + 1, by go_num, by omega, Lib.hid ⟨by simpa using hfind.out, o1.out⟩⟩
        case measure => simp [intOf]; omega
      · rw [hqu] at hfind
        have hqk : isKind 224 jfifH' 14 u = true := hqu
        rw [hqk]
        have hall : l.find? isJfif = some u := by
          rw [← List.take_append_drop (k + 1) l, List.find?_append, hfind.out]
          simp
        have hlen : (14 : Int) ≤ u.2.size := by
          unfold isJfif isKind at hqu
          simp only [Bool.and_eq_true, decide_eq_true_eq] at hqu
          exact hqu.2
        have h5 : (5 : Int) < u.2.size := by omega
        have h6 : (6 : Int) < u.2.size := by omega
        have h7 : (7 : Int) < u.2.size := by omega
        have h8 : (8 : Int) < u.2.size := by omega
        have h9 : (9 : Int) < u.2.size := by omega
        have h10 : (10 : Int) < u.2.size := by omega
        have h11 : (11 : Int) < u.2.size := by omega
        have w1' := Lib.hid (mul_word u.2[8].toNat u.2[9].toNat (by have := u.2[8].toNat_lt; omega) (by have := u.2[9].toNat_lt; omega))
        have w2' := Lib.hid (mul_word u.2[10].toNat u.2[11].toNat (by have := u.2[10].toNat_lt; omega) (by have := u.2[11].toNat_lt; omega))
        have hb3 := hb.out.only o1.out id
        have c0 : w1.cell? ⟨g, 0, none⟩ = some (.int .u8 0) := hb3.cell 0
        have c1 : w1.cell? ⟨g, 1, none⟩ = some (.int .u8 0) := hb3.cell 1
        have c2 : w1.cell? ⟨g, 2, none⟩ = some (.int .u8 0) := hb3.cell 2
        have c3 : w1.cell? ⟨g, 3, none⟩ = some (.int .i64 0) := hb3.cell 3
        have c4 : w1.cell? ⟨g, 4, none⟩ = some (.int .i64 0) := hb3.cell 4
        have f0 := hb3.frozen 0
        have f1 := hb3.frozen 1
        have f2 := hb3.frozen 2
        have f3 := hb3.frozen 3
        have f4 := hb3.frozen 4
        have o13 : Hid (Only No w w1) := Lib.hid (oW.out.trans o1.out)
        replace hb3 := Lib.hid hb3
        replace hall := Lib.hid hall
        replace hqu := Lib.hid hqu
        replace hqk := Lib.hid hqk
        go_upto_region 7 with (fail)
        go_cut [3] from 7 to 46 (fun s3 wx => s3 = .bool true ∧ Blk wx g 30 #[.int .u8 (byteAt u.2 5), .int .u8 (byteAt u.2 6), .int .u8 (byteAt u.2 7), .int .i64 (256 * byteAt u.2 8 + byteAt u.2 9), .int .i64 (256 * byteAt u.2 10 + byteAt u.2 11)] ∧ Only No w wx)
        case first =>
          go_region
          go_wp2_with fail
          go_meet
          refine ⟨rfl, ?_, ?_⟩
          · rw [byteAt_eq u.2 5 (by omega), byteAt_eq u.2 6 (by omega), byteAt_eq u.2 7 (by omega), byteAt_eq u.2 8 (by omega), byteAt_eq u.2 9 (by omega), byteAt_eq u.2 10 (by omega), byteAt_eq u.2 11 (by omega), ← w1'.out, ← w2'.out]
            exact ((((hb3.out.set 0 _).set 1 _).set 2 _).set 3 _).set 4 _
          · first
              | exact ((((o13.out.setCell (p := ⟨g, 0, none⟩) (.inr hgw.out) _).setCell (p := ⟨g, 1, none⟩) (.inr hgw.out) _).setCell (p := ⟨g, 2, none⟩) (.inr hgw.out) _).setCell (p := ⟨g, 3, none⟩) (.inr hgw.out) _).setCell (p := ⟨g, 4, none⟩) (.inr hgw.out) _ |>.drew
              | exact ((((o13.out.drew.setCell (p := ⟨g, 0, none⟩) (.inr hgw.out) _).setCell (p := ⟨g, 1, none⟩) (.inr hgw.out) _).setCell (p := ⟨g, 2, none⟩) (.inr hgw.out) _).setCell (p := ⟨g, 3, none⟩) (.inr hgw.out) _).setCell (p := ⟨g, 4, none⟩) (.inr hgw.out) _
        case rest =>
          obtain ⟨rfl, hbf, hof⟩ := hcut
          have k0 := hbf.cell 0
          have k1 := hbf.cell 1
          have k2 := hbf.cell 2
          have k3 := hbf.cell 3
          have k4 := hbf.cell 4
          simp only [List.getElem?_toArray, List.getElem?_cons_zero, List.getElem?_cons_succ] at k0 k1 k2 k3 k4
          clear c0 c1 c2 c3 c4 f0 f1 f2 f3 f4
          replace hbf := Lib.hid hbf
          replace hof := Lib.hid hof
          go_wp2_with fail
          (try simp only [Exit.inBlock, Exit.then])
          refine bodyPost_ret (v := .tuple #[dnV (byteAt u.2 5) (byteAt u.2 6) (byteAt u.2 7) (256 * byteAt u.2 8 + byteAt u.2 9) (256 * byteAt u.2 10 + byteAt u.2 11), .bool true]) ?_ rfl ⟨by simp [jfifOf, hall.out], hof.out⟩
          rw [results_cell_tmp rfl]
          go_simp
    · have hlt' : ¬ (k : Int) < m := by omega
      have hall : l.find? isJfif = none := by
        have := hI.out.1
        rw [List.take_of_length_le (by rw [HL.out]; omega)] at this
        exact this
      have hb3 := hb.out.only hI.out.2 id
      have c0 : wr.cell? ⟨g, 0, none⟩ = some (.int .u8 0) := hb3.cell 0
      have c1 : wr.cell? ⟨g, 1, none⟩ = some (.int .u8 0) := hb3.cell 1
      have c2 : wr.cell? ⟨g, 2, none⟩ = some (.int .u8 0) := hb3.cell 2
      have c3 : wr.cell? ⟨g, 3, none⟩ = some (.int .i64 0) := hb3.cell 3
      have c4 : wr.cell? ⟨g, 4, none⟩ = some (.int .i64 0) := hb3.cell 4
      have f0 := hb3.frozen 0
      have f1 := hb3.frozen 1
      have f2 := hb3.frozen 2
      have f3 := hb3.frozen 3
      have f4 := hb3.frozen 4
      have o13 : Hid (Only No w wr) := Lib.hid (oW.out.trans hI.out.2)
      replace hb3 := Lib.hid hb3
      replace hall := Lib.hid hall
      go_wp2_with fail
      (try simp only [Exit.inBlock, Exit.then])
      refine bodyPost_ret (v := .tuple #[dnV 0 0 0 0 0, .bool false]) ?_ rfl ⟨by simp [jfifOf, hall.out], ?_⟩
      · rw [results_cell_tmp rfl]
        go_simp
      · exact ((((o13.out.setCell (p := ⟨g, 0, none⟩) (.inr hgw.out) _).setCell (p := ⟨g, 1, none⟩) (.inr hgw.out) _).setCell (p := ⟨g, 2, none⟩) (.inr hgw.out) _).setCell (p := ⟨g, 3, none⟩) (.inr hgw.out) _).setCell (p := ⟨g, 4, none⟩) (.inr hgw.out) _
end Go.Proofs.Ytehnahikfemodaa.Ct
