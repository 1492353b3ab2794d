/- MetaTurned's walk. -/
import Derived.Test.YtehnahikfemodaaByt
import Derived.Test.YtehnahikfemodaaAl
import Derived.Test.YtehnahikfemodaaPick
import Derived.Deep.DeepCutAuto
import Derived.Deep.CutRange
import Derived.Deep.RegionHeld
namespace Go.Proofs.Ytehnahikfemodaa.Ct
open Go.ChangeShapes Go.WideShapes Go.RowKit Mm
def tagOf (r : Int) : Nat := if r % 65536 = 274 then 275 else (r % 65536).toNat
theorem tagOf_ok (r : Int) : tagOf r ≠ 274 ∧ tagOf r < 65536 := by
  unfold tagOf
  split <;> omega
abbrev moreS : ByteArray := { data := #[69, 120, 105, 102, 0, 0, 77, 77, 0, 42, 0, 0, 0, 8, 0, 1, 1, 18, 0, 3, 0, 0, 0, 1, 0, 3, 0, 0] }
theorem exif_is (x : ByteArray) : isExif (225, exifP ++ x) = true := by
  unfold isExif isKind
  dsimp only
  rw [begins_app]
  have : (6 : Int) ≤ ((exifP ++ x).size : Int) := by
    rw [ByteArray.size_append]
    have : exifP.size = 6 := rfl
    omega
  rw [decide_eq_true this]
  rfl
theorem turned_two (x : ByteArray) (rest : List Ex) : turnedOf ((225, exifP ++ x) :: rest) = turnsOf x := by
  unfold turnedOf
  rw [List.find?_cons, exif_is]
  dsimp only
  rw [ByteArray.extract_append_eq_right (by rfl) (by rw [ByteArray.size_append])]
theorem find_two (x : ByteArray) (rest : List Ex) (y : Ex) (h : ((225, exifP ++ x) :: rest).find? isExif = some y) : y = (225, exifP ++ x) := by
  rw [List.find?_cons, exif_is] at h
  exact (Option.some.inj h).symm
theorem mo_keep {W : World} {g : Nat} {a b : Value} (h : Blk W g 36 #[a, b]) : W.cell? ⟨g, 0, none⟩ = some a ∧ W.cell? ⟨g, 1, none⟩ = some b := ⟨h.cell 0, h.cell 1⟩
theorem mo_next {W w1 w2 : World} {g : Nat} {a b : Value} (hb : Blk W g 36 #[a, b]) (h1 : Only No W w1) (h2 : Only No w1 w2) : Only No W w2 ∧ w2.cell? ⟨g, 0, none⟩ = some a ∧ w2.cell? ⟨g, 1, none⟩ = some b := ⟨h1.trans h2, mo_keep ((hb.only h1 id).only h2 id)⟩
theorem blk_drew' {W : World} {g : Nat} {t : TypeId} {cs : Array Value} (h : Blk W g t cs) : Blk W.drew g t cs := h
set_option maxRecDepth 100000 in
set_option maxHeartbeats 12800000 in
theorem turned_law (high : Bool) (gap tail : ByteArray) (D : Option Addr) (mp cp : Nat) (ps : List Int) (kind count value : Int) (w : World) (hgap : gap.size ≤ 140737488351232) (htail : tail.size ≤ 140737488351232)
    (hrp : Rds w 1 D mp (ps.map (Value.int .i64))) (hlp : ps.length = mp) (hmp : mp ≤ maxLen) :
    Calls Try.prog 6 #[.bool high, .string gap, .slice D mp cp, .int .i64 kind, .int .i64 count, .int .i64 value, .string tail] w (fun e w' => e = .returned (.bool true) ∧ Below w.heap.size w w') := by
  have HRP := Lib.hid hrp
  have HLP := Lib.hid hlp
  simp only [maxLen] at hmp
  have za : ∀ a b : ByteArray, (a ++ b).size = a.size + b.size := fun a b => ByteArray.size_append
  have zb : ∀ n i, (bsI n high i).size = i := fun n i => bsI_size n high i
  have zz : z2.size = 2 := rfl
  have zx : exifP.size = 6 := rfl
  clear hrp hlp
  go_enter Try.func6, Try.ntmps6
  go_wp2_with fail
  refine (alive21 w).mono ?_
  rintro e w1 ⟨rfl, o1⟩
  have q1 := Lib.hid o1
  clear o1
  by_cases hg : gap.size ≤ 60000
  · have hg' : ¬ (60000 : Int) < gap.size := by omega
    have hgd : decide ((60000 : Int) < (gap.size : Int)) = false := decide_eq_false hg'
    by_cases hr : mp ≤ 4000
    · have hr' : ¬ (4000 : Int) < mp := by omega
      have hrd : decide ((4000 : Int) < (mp : Int)) = false := decide_eq_false hr'
      go_upto_if 36 with (fail)
      go_cut [16] (fun s16 wx => s16 = .string (if high then mmH else iiH) ∧ w1 = wx)
      case first =>
        cases high
        all_goals
          go_wp2_with fail
          go_meet
          exact ⟨rfl, rfl⟩
      case rest =>
        obtain ⟨rfl, rfl⟩ := hcut
        obtain ⟨H, hH⟩ : ∃ H, Hid (H = if high then mmH else iiH) := ⟨_, Lib.hid rfl⟩
        rw [← hH.out]
        have zH : H.size = 2 := by rw [hH.out]; cases high <;> rfl
        go_wp2_with fail
        refine (place_any kind 9 w1 (by omega) (by omega)).mono ?_
        rintro e w2 ⟨rfl, rfl⟩
        obtain ⟨k, hk⟩ : ∃ k : Nat, (k : Int) = kind % (9 + 1) := ⟨(kind % 10).toNat, by omega⟩
        have hk9 : k ≤ 9 := by omega
        rw [← hk]
        replace hk := Lib.hid hk
        go_wp2_with fail
        refine (place_any count 3 w1 (by omega) (by omega)).mono ?_
        rintro e w2 ⟨rfl, rfl⟩
        obtain ⟨c, hc⟩ : ∃ c : Nat, (c : Int) = count % (3 + 1) := ⟨(count % 4).toNat, by omega⟩
        have hc3 : c ≤ 3 := by omega
        rw [← hc]
        replace hc := Lib.hid hc
        go_wp2_with fail
        refine (place_any value 300 w1 (by omega) (by omega)).mono ?_
        rintro e w2 ⟨rfl, rfl⟩
        obtain ⟨v, hv⟩ : ∃ v : Nat, (v : Int) = value % (300 + 1) := ⟨(value % 301).toNat, by omega⟩
        have hv3 : v ≤ 300 := by omega
        rw [← hv]
        replace hv := Lib.hid hv
        have b42 := bytes23 42 2 high
        have bg := bytes23 (8 + gap.size) 4 high
        have bR := bytes23 (mp + 1) 2 high
        rw [show ((42 : Nat) : Int) = 42 from rfl, show ((2 : Nat) : Int) = 2 from rfl] at b42
        rw [show ((8 + gap.size : Nat) : Int) = 8 + (gap.size : Int) from by omega, show ((4 : Nat) : Int) = 4 from rfl] at bg
        rw [show ((mp + 1 : Nat) : Int) = (mp : Int) + 1 from by omega, show ((2 : Nat) : Int) = 2 from rfl] at bR
        replace b42 := Lib.hid b42
        replace bg := Lib.hid bg
        replace bR := Lib.hid bR
        go_wp2_with fail
        refine (b42.out w1 (by omega) (by omega)).mono ?_
        rintro e w2 ⟨rfl, o2⟩
        have q2 := Lib.hid (q1.out.trans o2)
        clear o2
        go_wp2_with fail
        refine (bg.out w2 (by omega) (by omega)).mono ?_
        rintro e w3 ⟨rfl, o3⟩
        have q3 := Lib.hid (q2.out.trans o3)
        clear o3 q2
        go_wp2_with fail
        refine (bR.out w3 (by omega) (by omega)).mono ?_
        rintro e w4 ⟨rfl, o4⟩
        have q4 := Lib.hid (q3.out.trans o4)
        clear o4 q3 b42 bg bR
        obtain ⟨sA, hsA⟩ : ∃ sA, Hid (sA = H ++ bsI 42 high 2 ++ bsI (8 + gap.size) high 4 ++ gap ++ bsI (mp + 1) high 2) := ⟨_, Lib.hid rfl⟩
        have hsH : Hid (sA = hd high gap mp) := Lib.hid (by rw [hsA.out]; unfold hd; rw [← hH.out]; simp only [ByteArray.append_assoc])
        have hsS : sA.size ≤ 60100 := by rw [hsH.out, hd_size]; omega
        go_upto_region 12 with (fail)
        rw [← hsA.out]
        have TSl : Hid ((ps.map tagOf).length = mp) := Lib.hid (by rw [List.length_map, HLP.out])
        have TSo : Hid (∀ t ∈ ps.map tagOf, t ≠ 274 ∧ t < 65536) := Lib.hid (fun t ht => by obtain ⟨r, _, rfl⟩ := List.mem_map.1 ht; exact tagOf_ok r)
        go_loopw [16, 20, 21] (fun v16 v20 _ wr => ∃ (i : Nat) (sB : ByteArray), v20 = .int .i64 i ∧ i ≤ mp ∧ v16 = .string sB ∧ sB.size ≤ 60100 + 12 * 4000 ∧ Hid (sB = sA ++ rowsB high ((ps.map tagOf).take i) ∧ Only No w4 wr)) (fun _ v20 _ _ => mp - (intOf v20).toNat)
        case atStart => exact ⟨0, sA, rfl, by omega, rfl, by omega, Lib.hid ⟨by simp [rowsB], Only.refl _ _⟩⟩
        case round =>
          obtain ⟨i, sB, rfl, hi, rfl, hsB, hI⟩ := hrel
          by_cases hlt : i < mp
          · as_aux_lemma =>
              have hlt' : (i : Int) < mp := by omega
              obtain ⟨adp, hadp, _, hcp⟩ := (HRP.out.no (q4.out.trans hI.out.2)).2 (by omega)
              subst hadp
              obtain ⟨z, hzz⟩ : ∃ z, Hid (z = ps[i]'(by rw [HLP.out]; exact hlt)) := ⟨_, Lib.hid rfl⟩
              have pz : wr.cell? (adp.add i) = some (.int .i64 z) := hcp i _ (by rw [List.getElem?_map, List.getElem?_eq_getElem (by rw [HLP.out]; exact hlt), hzz.out]; rfl)
              clear hcp
              have htag : Hid ((ps.map tagOf).take (i + 1) = (ps.map tagOf).take i ++ [tagOf z]) := Lib.hid (by rw [List.take_succ_eq_append_getElem (by rw [TSl.out]; exact hlt), List.getElem_map, hzz.out])
              go_wp2_with fail
              refine (place_any z 65535 wr (by omega) (by omega)).mono ?_
              rintro e w5 ⟨rfl, rfl⟩
              rw [show (65535 : Int) + 1 = 65536 from rfl]
              obtain ⟨t, ht⟩ : ∃ t : Int, Hid (t = z % 65536) := ⟨_, Lib.hid rfl⟩
              have htb : 0 ≤ t ∧ t ≤ 65535 := by rw [ht.out]; omega
              rw [← ht.out]
              go_upto_if 73 with (fail)
              go_cut [21] from 61 to 88 (fun s21 wx => s21 = .int .i64 (tagOf z) ∧ wr = wx)
              case first =>
                by_cases h274 : t = 274
                · have hT : Hid ((tagOf z : Int) = 275) := Lib.hid (by unfold tagOf; rw [← ht.out, if_pos h274]; rfl)
                  subst h274
                  go_wp2_with fail
                  go_meet
                  first | exact ⟨by rw [hT.out], rfl⟩ | exact ⟨⟨by rw [hT.out], rfl⟩, rfl⟩ | ((repeat apply Exists.intro); exact ⟨⟨by rw [hT.out], rfl⟩, rfl⟩)
                · have hT : Hid ((tagOf z : Int) = t) := Lib.hid (by unfold tagOf; rw [← ht.out, if_neg h274]; omega)
                  have hne : (t == 274) = false := beq_eq_false_iff_ne.2 h274
                  replace h274 := Lib.hid h274
                  go_wp2_with fail
                  go_meet
                  first | exact ⟨by rw [hT.out], rfl⟩ | exact ⟨⟨by rw [hT.out], rfl⟩, rfl⟩ | ((repeat apply Exists.intro); exact ⟨⟨by rw [hT.out], rfl⟩, rfl⟩)
              case rest =>
                obtain ⟨rfl, rfl⟩ := hcut
                have htl := (tagOf_ok z).2
                obtain ⟨tg, htg⟩ : ∃ tg, Hid (tg = tagOf z) := ⟨_, Lib.hid rfl⟩
                rw [← htg.out] at htl ⊢
                have b1 := bytes23 tg 2 high
                have b2 := bytes23 3 2 high
                have b3 := bytes23 1 4 high
                have b4 := bytes23 5 2 high
                rw [show ((2 : Nat) : Int) = 2 from rfl] at b1
                rw [show ((3 : Nat) : Int) = 3 from rfl, show ((2 : Nat) : Int) = 2 from rfl] at b2
                rw [show ((1 : Nat) : Int) = 1 from rfl, show ((4 : Nat) : Int) = 4 from rfl] at b3
                rw [show ((5 : Nat) : Int) = 5 from rfl, show ((2 : Nat) : Int) = 2 from rfl] at b4
                replace b1 := Lib.hid b1
                replace b2 := Lib.hid b2
                replace b3 := Lib.hid b3
                replace b4 := Lib.hid b4
                have hsz : Hid ((sB ++ bsI tg high 2 ++ bsI 3 high 2 ++ bsI 1 high 4 ++ bsI 5 high 2 ++ z2).size ≤ 60100 + 12 * 4000 ∧ sB ++ bsI tg high 2 ++ bsI 3 high 2 ++ bsI 1 high 4 ++ bsI 5 high 2 ++ z2 = sA ++ rowsB high ((ps.map tagOf).take (i + 1))) := Lib.hid (by
                  have e : sB ++ bsI tg high 2 ++ bsI 3 high 2 ++ bsI 1 high 4 ++ bsI 5 high 2 ++ z2 = sA ++ rowsB high ((ps.map tagOf).take (i + 1)) := by
                    rw [htag.out, rowsB_snoc, hI.out.1, htg.out]
                    simp only [row, ByteArray.append_assoc]
                  refine ⟨?_, e⟩
                  rw [e, ByteArray.size_append, rowsB_size, List.length_take]
                  omega)
                go_wp2_with fail
                refine (b1.out wr (by omega) (by omega)).mono ?_
                rintro e w5 ⟨rfl, o5⟩
                have q5 := Lib.hid (hI.out.2.trans o5)
                clear o5
                go_wp2_with fail
                refine (b2.out w5 (by omega) (by omega)).mono ?_
                rintro e w6 ⟨rfl, o6⟩
                have q6 := Lib.hid (q5.out.trans o6)
                clear o6 q5
                go_wp2_with fail
                refine (b3.out w6 (by omega) (by omega)).mono ?_
                rintro e w7 ⟨rfl, o7⟩
                have q7 := Lib.hid (q6.out.trans o7)
                clear o7 q6
                go_wp2_with fail
                refine (b4.out w7 (by omega) (by omega)).mono ?_
                rintro e w8 ⟨rfl, o8⟩
                have q8 := Lib.hid (q7.out.trans o8)
                clear o8 q7
                go_wp2_with fail
                go_roundw
                case rel => first | exact ⟨i + 1, _, by go_num, by omega, rfl, hsz.out.1, Lib.hid ⟨hsz.out.2, q8.out⟩⟩ | ((repeat apply Exists.intro); exact ⟨⟨show _ = Value.int .i64 ((i + 1 : Nat) : Int) from by go_num, by omega, rfl, hsz.out.1, Lib.hid ⟨hsz.out.2, q8.out⟩⟩, rfl⟩)
                case measure => simp [intOf]; omega
          · have hlt' : ¬ (i : Int) < mp := by omega
            have hsF : Hid (sB = hd high gap mp ++ rowsB high (ps.map tagOf)) := Lib.hid (by rw [hI.out.1, hsH.out, List.take_of_length_le (by rw [TSl.out]; omega)])
            have q5 : Hid (Only No w wr) := Lib.hid (q4.out.trans hI.out.2)
            obtain ⟨w5, rfl⟩ : ∃ w5 : World, w5 = wr := ⟨_, rfl⟩
            clear hI
            have b1 := bytes23 274 2 high
            have b2 := bytes23 k 2 high
            have b3 := bytes23 c 4 high
            have b4 := bytes23 v 2 high
            rw [show ((274 : Nat) : Int) = 274 from rfl, show ((2 : Nat) : Int) = 2 from rfl] at b1
            rw [show ((2 : Nat) : Int) = 2 from rfl] at b2
            rw [show ((4 : Nat) : Int) = 4 from rfl] at b3
            rw [show ((2 : Nat) : Int) = 2 from rfl] at b4
            replace b1 := Lib.hid b1
            replace b2 := Lib.hid b2
            replace b3 := Lib.hid b3
            replace b4 := Lib.hid b4
            go_wp2_with fail
            refine (b1.out w5 (by omega) (by omega)).mono ?_
            rintro e w6 ⟨rfl, o6⟩
            have q6 := Lib.hid (q5.out.trans o6)
            clear o6 q5
            go_wp2_with fail
            refine (b2.out w6 (by omega) (by omega)).mono ?_
            rintro e w7 ⟨rfl, o7⟩
            have q7 := Lib.hid (q6.out.trans o7)
            clear o7 q6
            go_wp2_with fail
            refine (b3.out w7 (by omega) (by omega)).mono ?_
            rintro e w8 ⟨rfl, o8⟩
            have q8 := Lib.hid (q7.out.trans o8)
            clear o8 q7
            go_wp2_with fail
            refine (b4.out w8 (by omega) (by omega)).mono ?_
            rintro e w9 ⟨rfl, o9⟩
            have q9 := Lib.hid (q8.out.trans o9)
            clear o9 q8 b1 b2 b3 b4
            obtain ⟨S, hS⟩ : ∃ S, Hid (S = sB ++ bsI 274 high 2 ++ bsI k high 2 ++ bsI c high 4 ++ bsI v high 2 ++ z2) := ⟨_, Lib.hid rfl⟩
            have hSf : Hid (S = hd high gap mp ++ (rowsB high (ps.map tagOf) ++ lrow high k c v)) := Lib.hid (by rw [hS.out, hsF.out]; simp only [lrow, ByteArray.append_assoc])
            have hSz : S.size = sB.size + 12 := by rw [hS.out]; simp only [ByteArray.size_append, bsI_size]; rw [zz]
            go_upto_region 19 with (fail)
            rw [← hS.out]
            go_upto_region 20 with (fail)
            obtain ⟨wx, hwx⟩ : ∃ wx, wx = w9.alloc (.cells #[.int .u8 225, .string moreS] 36) := ⟨_, rfl⟩
            obtain ⟨gm, hgm⟩ : ∃ gm, gm = w9.heap.size := ⟨_, rfl⟩
            rw [← hwx, ← hgm]
            have bxm : Hid (Blk wx gm 36 #[.int .u8 225, .string moreS]) := Lib.hid (by rw [hwx, hgm]; exact Blk.new _ _ _)
            have qx : Hid (Only No w wx) := Lib.hid (by rw [hwx]; exact q9.out.alloc _)
            clear hwx hgm q9
            have m0 : wx.cell? ⟨gm, 0, none⟩ = some (.int .u8 225) := bxm.out.cell 0
            have m1 : wx.cell? ⟨gm, 1, none⟩ = some (.string moreS) := bxm.out.cell 1
            have hT1 : Hid (turnedOf [(225, exifP ++ S ++ tail), (225, moreS)] = if k = 3 ∧ c = 1 ∧ 1 ≤ v ∧ v ≤ 8 then (v : Int) else 0) := Lib.hid (by
              rw [ByteArray.append_assoc, turned_two, hSf.out]
              simp only [ByteArray.append_assoc]
              have := turns_full high gap (ps.map tagOf) k c v tail hg (by rw [TSl.out]; exact hr) TSo.out (by omega) (by omega) (by omega)
              rw [TSl.out] at this
              exact this)
            have hE1 : Hid (∀ x, [((225 : Int), exifP ++ S ++ tail), (225, moreS)].find? isExif = some x → x.2.size ≤ 9223372036854775807) := Lib.hid (fun x hx => by
              rw [ByteArray.append_assoc] at hx
              have := find_two _ _ _ hx
              rw [this]
              show (exifP ++ (S ++ tail)).size ≤ _
              rw [ByteArray.size_append, ByteArray.size_append, zx]
              omega)
            go_wp2_with fail
            have hR1 : Hid (Rds (wx.alloc (.cells #[.int .u8 225, .string (exifP ++ S ++ tail), .int .u8 225, .string moreS] 36)) 2 (some ⟨wx.heap.size, 0, none⟩) 2 (exC [(225, exifP ++ S ++ tail), (225, moreS)])) := Lib.hid (Rds.fresh (Blk.new _ _ _) rfl)
            refine (turned24s _ 2 2 [(225, exifP ++ S ++ tail), (225, moreS)] _ hR1.out rfl (by omega) hE1.out).mono ?_
            rintro e wy ⟨rfl, oy⟩
            rw [hT1.out]
            have bxy := Lib.hid ((bxm.out.alloc (.cells #[.int .u8 225, .string (exifP ++ S ++ tail), .int .u8 225, .string moreS] 36)).only oy id)
            have qy := Lib.hid ((qx.out.alloc (.cells #[.int .u8 225, .string (exifP ++ S ++ tail), .int .u8 225, .string moreS] 36)).trans oy)
            clear oy m0 m1 hR1
            obtain ⟨V, hV⟩ : ∃ V : Int, Hid (V = if k = 3 ∧ c = 1 ∧ 1 ≤ v ∧ v ≤ 8 then (v : Int) else 0) := ⟨_, Lib.hid rfl⟩
            rw [← hV.out]
            have n0 : wy.cell? ⟨gm, 0, none⟩ = some (.int .u8 225) := bxy.out.cell 0
            have n1 : wy.cell? ⟨gm, 1, none⟩ = some (.string moreS) := bxy.out.cell 1
            have hS1 : (1 : Int) ≤ S.size := by omega
            obtain ⟨Z, hZ⟩ : ∃ Z, Hid (Z = S.extract 0 (S.size - 1)) := ⟨_, Lib.hid rfl⟩
            have hZs : Z.size ≤ 200000 := by rw [hZ.out, ByteArray.size_extract]; omega
            have hsl : ∀ W, (Instr.slice 9 (.string S) none (some (.int .i64 ((S.size : Int) - 1))) none).run Try.prog W = .ok (.string Z) W := fun W => by
              rw [run_slice_string_to_if W 9 S .i64 ((S.size : Int) - 1) Try.underlying9, if_pos ⟨by omega, by omega⟩, hZ.out, show ((S.size : Int) - 1).toNat = S.size - 1 from by omega]
            have hT2 : Hid (turnedOf [(225, exifP ++ Z), (225, moreS)] = 0) := Lib.hid (by
              rw [turned_two, hZ.out, hSf.out]
              have hz : (hd high gap mp ++ (rowsB high (ps.map tagOf) ++ lrow high k c v)).size = (hd high gap mp ++ rowsB high (ps.map tagOf)).size + 12 := by
                simp only [ByteArray.size_append, lrow_size]; omega
              rw [← ByteArray.append_assoc, ByteArray.size_append, lrow_size, ByteArray.extract_append, show (hd high gap mp ++ rowsB high (ps.map tagOf)).size + 12 - 1 = (hd high gap mp ++ rowsB high (ps.map tagOf)).size + 11 from by omega]
              have e1 : (hd high gap mp ++ rowsB high (ps.map tagOf)).extract 0 ((hd high gap mp ++ rowsB high (ps.map tagOf)).size + 11) = hd high gap mp ++ rowsB high (ps.map tagOf) := by
                rw [show (hd high gap mp ++ rowsB high (ps.map tagOf)).size + 11 = (hd high gap mp ++ rowsB high (ps.map tagOf)).size + 11 from rfl]
                apply ByteArray.ext
                rw [ByteArray.data_extract]
                apply Array.ext'
                rw [Array.toList_extract]
                have : (hd high gap mp ++ rowsB high (ps.map tagOf)).data.toList.length = (hd high gap mp ++ rowsB high (ps.map tagOf)).size := by rw [Array.length_toList]; rfl
                rw [List.extract_eq_take_drop, List.drop_zero, List.take_of_length_le (by omega)]
              rw [e1, ByteArray.append_assoc]
              have := turns_less high gap (ps.map tagOf) ((lrow high k c v).extract (0 - (hd high gap mp ++ rowsB high (ps.map tagOf)).size) ((hd high gap mp ++ rowsB high (ps.map tagOf)).size + 11 - (hd high gap mp ++ rowsB high (ps.map tagOf)).size)) (by rw [ByteArray.size_extract, lrow_size]; omega) hg (by rw [TSl.out]; exact hr) TSo.out
              rw [TSl.out] at this
              exact this)
            have hE2 : Hid (∀ x, [((225 : Int), exifP ++ Z), (225, moreS)].find? isExif = some x → x.2.size ≤ 9223372036854775807) := Lib.hid (fun x hx => by
              have := find_two _ _ _ hx
              rw [this]
              show (exifP ++ Z).size ≤ _
              rw [ByteArray.size_append, zx]
              omega)
            have hSlo : 12 ≤ S.size := by omega
            have hShi : S.size ≤ 200000 := by omega
            replace hSz := Lib.hid hSz
            go_upto_region 21 with (fail)
            go_cut [24] (fun s24 wz => s24 = .int .i8 0 ∧ Only No w wz)
            case first =>
              as_aux_lemma =>
                have hwr : IntKind.i64.wrap ((S.size : Int) - 1) = (S.size : Int) - 1 := by rw [IntKind.wrap_i64]; omega
                have h0l : (0 : Int) ≤ (S.size : Int) - 1 := by omega
                have hll : (S.size : Int) - 1 ≤ S.size := by omega
                go_region_held (fun w' => Only No wy w' ∧ w'.cell? ⟨gm, 0, none⟩ = some (.int .u8 225) ∧ w'.cell? ⟨gm, 1, none⟩ = some (.string moreS))
                  (first | exact mo_next bxy.out (Only.refl _ _) ((Only.refl _ _).drew) | exact mo_next bxy.out (Only.refl _ _) (((Only.refl _ _).alloc _).drew) | exact mo_next bxy.out (Only.refl _ _) ((Only.refl _ _).alloc _) | exact mo_next bxy.out (((Only.refl _ _).alloc _).drew) (by assumption) | go_keep)
                  (first | (go_at_call 24; refine (turned24s _ 2 2 [(225, exifP ++ Z), (225, moreS)] _ (Rds.fresh (blk_drew' (Blk.new _ _ _)) rfl) rfl (by omega) hE2.out).mono ?_; rintro e wz ⟨rfl, oz⟩))
                rw [hT2.out]
                go_split_ands
                go_wp2_with fail
                go_meet
                exact ⟨rfl, qy.out.trans (by assumption)⟩
            case rest =>
              obtain ⟨rfl, oz⟩ := hcut
              replace oz := Lib.hid oz
              have t1 : ((k : Int) == 3) = decide (k = 3) := by rw [Bool.eq_iff_iff]; simp; omega
              have t2 : ((c : Int) == 1) = decide (c = 1) := by rw [Bool.eq_iff_iff]; simp; omega
              by_cases b1 : k = 3
              · by_cases b2 : c = 1
                · by_cases b3 : 1 ≤ v
                  · by_cases b4 : v ≤ 8
                    · have hVv : V = (v : Int) := by rw [hV.out, if_pos ⟨b1, b2, b3, b4⟩]
                      have hw8 := wrap8i v b4
                      have hd3 : decide ((1 : Int) ≤ (v : Int)) = true := decide_eq_true (by omega)
                      have hd4 : decide ((v : Int) ≤ 8) = true := decide_eq_true (by omega)
                      rw [b1, b2, hVv]
                      clear t1 t2 b1 b2 hVv
                      go_wp2_with fail
                      go_ret
                      exact ⟨rfl, oz.out.below_no⟩
                    · have hVv : V = 0 := by rw [hV.out, if_neg (fun h => b4 h.2.2.2)]
                      have hd4 : decide ((v : Int) ≤ 8) = false := decide_eq_false (by omega)
                      have hd3 : decide ((1 : Int) ≤ (v : Int)) = true := decide_eq_true (by omega)
                      rw [b1, b2, hVv]
                      clear t1 t2 b1 b2 hVv
                      go_wp2_with fail
                      go_ret
                      exact ⟨rfl, oz.out.below_no⟩
                  · have hVv : V = 0 := by rw [hV.out, if_neg (fun h => b3 h.2.2.1)]
                    have hd3 : decide ((1 : Int) ≤ (v : Int)) = false := decide_eq_false (by omega)
                    rw [b1, b2, hVv]
                    clear t1 t2 b1 b2 hVv
                    go_wp2_with fail
                    go_ret
                    exact ⟨rfl, oz.out.below_no⟩
                · have hVv : V = 0 := by rw [hV.out, if_neg (fun h => b2 h.2.1)]
                  have hd2 : ((c : Int) == 1) = false := by rw [t2]; exact decide_eq_false b2
                  rw [b1, hVv]
                  replace b2 := Lib.hid b2
                  clear t1 t2 b1 hVv
                  go_wp2_with fail
                  go_ret
                  exact ⟨rfl, oz.out.below_no⟩
              · have hVv : V = 0 := by rw [hV.out, if_neg (fun h => b1 h.1)]
                have hd1 : ((k : Int) == 3) = false := by rw [t1]; exact decide_eq_false b1
                rw [hVv]
                replace b1 := Lib.hid b1
                clear t1 t2 hVv
                go_wp2_with fail
                go_ret
                exact ⟨rfl, oz.out.below_no⟩
    · have hr' : (4000 : Int) < mp := by omega
      have hrd : decide ((4000 : Int) < (mp : Int)) = true := decide_eq_true hr'
      go_wp2_with fail
      go_ret
      exact ⟨rfl, q1.out.below_no⟩
  · have hg' : (60000 : Int) < gap.size := by omega
    have hgd : decide ((60000 : Int) < (gap.size : Int)) = true := decide_eq_true hg'
    go_wp2_with fail
    go_ret
    exact ⟨rfl, q1.out.below_no⟩
end Go.Proofs.Ytehnahikfemodaa.Ct
