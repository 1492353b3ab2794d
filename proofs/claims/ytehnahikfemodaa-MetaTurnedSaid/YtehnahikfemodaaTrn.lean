/- How an Exif segment turns the image: the program's. -/
import Derived.Test.YtehnahikfemodaaTd
import Derived.Laws.EntriesVeiled
namespace Go.Proofs.Ytehnahikfemodaa.Ct
open Go.ChangeShapes Go.WideShapes Go.RowKit Mm
abbrev iiH : ByteArray := { data := #[73, 73] }
abbrev mmH : ByteArray := { data := #[77, 77] }
abbrev exifP : ByteArray := { data := #[69, 120, 105, 102, 0, 0] }
/-- n rows from a on -/
def rowsGo (t : ByteArray) (high : Bool) : Nat → Nat → Int
  | 0, _ => 0
  | n + 1, a => if a + 12 ≤ t.size then (if numN t a 2 high = 274 then rowTurn t high a else rowsGo t high n (a + 12)) else 0
def dirGo (t : ByteArray) (high : Bool) : Int :=
  if 8 ≤ t.size ∧ numN t 2 2 high = 42 then (if numN t 4 4 high + 2 ≤ t.size then rowsGo t high (numN t (numN t 4 4 high) 2 high) (numN t 4 4 high + 2) else 0) else 0
/-- how a directory's text turns -/
def turnsOf (t : ByteArray) : Int := if begins t mmH = true then dirGo t true else if begins t iiH = true then dirGo t false else 0
def isExif (x : Ex) : Bool := isKind 225 exifP 6 x
def turnedOf (l : List Ex) : Int := match l.find? isExif with | some x => turnsOf (x.2.extract 6 x.2.size) | none => 0
theorem begins2 (t : ByteArray) (h : 2 ≤ t.size) (a b : UInt8) : begins t { data := #[a, b] } = ((t.extract 0 2).toList == [a, b]) := by
  unfold begins
  have e : ({ data := #[a, b] } : ByteArray).size = 2 := rfl
  have e2 : ({ data := #[a, b] } : ByteArray).toList = [a, b] := by simp [ByteArray.toList_eq]
  rw [e, e2, decide_eq_true h]
  simp
set_option maxRecDepth 100000 in
set_option maxHeartbeats 6400000 in
theorem turned24s (A : Option Addr) (m c : Nat) (l : List Ex) (w : World) (hr : Rds w 2 A m (exC l)) (hl : l.length = m) (hm : m * 24 ≤ 140737488355328) (hz : ∀ x, l.find? isExif = some x → x.2.size ≤ 9223372036854775807) :
    Calls Try.prog 24 #[.slice A m c] w fun e w' => e = .returned (.int .i8 (turnedOf l)) ∧ Only No w w' := by
  have hmf : ∀ (fn : Fn) (first cap : Array Value) (w : World), (Instr.makeFunc fn first cap).run Try.prog w = .ok (.func fn first cap) w := fun _ _ _ _ => rfl
  have HR := Lib.hid hr
  have HL := Lib.hid hl
  have HZ := Lib.hid hz
  clear hr hl hz
  go_enter Try.func24, Try.ntmps24
  go_wp2_with fail
  refine (kind_any 225 exifP 6 w).mono ?_
  rintro e w1 ⟨f, rfl, hk, o1⟩
  have hf := hk.f
  subst hf
  replace hk := Lib.hid hk
  replace o1 := Lib.hid o1
  go_wp2_with fail
  refine (first47_any isExif (P w.heap.size) (P (w.heap.size + 1)) (P (w.heap.size + 2)) A m c l _ (HR.out.no o1.out) HL.out hm (fun x _ w' ho => kind1_any 225 exifP 6 _ _ _ x _ w' (hk.out.no ho))).mono ?_
  rintro e w3 ⟨rfl, o3⟩
  have o13 : Hid (Only No w w3) := Lib.hid (o1.out.trans o3)
  clear o3 hk o1
  cases hfd : l.find? isExif with
  | none =>
    have e1 : firstB isExif l = false := by simp [firstB, hfd]
    rw [e1]
    go_wp2_with fail
    go_ret
    exact ⟨by simp [turnedOf, hfd], o13.out⟩
  | some x =>
    have e1 : firstB isExif l = true := by simp [firstB, hfd]
    have e3 : firstS isExif l = x.2 := by simp [firstS, hfd]
    rw [e1, e3]
    obtain ⟨t, ht⟩ : ∃ t, Hid (t = x.2.extract 6 x.2.size) := ⟨_, Lib.hid rfl⟩
    have hT : Hid (turnedOf l = turnsOf t) := Lib.hid (by simp [turnedOf, hfd, ht.out])
    have hts : t.size = x.2.size - 6 := by rw [ht.out, ByteArray.size_extract]; omega
    obtain ⟨s, hs⟩ : ∃ s, Hid (s = x.2) := ⟨_, Lib.hid rfl⟩
    have hss : s.size ≤ 9223372036854775807 := by rw [hs.out]; exact HZ.out x hfd
    have htm : t.size ≤ 9223372036854775807 := by rw [hts]; have := HZ.out x hfd; omega
    rw [← hs.out] at hts ⊢
    replace hfd := Lib.hid hfd
    clear e1 e3
    by_cases h14 : s.size < 14
    · have h14' : (s.size : Int) < 14 := by omega
      go_wp2_with fail
      go_ret
      have hz : turnsOf t = 0 := by
        unfold turnsOf dirGo
        rw [if_neg (show ¬ (8 ≤ t.size ∧ numN t 2 2 true = 42) from fun h => by omega), if_neg (show ¬ (8 ≤ t.size ∧ numN t 2 2 false = 42) from fun h => by omega)]
        split <;> (try split) <;> rfl
      exact ⟨by rw [hT.out, hz]; rfl, o13.out⟩
    · have h14' : ¬ (s.size : Int) < 14 := by omega
      have hsl : ∀ W, (Instr.slice 9 (.string s) (some (.int .i64 6)) none none).run Try.prog W = .ok (.string t) W := fun W => by
        rw [run_slice_string_from_if W 9 s .i64 6 Try.underlying9, if_pos ⟨by omega, by omega⟩, ht.out, hs.out]; rfl
      have hts' : (8 : Int) ≤ t.size := by omega
      replace hts := Lib.hid hts
      cases hI : begins t iiH
      · cases hM : begins t mmH
        · have h2a : ((t.extract 0 2).toList == [73, 73]) = false := by rw [← begins2 t (by omega)]; exact hI
          have h2b : ((t.extract 0 2).toList == [77, 77]) = false := by rw [← begins2 t (by omega)]; exact hM
          replace hI := Lib.hid hI
          replace hM := Lib.hid hM
          go_wp2_with fail
          go_ret
          exact ⟨by rw [hT.out]; unfold turnsOf; rw [hM.out, hI.out]; rfl, o13.out.alloc _⟩
        · have h2a : ((t.extract 0 2).toList == [73, 73]) = false := by rw [← begins2 t (by omega)]; exact hI
          have h2b : ((t.extract 0 2).toList == [77, 77]) = true := by rw [← begins2 t (by omega)]; exact hM
          have hTU : Hid (turnsOf t = dirGo t true) := Lib.hid (by unfold turnsOf; rw [hM]; rfl)
          replace hI := Lib.hid hI
          replace hM := Lib.hid hM
          go_wp2_with fail
          obtain ⟨W, hW⟩ : ∃ W, W = w3.alloc (.cells #[.string t, .bool true] 60) := ⟨_, rfl⟩
          rw [← hW]
          obtain ⟨g, hg⟩ : ∃ g, g = w3.heap.size := ⟨_, rfl⟩
          rw [← hg]
          have hb : Hid (Blk W g 60 #[.string t, .bool true]) := Lib.hid (by rw [hW, hg]; exact Blk.new _ _ _)
          have oW : Hid (Only No w W) := Lib.hid (by rw [hW]; exact o13.out.alloc _)
          clear hW hg
          refine (number_yes t true 2 2 W (by omega) (by omega) (by omega)).mono ?_
          rintro e wa ⟨rfl, o1⟩
          have hb1 := Lib.hid (hb.out.only o1 id)
          have oW1 := Lib.hid (oW.out.trans o1)
          clear o1 hb oW
          have c0 : wa.cell? ⟨g, 0, none⟩ = some (.string t) := hb1.out.cell 0
          have c1 : wa.cell? ⟨g, 1, none⟩ = some (.bool true) := hb1.out.cell 1
          by_cases h42 : numN t 2 2 true = 42
          · rw [h42]
            go_wp2_with fail
            refine (number_yes t true 4 4 wa (by omega) (by omega) (by omega)).mono ?_
            rintro e wb ⟨rfl, o1⟩
            have hb2 := Lib.hid (hb1.out.only o1 id)
            have oW2 := Lib.hid (oW1.out.trans o1)
            clear o1 hb1 oW1 c0 c1
            have c0 : wb.cell? ⟨g, 0, none⟩ = some (.string t) := hb2.out.cell 0
            have c1 : wb.cell? ⟨g, 1, none⟩ = some (.bool true) := hb2.out.cell 1
            have hp : numN t 4 4 true < 4294967296 := valN_le t 4 4 true 4 (by omega)
            obtain ⟨p, hpe⟩ : ∃ p, Hid (p = numN t 4 4 true) := ⟨_, Lib.hid rfl⟩
            rw [← hpe.out] at hp ⊢
            by_cases hin : p + 2 ≤ t.size
            · have hin' : (p : Int) + 2 ≤ t.size := by omega
              have hD : Hid (turnedOf l = rowsGo t true (numN t p 2 true) (p + 2)) := Lib.hid (by rw [hT.out, hTU.out]; unfold dirGo; rw [if_pos ⟨by omega, h42⟩, ← hpe.out, if_pos hin])
              replace h42 := Lib.hid h42
              go_wp2_with fail
              refine (number_yes t true p 2 wb (by omega) (by omega) (by omega)).mono ?_
              rintro e wc ⟨rfl, o1⟩
              have hb3 := Lib.hid (hb2.out.only o1 id)
              have oW3 := Lib.hid (oW2.out.trans o1)
              clear o1 hb2 oW2 c0 c1
              have hN0 : numN t p 2 true < 4294967296 := valN_le t p 2 true 2 (by omega)
              obtain ⟨N, hN⟩ : ∃ N, Hid (N = numN t p 2 true) := ⟨_, Lib.hid rfl⟩
              rw [← hN.out] at hN0 ⊢
              go_wp2_with fail
              go_loopw [8, 10, 11, 12] (fun v8 v10 _ _ wr => ∃ n a : Nat, v10 = .int .i64 n ∧ v8 = .int .i64 a ∧ n ≤ N ∧ a + 12 * n = p + 2 + 12 * N ∧ Hid (turnedOf l = rowsGo t true n a ∧ Only No wc wr)) (fun _ v10 _ _ _ => (intOf v10).toNat)
              case atStart => exact ⟨N, p + 2, rfl, by go_num, by omega, by omega, Lib.hid ⟨by rw [hD.out, ← hN.out], Only.refl _ _⟩⟩
              case round =>
                obtain ⟨n, a, rfl, rfl, hn, ha, hI2⟩ := hrel
                have hab : (a : Int) ≤ 100000000000 := by omega
                have c0 : wr.cell? ⟨g, 0, none⟩ = some (.string t) := (hb3.out.only hI2.out.2 id).cell 0
                have c1 : wr.cell? ⟨g, 1, none⟩ = some (.bool true) := (hb3.out.only hI2.out.2 id).cell 1
                cases n with
                | zero =>
                  go_wp2_with fail
                  go_ret
                  exact ⟨by rw [hI2.out.1]; rfl, oW3.out.trans hI2.out.2⟩
                | succ n =>
                  have hn1 : (0 : Int) < ((n + 1 : Nat) : Int) := by omega
                  have hn2 : ((n + 1 : Nat) : Int) - 1 = n := by omega
                  have hst : Hid (turnedOf l = if a + 12 ≤ t.size then (if numN t a 2 true = 274 then rowTurn t true a else rowsGo t true n (a + 12)) else 0) := Lib.hid (by rw [hI2.out.1, rowsGo])
                  by_cases hrow : a + 12 ≤ t.size
                  · have hrow' : (a : Int) ≤ (t.size : Int) - 12 := by omega
                    have hdr : decide ((t.size : Int) - 12 < (a : Int)) = false := decide_eq_false (by omega)
                    go_wp2_with fail
                    refine (number_yes t true a 2 wr (by omega) (by omega) (by omega)).mono ?_
                    rintro e wd ⟨rfl, o1⟩
                    have hb4 := Lib.hid ((hb3.out.only hI2.out.2 id).only o1 id)
                    have oW4 := Lib.hid (hI2.out.2.trans o1)
                    clear o1 c0 c1
                    have c0 : wd.cell? ⟨g, 0, none⟩ = some (.string t) := hb4.out.cell 0
                    have c1 : wd.cell? ⟨g, 1, none⟩ = some (.bool true) := hb4.out.cell 1
                    by_cases h274 : numN t a 2 true = 274
                    · have hst2 := Lib.hid (hst.out.trans (by rw [if_pos hrow, if_pos h274]))
                      rw [h274]
                      go_wp2_with fail
                      refine (turned38 t true a wd (by omega) (by omega)).mono ?_
                      rintro e we ⟨rfl, o1⟩
                      replace o1 := Lib.hid o1
                      go_wp2_with fail
                      go_ret
                      exact ⟨by rw [hst2.out]; rfl, (oW3.out.trans oW4.out).trans o1.out⟩
                    · have hst2 := Lib.hid (hst.out.trans (by rw [if_pos hrow, if_neg h274]))
                      have hne : ((numN t a 2 true : Int) == 274) = false := by rw [beq_eq_false_iff_ne]; omega
                      replace h274 := Lib.hid h274
                      go_wp2_with fail
                      go_roundw
                      case rel => exact ⟨n, a + 12, by go_num, by go_num, by omega, by omega, Lib.hid ⟨hst2.out, oW4.out⟩⟩
                      case measure => simp [intOf]
                  · have hdr : decide ((t.size : Int) - 12 < (a : Int)) = true := decide_eq_true (by omega)
                    have hrow' : (t.size : Int) - 12 < (a : Int) := by omega
                    have hst2 := Lib.hid (hst.out.trans (if_neg hrow))
                    go_wp2_with fail
                    by_cases hin2 : a + 2 ≤ t.size
                    · refine (number_yes t true a 2 wr (by omega) (by omega) (by omega)).mono ?_
                      rintro e wd ⟨rfl, o1⟩
                      have hb4 := Lib.hid ((hb3.out.only hI2.out.2 id).only o1 id)
                      replace o1 := Lib.hid o1
                      clear c0 c1
                      have c0 : wd.cell? ⟨g, 0, none⟩ = some (.string t) := hb4.out.cell 0
                      go_wp2_with fail
                      go_ret
                      exact ⟨by rw [hst2.out]; rfl, (oW3.out.trans hI2.out.2).trans o1.out⟩
                    · refine (number_no t true a 2 wr (by omega) (by omega) (by omega) (by omega) (by omega)).mono ?_
                      rintro e wd ⟨rfl, o1⟩
                      replace o1 := Lib.hid o1
                      go_wp2_with fail
                      go_ret
                      exact ⟨by rw [hst2.out]; rfl, (oW3.out.trans hI2.out.2).trans o1.out⟩
            · have hD : Hid (turnedOf l = 0) := Lib.hid (by rw [hT.out, hTU.out]; unfold dirGo; rw [if_pos ⟨by omega, h42⟩, ← hpe.out, if_neg hin])
              replace h42 := Lib.hid h42
              go_wp2_with fail
              refine (number_no t true p 2 wb (by omega) (by omega) (by omega) (by omega) (by omega)).mono ?_
              rintro e wc ⟨rfl, o1⟩
              replace o1 := Lib.hid o1
              go_wp2_with fail
              go_loopw [8, 10, 11, 12] (fun _ _ _ _ wr => Hid (Only No wc wr)) (fun _ _ _ _ _ => 0)
              case atStart => exact Lib.hid (Only.refl _ _)
              case round =>
                go_wp2_with fail
                go_ret
                exact ⟨by rw [hD.out]; rfl, (oW2.out.trans o1.out).trans hrel.out⟩
          · have hne : ((numN t 2 2 true : Int) == 42) = false := by rw [beq_eq_false_iff_ne]; omega
            have hD : Hid (turnedOf l = 0) := Lib.hid (by rw [hT.out, hTU.out]; unfold dirGo; rw [if_neg (fun h => h42 h.2)])
            replace h42 := Lib.hid h42
            go_wp2_with fail
            go_ret
            exact ⟨by rw [hD.out]; rfl, oW1.out⟩
      · have h2a : ((t.extract 0 2).toList == [73, 73]) = true := by rw [← begins2 t (by omega)]; exact hI
        have hM : begins t mmH = false := by
          rw [begins2 t (by omega), beq_iff_eq.1 h2a]
          rfl
        have hTU : Hid (turnsOf t = dirGo t false) := Lib.hid (by unfold turnsOf; rw [hM, hI]; rfl)
        replace hI := Lib.hid hI
        replace hM := Lib.hid hM
        go_wp2_with fail
        obtain ⟨W, hW⟩ : ∃ W, W = w3.alloc (.cells #[.string t, .bool false] 60) := ⟨_, rfl⟩
        rw [← hW]
        obtain ⟨g, hg⟩ : ∃ g, g = w3.heap.size := ⟨_, rfl⟩
        rw [← hg]
        have hb : Hid (Blk W g 60 #[.string t, .bool false]) := Lib.hid (by rw [hW, hg]; exact Blk.new _ _ _)
        have oW : Hid (Only No w W) := Lib.hid (by rw [hW]; exact o13.out.alloc _)
        clear hW hg
        refine (number_yes t false 2 2 W (by omega) (by omega) (by omega)).mono ?_
        rintro e wa ⟨rfl, o1⟩
        have hb1 := Lib.hid (hb.out.only o1 id)
        have oW1 := Lib.hid (oW.out.trans o1)
        clear o1 hb oW
        have c0 : wa.cell? ⟨g, 0, none⟩ = some (.string t) := hb1.out.cell 0
        have c1 : wa.cell? ⟨g, 1, none⟩ = some (.bool false) := hb1.out.cell 1
        by_cases h42 : numN t 2 2 false = 42
        · rw [h42]
          go_wp2_with fail
          refine (number_yes t false 4 4 wa (by omega) (by omega) (by omega)).mono ?_
          rintro e wb ⟨rfl, o1⟩
          have hb2 := Lib.hid (hb1.out.only o1 id)
          have oW2 := Lib.hid (oW1.out.trans o1)
          clear o1 hb1 oW1 c0 c1
          have c0 : wb.cell? ⟨g, 0, none⟩ = some (.string t) := hb2.out.cell 0
          have c1 : wb.cell? ⟨g, 1, none⟩ = some (.bool false) := hb2.out.cell 1
          have hp : numN t 4 4 false < 4294967296 := valN_le t 4 4 false 4 (by omega)
          obtain ⟨p, hpe⟩ : ∃ p, Hid (p = numN t 4 4 false) := ⟨_, Lib.hid rfl⟩
          rw [← hpe.out] at hp ⊢
          by_cases hin : p + 2 ≤ t.size
          · have hin' : (p : Int) + 2 ≤ t.size := by omega
            have hD : Hid (turnedOf l = rowsGo t false (numN t p 2 false) (p + 2)) := Lib.hid (by rw [hT.out, hTU.out]; unfold dirGo; rw [if_pos ⟨by omega, h42⟩, ← hpe.out, if_pos hin])
            replace h42 := Lib.hid h42
            go_wp2_with fail
            refine (number_yes t false p 2 wb (by omega) (by omega) (by omega)).mono ?_
            rintro e wc ⟨rfl, o1⟩
            have hb3 := Lib.hid (hb2.out.only o1 id)
            have oW3 := Lib.hid (oW2.out.trans o1)
            clear o1 hb2 oW2 c0 c1
            have hN0 : numN t p 2 false < 4294967296 := valN_le t p 2 false 2 (by omega)
            obtain ⟨N, hN⟩ : ∃ N, Hid (N = numN t p 2 false) := ⟨_, Lib.hid rfl⟩
            rw [← hN.out] at hN0 ⊢
            go_wp2_with fail
            go_loopw [8, 10, 11, 12] (fun v8 v10 _ _ wr => ∃ n a : Nat, v10 = .int .i64 n ∧ v8 = .int .i64 a ∧ n ≤ N ∧ a + 12 * n = p + 2 + 12 * N ∧ Hid (turnedOf l = rowsGo t false n a ∧ Only No wc wr)) (fun _ v10 _ _ _ => (intOf v10).toNat)
            case atStart => exact ⟨N, p + 2, rfl, by go_num, by omega, by omega, Lib.hid ⟨by rw [hD.out, ← hN.out], Only.refl _ _⟩⟩
            case round =>
              obtain ⟨n, a, rfl, rfl, hn, ha, hI2⟩ := hrel
              have hab : (a : Int) ≤ 100000000000 := by omega
              have c0 : wr.cell? ⟨g, 0, none⟩ = some (.string t) := (hb3.out.only hI2.out.2 id).cell 0
              have c1 : wr.cell? ⟨g, 1, none⟩ = some (.bool false) := (hb3.out.only hI2.out.2 id).cell 1
              cases n with
              | zero =>
                go_wp2_with fail
                go_ret
                exact ⟨by rw [hI2.out.1]; rfl, oW3.out.trans hI2.out.2⟩
              | succ n =>
                have hn1 : (0 : Int) < ((n + 1 : Nat) : Int) := by omega
                have hn2 : ((n + 1 : Nat) : Int) - 1 = n := by omega
                have hst : Hid (turnedOf l = if a + 12 ≤ t.size then (if numN t a 2 false = 274 then rowTurn t false a else rowsGo t false n (a + 12)) else 0) := Lib.hid (by rw [hI2.out.1, rowsGo])
                by_cases hrow : a + 12 ≤ t.size
                · have hrow' : (a : Int) ≤ (t.size : Int) - 12 := by omega
                  have hdr : decide ((t.size : Int) - 12 < (a : Int)) = false := decide_eq_false (by omega)
                  go_wp2_with fail
                  refine (number_yes t false a 2 wr (by omega) (by omega) (by omega)).mono ?_
                  rintro e wd ⟨rfl, o1⟩
                  have hb4 := Lib.hid ((hb3.out.only hI2.out.2 id).only o1 id)
                  have oW4 := Lib.hid (hI2.out.2.trans o1)
                  clear o1 c0 c1
                  have c0 : wd.cell? ⟨g, 0, none⟩ = some (.string t) := hb4.out.cell 0
                  have c1 : wd.cell? ⟨g, 1, none⟩ = some (.bool false) := hb4.out.cell 1
                  by_cases h274 : numN t a 2 false = 274
                  · have hst2 := Lib.hid (hst.out.trans (by rw [if_pos hrow, if_pos h274]))
                    rw [h274]
                    go_wp2_with fail
                    refine (turned38 t false a wd (by omega) (by omega)).mono ?_
                    rintro e we ⟨rfl, o1⟩
                    replace o1 := Lib.hid o1
                    go_wp2_with fail
                    go_ret
                    exact ⟨by rw [hst2.out]; rfl, (oW3.out.trans oW4.out).trans o1.out⟩
                  · have hst2 := Lib.hid (hst.out.trans (by rw [if_pos hrow, if_neg h274]))
                    have hne : ((numN t a 2 false : Int) == 274) = false := by rw [beq_eq_false_iff_ne]; omega
                    replace h274 := Lib.hid h274
                    go_wp2_with fail
                    go_roundw
                    case rel => exact ⟨n, a + 12, by go_num, by go_num, by omega, by omega, Lib.hid ⟨hst2.out, oW4.out⟩⟩
                    case measure => simp [intOf]
                · have hdr : decide ((t.size : Int) - 12 < (a : Int)) = true := decide_eq_true (by omega)
                  have hrow' : (t.size : Int) - 12 < (a : Int) := by omega
                  have hst2 := Lib.hid (hst.out.trans (if_neg hrow))
                  go_wp2_with fail
                  by_cases hin2 : a + 2 ≤ t.size
                  · refine (number_yes t false a 2 wr (by omega) (by omega) (by omega)).mono ?_
                    rintro e wd ⟨rfl, o1⟩
                    have hb4 := Lib.hid ((hb3.out.only hI2.out.2 id).only o1 id)
                    replace o1 := Lib.hid o1
                    clear c0 c1
                    have c0 : wd.cell? ⟨g, 0, none⟩ = some (.string t) := hb4.out.cell 0
                    go_wp2_with fail
                    go_ret
                    exact ⟨by rw [hst2.out]; rfl, (oW3.out.trans hI2.out.2).trans o1.out⟩
                  · refine (number_no t false a 2 wr (by omega) (by omega) (by omega) (by omega) (by omega)).mono ?_
                    rintro e wd ⟨rfl, o1⟩
                    replace o1 := Lib.hid o1
                    go_wp2_with fail
                    go_ret
                    exact ⟨by rw [hst2.out]; rfl, (oW3.out.trans hI2.out.2).trans o1.out⟩
          · have hD : Hid (turnedOf l = 0) := Lib.hid (by rw [hT.out, hTU.out]; unfold dirGo; rw [if_pos ⟨by omega, h42⟩, ← hpe.out, if_neg hin])
            replace h42 := Lib.hid h42
            go_wp2_with fail
            refine (number_no t false p 2 wb (by omega) (by omega) (by omega) (by omega) (by omega)).mono ?_
            rintro e wc ⟨rfl, o1⟩
            replace o1 := Lib.hid o1
            go_wp2_with fail
            go_loopw [8, 10, 11, 12] (fun _ _ _ _ wr => Hid (Only No wc wr)) (fun _ _ _ _ _ => 0)
            case atStart => exact Lib.hid (Only.refl _ _)
            case round =>
              go_wp2_with fail
              go_ret
              exact ⟨by rw [hD.out]; rfl, (oW2.out.trans o1.out).trans hrel.out⟩
        · have hne : ((numN t 2 2 false : Int) == 42) = false := by rw [beq_eq_false_iff_ne]; omega
          have hD : Hid (turnedOf l = 0) := Lib.hid (by rw [hT.out, hTU.out]; unfold dirGo; rw [if_neg (fun h => h42 h.2)])
          replace h42 := Lib.hid h42
          go_wp2_with fail
          go_ret
          exact ⟨by rw [hD.out]; rfl, oW1.out⟩
theorem turned24 (A : Option Addr) (m c : Nat) (l : List Ex) (w : World) (hr : Rds w 2 A m (exC l)) (hl : l.length = m) (hm : m * 24 ≤ 140737488351232) (hz : ∀ x ∈ l, x.2.size ≤ 9223372036854775807) :
    Calls Try.prog 24 #[.slice A m c] w fun e w' => e = .returned (.int .i8 (turnedOf l)) ∧ Only No w w' :=
  turned24s A m c l w hr hl (by omega) fun x h => hz x (List.mem_of_find?_eq_some h)
end Go.Proofs.Ytehnahikfemodaa.Ct
