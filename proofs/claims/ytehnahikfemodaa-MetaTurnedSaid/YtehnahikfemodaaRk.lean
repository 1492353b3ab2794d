/- The reference's kinds of segments. -/
import Derived.Test.YtehnahikfemodaaAdobe
namespace Go.Proofs.Ytehnahikfemodaa.Ct
open Go.ChangeShapes Go.WideShapes Go.RowKit Mm
set_option maxHeartbeats 800000 in
theorem begins50 (s p : ByteArray) (w : World) : Calls Try.prog 50 #[.string s, .string p] w fun e w' => e = .returned (.bool (begins s p)) ∧ w = w' := by
  unfold begins
  by_cases h : p.size ≤ s.size
  · have h' : (p.size : Int) ≤ s.size := by omega
    have hd : decide (p.size ≤ s.size) = true := decide_eq_true h
    rw [hd]
    go_enter Try.func50, Try.ntmps50
    go_wp2
    go_ret
    exact ⟨rfl, rfl⟩
  · have h' : ¬ (p.size : Int) ≤ s.size := by omega
    have hd : decide (p.size ≤ s.size) = false := decide_eq_false h
    rw [hd]
    go_enter Try.func50, Try.ntmps50
    go_wp2
    go_ret
    exact ⟨rfl, rfl⟩
abbrev jfifH' : ByteArray := { data := #[74, 70, 73, 70, 0] }
abbrev iccH : ByteArray := { data := #[73, 67, 67, 95, 80, 82, 79, 70, 73, 76, 69, 0] }
set_option maxHeartbeats 800000 in
theorem jfifs42 (x : Ex) (w : World) : Calls Try.prog 42 #[.agg #[.int .u8 x.1, .string x.2]] w fun e w' => e = .returned (.bool (isKind 224 jfifH' 14 x)) ∧ Only No w w' := by
  cases e1 : (x.1 == 224)
  · go_enter Try.func42, Try.ntmps42
    go_wp2_with fail
    go_ret
    exact ⟨by simp [isKind, e1], (Only.refl _ _).alloc _⟩
  · go_enter Try.func42, Try.ntmps42
    go_wp2_with fail
    refine (begins50 x.2 jfifH' _).mono ?_
    rintro e w1 ⟨rfl, rfl⟩
    cases e2 : begins x.2 jfifH'
    · go_wp2_with fail
      go_ret
      exact ⟨by simp [isKind, e1, e2], (Only.refl _ _).alloc _⟩
    · by_cases h3 : (14 : Int) ≤ (x.2.size : Int)
      · have hd : decide ((14 : Int) ≤ (x.2.size : Int)) = true := decide_eq_true h3
        go_wp2_with fail
        go_ret
        exact ⟨by simp [isKind, e1, e2, hd], (Only.refl _ _).alloc _⟩
      · have hd : decide ((14 : Int) ≤ (x.2.size : Int)) = false := decide_eq_false h3
        go_wp2_with fail
        go_ret
        exact ⟨by simp [isKind, e1, e2, hd], (Only.refl _ _).alloc _⟩
set_option maxHeartbeats 800000 in
theorem pieces43 (x : Ex) (w : World) : Calls Try.prog 43 #[.agg #[.int .u8 x.1, .string x.2]] w fun e w' => e = .returned (.bool (isKind 226 iccH 14 x)) ∧ Only No w w' := by
  cases e1 : (x.1 == 226)
  · go_enter Try.func43, Try.ntmps43
    go_wp2_with fail
    go_ret
    exact ⟨by simp [isKind, e1], (Only.refl _ _).alloc _⟩
  · go_enter Try.func43, Try.ntmps43
    go_wp2_with fail
    refine (begins50 x.2 iccH _).mono ?_
    rintro e w1 ⟨rfl, rfl⟩
    cases e2 : begins x.2 iccH
    · go_wp2_with fail
      go_ret
      exact ⟨by simp [isKind, e1, e2], (Only.refl _ _).alloc _⟩
    · by_cases h3 : (14 : Int) ≤ (x.2.size : Int)
      · have hd : decide ((14 : Int) ≤ (x.2.size : Int)) = true := decide_eq_true h3
        go_wp2_with fail
        go_ret
        exact ⟨by simp [isKind, e1, e2, hd], (Only.refl _ _).alloc _⟩
      · have hd : decide ((14 : Int) ≤ (x.2.size : Int)) = false := decide_eq_false h3
        go_wp2_with fail
        go_ret
        exact ⟨by simp [isKind, e1, e2, hd], (Only.refl _ _).alloc _⟩
set_option maxHeartbeats 800000 in
theorem adobes44 (x : Ex) (w : World) : Calls Try.prog 44 #[.agg #[.int .u8 x.1, .string x.2]] w fun e w' => e = .returned (.bool (isAdobe x)) ∧ Only No w w' := by
  cases e1 : (x.1 == 238)
  · go_enter Try.func44, Try.ntmps44
    go_wp2_with fail
    go_ret
    exact ⟨by simp [isAdobe, isKind, e1], (Only.refl _ _).alloc _⟩
  · go_enter Try.func44, Try.ntmps44
    go_wp2_with fail
    refine (begins50 x.2 adobeH _).mono ?_
    rintro e w1 ⟨rfl, rfl⟩
    cases e2 : begins x.2 adobeH
    · go_wp2_with fail
      go_ret
      exact ⟨by simp [isAdobe, isKind, e1, e2], (Only.refl _ _).alloc _⟩
    · by_cases h3 : (12 : Int) ≤ (x.2.size : Int)
      · have hd : decide ((12 : Int) ≤ (x.2.size : Int)) = true := decide_eq_true h3
        have h11 : (11 : Int) < x.2.size := by omega
        have hbe := byteAt_eq x.2 11 (by omega)
        by_cases h4 : (x.2[11].toNat : Int) < 3
        · have hd4 : decide (byteAt x.2 11 ≤ 2) = true := by rw [hbe]; exact decide_eq_true (by omega)
          replace hbe := Lib.hid hbe
          go_wp2_with fail
          go_ret
          exact ⟨by simp [isAdobe, isKind, e1, e2, hd, hd4], (Only.refl _ _).alloc _⟩
        · have hd4 : decide (byteAt x.2 11 ≤ 2) = false := by rw [hbe]; exact decide_eq_false (by omega)
          replace hbe := Lib.hid hbe
          go_wp2_with fail
          go_ret
          exact ⟨by simp [isAdobe, isKind, e1, e2, hd, hd4, h4], (Only.refl _ _).alloc _⟩
      · have hd : decide ((12 : Int) ≤ (x.2.size : Int)) = false := decide_eq_false h3
        go_wp2_with fail
        go_ret
        exact ⟨by simp [isAdobe, isKind, e1, e2, hd], (Only.refl _ _).alloc _⟩
set_option maxRecDepth 100000 in
set_option maxHeartbeats 1600000 in
theorem radobe_any (A : Option Addr) (m c : Nat) (l : List Ex) (w : World) (hr : Rds w 2 A m (exC l)) (hl : l.length = m) (hm : m * 24 ≤ 140737488351232) :
    Calls Try.prog 33 #[.slice A m c] w fun e w' => e = .returned (.int .i8 (adobeOf l)) ∧ Only No w w' := by
  have HR := Lib.hid hr
  have HL := Lib.hid hl
  clear hr hl
  go_enter Try.func33, Try.ntmps33
  go_wp2
  go_loopw [3] (fun v3 wr => ∃ k : Nat, v3 = .int .i64 k ∧ k ≤ m ∧ Hid ((l.take k).find? isAdobe = none ∧ Only No w wr)) (fun v3 _ => m - (intOf v3).toNat)
  case atStart => exact ⟨0, rfl, by omega, Lib.hid ⟨by simp, Only.refl _ _⟩⟩
  case round =>
    obtain ⟨k, rfl, hk, hI⟩ := hrel
    by_cases hlt : k < m
    · have hlt' : (k : Int) < m := by omega
      obtain ⟨ad, rfl, p0, p1, pb⟩ := ex_cells (HR.out.no hI.out.2) HL.out k hlt
      obtain ⟨u, hu⟩ : ∃ u, Hid (u = l[k]'(by rw [HL.out]; exact hlt)) := ⟨_, Lib.hid rfl⟩
      rw [← hu.out] at p0 p1
      have hfind : Hid ((l.take (k + 1)).find? isAdobe = if isAdobe u then some u else none) := Lib.hid (by
        rw [List.take_succ_eq_append_getElem (by rw [HL.out]; exact hlt), List.find?_append, hI.out.1, ← hu.out]
        simp only [List.find?_cons, List.find?_nil, Option.none_or]
        cases isAdobe u <;> rfl)
      go_wp2_with fail
      refine (adobes44 u _).mono ?_
      rintro e w1 ⟨rfl, q1⟩
      have o1 : Hid (Only No w w1) := Lib.hid (hI.out.2.trans q1)
      obtain ⟨ad2, e2, r0, r1, rb⟩ := ex_cells (HR.out.no o1.out) HL.out k hlt
      obtain rfl := Option.some.inj e2
      rw [← hu.out] at r0 r1
      clear q1 e2
      cases hqu : isAdobe u
      · rw [hqu] at hfind
        go_wp2_with fail
        go_roundw
        case rel => exact ⟨k + 1, by go_num, by omega, Lib.hid ⟨by simpa using hfind.out, o1.out⟩⟩
        case measure => simp [intOf]; omega
      · rw [hqu] at hfind
        have hall : l.find? isAdobe = some u := by
          rw [← List.take_append_drop (k + 1) l, List.find?_append, hfind.out]
          simp
        have hx := hqu
        unfold isAdobe isKind at hx
        simp only [Bool.and_eq_true, decide_eq_true_eq] at hx
        obtain ⟨⟨_, hlen⟩, hx2⟩ := hx
        have h11 : (11 : Int) < u.2.size := by omega
        have hbe := byteAt_eq u.2 11 (by omega)
        rw [hbe] at hx2
        have hw : IntKind.i8.wrap (u.2[11].toNat : Int) = (u.2[11].toNat : Int) := wrap8 _ (by omega)
        replace hbe := Lib.hid hbe
        replace hall := Lib.hid hall
        go_wp2_with fail
        go_ret
        exact ⟨by simp [adobeOf, hall.out, hbe.out], o1.out⟩
    · have hlt' : ¬ (k : Int) < m := by omega
      have hall : l.find? isAdobe = none := by
        have := hI.out.1
        rw [List.take_of_length_le (by rw [HL.out]; omega)] at this
        exact this
      replace hall := Lib.hid hall
      go_wp2
      go_ret
      exact ⟨by simp [adobeOf, hall.out], hI.out.2⟩
end Go.Proofs.Ytehnahikfemodaa.Ct
