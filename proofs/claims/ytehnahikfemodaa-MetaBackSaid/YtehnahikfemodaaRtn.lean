/- How a directory's text turns: the reference's. -/
import Derived.Test.YtehnahikfemodaaTrn
import Derived.Test.YtehnahikfemodaaRx
namespace Go.Proofs.Ytehnahikfemodaa.Ct
open Go.ChangeShapes Go.WideShapes Go.RowKit Mm
theorem dirGo_small (t : ByteArray) (h : ¬ 8 ≤ t.size) (H : Bool) : dirGo t H = 0 := by unfold dirGo; rw [if_neg (fun h1 => h h1.1)]
set_option maxRecDepth 100000 in
set_option maxHeartbeats 6400000 in
theorem turns46 (t : ByteArray) (w : World) (hs : t.size ≤ 9223372036854775807) :
    Calls Try.prog 46 #[.string t] w fun e w' => e = .returned (.int .i8 (turnsOf t)) ∧ Only No w w' := by
  go_enter Try.func46, Try.ntmps46
  go_wp2_with fail
  refine (begins50 t mmH w).mono ?_
  rintro e w1 ⟨rfl, rfl⟩
  cases hM : begins t mmH
  · go_wp2_with fail
    refine (begins50 t iiH w).mono ?_
    rintro e w1 ⟨rfl, rfl⟩
    cases hI : begins t iiH
    · have hT : Hid (turnsOf t = 0) := Lib.hid (by unfold turnsOf; rw [hM, hI]; rfl)
      replace hI := Lib.hid hI
      replace hM := Lib.hid hM
      go_wp2_with fail
      go_ret
      exact ⟨by rw [hT.out]; rfl, Only.refl _ _⟩
    · have hT : Hid (turnsOf t = dirGo t false) := Lib.hid (by unfold turnsOf; rw [hM, hI]; rfl)
      replace hI := Lib.hid hI
      replace hM := Lib.hid hM
      go_wp2_with fail
      by_cases h8 : 8 ≤ t.size
      · have h8' : (8 : Int) ≤ t.size := by omega
        refine (rnumber_yes t false 4 4 w (by omega) (by omega) (by omega)).mono ?_
        rintro e w1 ⟨rfl, rfl⟩
        have hp : numN t 4 4 false < 4294967296 := valN_le t 4 4 false 4 (by omega)
        obtain ⟨p, hpe⟩ : ∃ p, Hid (p = numN t 4 4 false) := ⟨_, Lib.hid rfl⟩
        rw [← hpe.out] at hp ⊢
        go_wp2_with fail
        refine (rnumber_yes t false 2 2 w (by omega) (by omega) (by omega)).mono ?_
        rintro e w1 ⟨rfl, rfl⟩
        by_cases h42 : numN t 2 2 false = 42
        · rw [h42]
          by_cases hin : p + 2 ≤ t.size
          · have hin' : (p : Int) + 2 ≤ t.size := by omega
            have hD : Hid (turnsOf t = rowsGo t false (numN t p 2 false) (p + 2)) := Lib.hid (by rw [hT.out]; unfold dirGo; rw [if_pos ⟨by omega, h42⟩, ← hpe.out, if_pos hin])
            replace h42 := Lib.hid h42
            go_wp2_with fail
            refine (rnumber_yes t false p 2 w (by omega) (by omega) (by omega)).mono ?_
            rintro e w1 ⟨rfl, rfl⟩
            have hN0 : numN t p 2 false < 4294967296 := valN_le t p 2 false 2 (by omega)
            obtain ⟨N, hN⟩ : ∃ N, Hid (N = numN t p 2 false) := ⟨_, Lib.hid rfl⟩
            rw [← hN.out] at hN0 ⊢
            go_wp2_with fail
            go_loop [6, 7, 8] (fun v6 _ _ => ∃ i n : Nat, v6 = .int .i64 i ∧ i + n = N ∧ Hid (turnsOf t = rowsGo t false n (p + 2 + 12 * i))) (fun v6 _ _ => N - (intOf v6).toNat)
            case atStart => exact ⟨0, N, rfl, by omega, Lib.hid (by rw [hD.out, ← hN.out])⟩
            case round =>
              obtain ⟨i, n, rfl, hn, hI2⟩ := hrel
              cases n with
              | zero =>
                have hlt : ¬ (i : Int) < N := by omega
                go_wp2_with fail
                go_ret
                exact ⟨by rw [hI2.out]; rfl, Only.refl _ _⟩
              | succ n =>
                have hlt : (i : Int) < N := by omega
                obtain ⟨a, ha⟩ : ∃ a, a = p + 2 + 12 * i := ⟨_, rfl⟩
                have hac : (p : Int) + 2 + 12 * (i : Int) = a := by omega
                have hst : Hid (turnsOf t = if a + 12 ≤ t.size then (if numN t a 2 false = 274 then rowTurn t false a else rowsGo t false n (a + 12)) else 0) := Lib.hid (by rw [hI2.out, rowsGo, ha])
                have ha2 : Hid (a + 12 = p + 2 + 12 * (i + 1)) := Lib.hid (by omega)
                have hab : (a : Int) ≤ 100000000000 := by omega
                clear ha
                by_cases hrow : a + 12 ≤ t.size
                · have hrow' : (a : Int) + 12 ≤ (t.size : Int) := by omega
                  go_wp2_with fail
                  refine (rnumber_yes t false a 2 w (by omega) (by omega) (by omega)).mono ?_
                  rintro e w1 ⟨rfl, rfl⟩
                  by_cases h274 : numN t a 2 false = 274
                  · have hst2 := Lib.hid (hst.out.trans (by rw [if_pos hrow, if_pos h274]))
                    rw [h274]
                    have n1 := rnumber_yes t false (a + 8) 2 w
                    have n2 := rnumber_yes t false (a + 2) 2 w
                    have n3 := rnumber_yes t false (a + 4) 4 w
                    rw [show ((a + 8 : Nat) : Int) = (a : Int) + 8 from by omega] at n1
                    rw [show ((a + 2 : Nat) : Int) = (a : Int) + 2 from by omega] at n2
                    rw [show ((a + 4 : Nat) : Int) = (a : Int) + 4 from by omega] at n3
                    replace n1 := Lib.hid (n1 hs (by omega) (by omega))
                    replace n2 := Lib.hid (n2 hs (by omega) (by omega))
                    replace n3 := Lib.hid (n3 hs (by omega) (by omega))
                    have hk3 : numN t (a + 8) 2 false < 4294967296 := valN_le t (a + 8) 2 false 2 (by omega)
                    have hR : rowTurn t false a = if numN t (a + 2) 2 false = 3 ∧ numN t (a + 4) 4 false = 1 ∧ 1 ≤ numN t (a + 8) 2 false ∧ numN t (a + 8) 2 false ≤ 8 then (numN t (a + 8) 2 false : Int) else 0 := by unfold rowTurn; split <;> rfl
                    replace hR := Lib.hid hR
                    generalize numN t (a + 2) 2 false = k1 at *
                    generalize numN t (a + 4) 4 false = k2 at *
                    generalize numN t (a + 8) 2 false = k3 at *
                    go_wp2_with fail
                    refine (n1.out).mono ?_
                    rintro e w1 ⟨rfl, rfl⟩
                    go_wp2_with fail
                    refine (n2.out).mono ?_
                    rintro e w1 ⟨rfl, rfl⟩
                    have t1 : ((k1 : Int) == 3) = decide (k1 = 3) := by rw [Bool.eq_iff_iff]; simp; omega
                    have t2 : ((k2 : Int) == 1) = decide (k2 = 1) := by rw [Bool.eq_iff_iff]; simp; omega
                    by_cases b1 : k1 = 3
                    · obtain rfl := b1
                      clear t1
                      go_wp2_with fail
                      refine (n3.out).mono ?_
                      rintro e w1 ⟨rfl, rfl⟩
                      by_cases b2 : k2 = 1
                      · obtain rfl := b2
                        clear t2
                        by_cases b3 : 1 ≤ k3
                        · have hd3 : decide ((1 : Int) ≤ (k3 : Int)) = true := decide_eq_true (by omega)
                          by_cases b4 : k3 ≤ 8
                          · have hw8 := wrap8i k3 b4
                            have hd4 : decide ((k3 : Int) ≤ 8) = true := decide_eq_true (by omega)
                            go_wp2_with fail
                            go_ret
                            exact ⟨by rw [hst2.out, hR.out, if_pos (by simp [b3, b4])]; rfl, Only.refl _ _⟩
                          · have hd4 : decide ((k3 : Int) ≤ 8) = false := decide_eq_false (by omega)
                            go_wp2_with fail
                            go_ret
                            exact ⟨by rw [hst2.out, hR.out, if_neg (by simp [b4])]; rfl, Only.refl _ _⟩
                        · have hd3 : decide ((1 : Int) ≤ (k3 : Int)) = false := decide_eq_false (by omega)
                          go_wp2_with fail
                          go_ret
                          exact ⟨by rw [hst2.out, hR.out, if_neg (by intro h; exact b3 h.2.2.1)]; rfl, Only.refl _ _⟩
                      · have hd2 : ((k2 : Int) == 1) = false := by rw [t2]; exact decide_eq_false b2
                        clear t2
                        go_wp2_with fail
                        go_ret
                        exact ⟨by rw [hst2.out, hR.out, if_neg (by intro h; exact b2 h.2.1)]; rfl, Only.refl _ _⟩
                    · have hd1 : ((k1 : Int) == 3) = false := by rw [t1]; exact decide_eq_false b1
                      clear t1 t2
                      go_wp2_with fail
                      go_ret
                      exact ⟨by rw [hst2.out, hR.out, if_neg (by intro h; exact b1 h.1)]; rfl, Only.refl _ _⟩
                  · have hst2 := Lib.hid (hst.out.trans (by rw [if_pos hrow, if_neg h274]))
                    have hne : ((numN t a 2 false : Int) == 274) = false := by rw [beq_eq_false_iff_ne]; omega
                    replace h274 := Lib.hid h274
                    go_wp2_with fail
                    go_round
                    case rel => exact ⟨i + 1, n, by go_num, by omega, Lib.hid (by rw [hst2.out, ha2.out])⟩
                    case measure => simp [intOf]; omega
                · have hrow' : ¬ (a : Int) + 12 ≤ (t.size : Int) := by omega
                  have hst2 := Lib.hid (hst.out.trans (if_neg hrow))
                  go_wp2_with fail
                  go_ret
                  exact ⟨by rw [hst2.out]; rfl, Only.refl _ _⟩
          · have hD : Hid (turnsOf t = 0) := Lib.hid (by rw [hT.out]; unfold dirGo; rw [if_pos ⟨by omega, h42⟩, ← hpe.out, if_neg hin])
            replace h42 := Lib.hid h42
            go_wp2_with fail
            refine (rnumber_no t false p 2 w (by omega) (by omega) (by omega) (by omega) (by omega)).mono ?_
            rintro e w1 ⟨rfl, rfl⟩
            go_wp2_with fail
            go_loop [6, 7, 8] (fun v6 _ _ => v6 = .int .i64 0) (fun _ _ _ => 0)
            case atStart => rfl
            case round =>
              obtain rfl := hrel
              go_wp2_with fail
              go_ret
              exact ⟨by rw [hD.out]; rfl, Only.refl _ _⟩
        · have hne : ((numN t 2 2 false : Int) == 42) = false := by rw [beq_eq_false_iff_ne]; omega
          have hne2 : ((numN t 2 2 false : Int) != 42) = true := by rw [bne, hne]; rfl
          have hD : Hid (turnsOf t = 0) := Lib.hid (by rw [hT.out]; unfold dirGo; rw [if_neg (fun h => h42 h.2)])
          replace h42 := Lib.hid h42
          go_wp2_with fail
          go_ret
          exact ⟨by rw [hD.out]; rfl, Only.refl _ _⟩
      · have h8' : ¬ (8 : Int) ≤ t.size := by omega
        have hD : Hid (turnsOf t = 0) := Lib.hid (by rw [hT.out]; exact dirGo_small t h8 _)
        refine (rnumber_no t false 4 4 w (by omega) (by omega) (by omega) (by omega) (by omega)).mono ?_
        rintro e w1 ⟨rfl, rfl⟩
        go_wp2_with fail
        by_cases h4 : 4 ≤ t.size
        · refine (rnumber_yes t false 2 2 w (by omega) (by omega) (by omega)).mono ?_
          rintro e w1 ⟨rfl, rfl⟩
          by_cases h42 : numN t 2 2 false = 42
          · rw [h42]
            go_wp2_with fail
            go_ret
            exact ⟨by rw [hD.out]; rfl, Only.refl _ _⟩
          · have hne : ((numN t 2 2 false : Int) == 42) = false := by rw [beq_eq_false_iff_ne]; omega
            have hne2 : ((numN t 2 2 false : Int) != 42) = true := by rw [bne, hne]; rfl
            replace h42 := Lib.hid h42
            go_wp2_with fail
            go_ret
            exact ⟨by rw [hD.out]; rfl, Only.refl _ _⟩
        · refine (rnumber_no t false 2 2 w (by omega) (by omega) (by omega) (by omega) (by omega)).mono ?_
          rintro e w1 ⟨rfl, rfl⟩
          go_wp2_with fail
          go_ret
          exact ⟨by rw [hD.out]; rfl, Only.refl _ _⟩
  · have hT : Hid (turnsOf t = dirGo t true) := Lib.hid (by unfold turnsOf; rw [hM]; rfl)
    replace hM := Lib.hid hM
    go_wp2_with fail
    by_cases h8 : 8 ≤ t.size
    · have h8' : (8 : Int) ≤ t.size := by omega
      refine (rnumber_yes t true 4 4 w (by omega) (by omega) (by omega)).mono ?_
      rintro e w1 ⟨rfl, rfl⟩
      have hp : numN t 4 4 true < 4294967296 := valN_le t 4 4 true 4 (by omega)
      obtain ⟨p, hpe⟩ : ∃ p, Hid (p = numN t 4 4 true) := ⟨_, Lib.hid rfl⟩
      rw [← hpe.out] at hp ⊢
      go_wp2_with fail
      refine (rnumber_yes t true 2 2 w (by omega) (by omega) (by omega)).mono ?_
      rintro e w1 ⟨rfl, rfl⟩
      by_cases h42 : numN t 2 2 true = 42
      · rw [h42]
        by_cases hin : p + 2 ≤ t.size
        · have hin' : (p : Int) + 2 ≤ t.size := by omega
          have hD : Hid (turnsOf t = rowsGo t true (numN t p 2 true) (p + 2)) := Lib.hid (by rw [hT.out]; unfold dirGo; rw [if_pos ⟨by omega, h42⟩, ← hpe.out, if_pos hin])
          replace h42 := Lib.hid h42
          go_wp2_with fail
          refine (rnumber_yes t true p 2 w (by omega) (by omega) (by omega)).mono ?_
          rintro e w1 ⟨rfl, rfl⟩
          have hN0 : numN t p 2 true < 4294967296 := valN_le t p 2 true 2 (by omega)
          obtain ⟨N, hN⟩ : ∃ N, Hid (N = numN t p 2 true) := ⟨_, Lib.hid rfl⟩
          rw [← hN.out] at hN0 ⊢
          go_wp2_with fail
          go_loop [6, 7, 8] (fun v6 _ _ => ∃ i n : Nat, v6 = .int .i64 i ∧ i + n = N ∧ Hid (turnsOf t = rowsGo t true n (p + 2 + 12 * i))) (fun v6 _ _ => N - (intOf v6).toNat)
          case atStart => exact ⟨0, N, rfl, by omega, Lib.hid (by rw [hD.out, ← hN.out])⟩
          case round =>
            obtain ⟨i, n, rfl, hn, hI2⟩ := hrel
            cases n with
            | zero =>
              have hlt : ¬ (i : Int) < N := by omega
              go_wp2_with fail
              go_ret
              exact ⟨by rw [hI2.out]; rfl, Only.refl _ _⟩
            | succ n =>
              have hlt : (i : Int) < N := by omega
              obtain ⟨a, ha⟩ : ∃ a, a = p + 2 + 12 * i := ⟨_, rfl⟩
              have hac : (p : Int) + 2 + 12 * (i : Int) = a := by omega
              have hst : Hid (turnsOf t = if a + 12 ≤ t.size then (if numN t a 2 true = 274 then rowTurn t true a else rowsGo t true n (a + 12)) else 0) := Lib.hid (by rw [hI2.out, rowsGo, ha])
              have ha2 : Hid (a + 12 = p + 2 + 12 * (i + 1)) := Lib.hid (by omega)
              have hab : (a : Int) ≤ 100000000000 := by omega
              clear ha
              by_cases hrow : a + 12 ≤ t.size
              · have hrow' : (a : Int) + 12 ≤ (t.size : Int) := by omega
                go_wp2_with fail
                refine (rnumber_yes t true a 2 w (by omega) (by omega) (by omega)).mono ?_
                rintro e w1 ⟨rfl, rfl⟩
                by_cases h274 : numN t a 2 true = 274
                · have hst2 := Lib.hid (hst.out.trans (by rw [if_pos hrow, if_pos h274]))
                  rw [h274]
                  have n1 := rnumber_yes t true (a + 8) 2 w
                  have n2 := rnumber_yes t true (a + 2) 2 w
                  have n3 := rnumber_yes t true (a + 4) 4 w
                  rw [show ((a + 8 : Nat) : Int) = (a : Int) + 8 from by omega] at n1
                  rw [show ((a + 2 : Nat) : Int) = (a : Int) + 2 from by omega] at n2
                  rw [show ((a + 4 : Nat) : Int) = (a : Int) + 4 from by omega] at n3
                  replace n1 := Lib.hid (n1 hs (by omega) (by omega))
                  replace n2 := Lib.hid (n2 hs (by omega) (by omega))
                  replace n3 := Lib.hid (n3 hs (by omega) (by omega))
                  have hk3 : numN t (a + 8) 2 true < 4294967296 := valN_le t (a + 8) 2 true 2 (by omega)
                  have hR : rowTurn t true a = if numN t (a + 2) 2 true = 3 ∧ numN t (a + 4) 4 true = 1 ∧ 1 ≤ numN t (a + 8) 2 true ∧ numN t (a + 8) 2 true ≤ 8 then (numN t (a + 8) 2 true : Int) else 0 := by unfold rowTurn; split <;> rfl
                  replace hR := Lib.hid hR
                  generalize numN t (a + 2) 2 true = k1 at *
                  generalize numN t (a + 4) 4 true = k2 at *
                  generalize numN t (a + 8) 2 true = k3 at *
                  go_wp2_with fail
                  refine (n1.out).mono ?_
                  rintro e w1 ⟨rfl, rfl⟩
                  go_wp2_with fail
                  refine (n2.out).mono ?_
                  rintro e w1 ⟨rfl, rfl⟩
                  have t1 : ((k1 : Int) == 3) = decide (k1 = 3) := by rw [Bool.eq_iff_iff]; simp; omega
                  have t2 : ((k2 : Int) == 1) = decide (k2 = 1) := by rw [Bool.eq_iff_iff]; simp; omega
                  by_cases b1 : k1 = 3
                  · obtain rfl := b1
                    clear t1
                    go_wp2_with fail
                    refine (n3.out).mono ?_
                    rintro e w1 ⟨rfl, rfl⟩
                    by_cases b2 : k2 = 1
                    · obtain rfl := b2
                      clear t2
                      by_cases b3 : 1 ≤ k3
                      · have hd3 : decide ((1 : Int) ≤ (k3 : Int)) = true := decide_eq_true (by omega)
                        by_cases b4 : k3 ≤ 8
                        · have hw8 := wrap8i k3 b4
                          have hd4 : decide ((k3 : Int) ≤ 8) = true := decide_eq_true (by omega)
                          go_wp2_with fail
                          go_ret
                          exact ⟨by rw [hst2.out, hR.out, if_pos (by simp [b3, b4])]; rfl, Only.refl _ _⟩
                        · have hd4 : decide ((k3 : Int) ≤ 8) = false := decide_eq_false (by omega)
                          go_wp2_with fail
                          go_ret
                          exact ⟨by rw [hst2.out, hR.out, if_neg (by simp [b4])]; rfl, Only.refl _ _⟩
                      · have hd3 : decide ((1 : Int) ≤ (k3 : Int)) = false := decide_eq_false (by omega)
                        go_wp2_with fail
                        go_ret
                        exact ⟨by rw [hst2.out, hR.out, if_neg (by intro h; exact b3 h.2.2.1)]; rfl, Only.refl _ _⟩
                    · have hd2 : ((k2 : Int) == 1) = false := by rw [t2]; exact decide_eq_false b2
                      clear t2
                      go_wp2_with fail
                      go_ret
                      exact ⟨by rw [hst2.out, hR.out, if_neg (by intro h; exact b2 h.2.1)]; rfl, Only.refl _ _⟩
                  · have hd1 : ((k1 : Int) == 3) = false := by rw [t1]; exact decide_eq_false b1
                    clear t1 t2
                    go_wp2_with fail
                    go_ret
                    exact ⟨by rw [hst2.out, hR.out, if_neg (by intro h; exact b1 h.1)]; rfl, Only.refl _ _⟩
                · have hst2 := Lib.hid (hst.out.trans (by rw [if_pos hrow, if_neg h274]))
                  have hne : ((numN t a 2 true : Int) == 274) = false := by rw [beq_eq_false_iff_ne]; omega
                  replace h274 := Lib.hid h274
                  go_wp2_with fail
                  go_round
                  case rel => exact ⟨i + 1, n, by go_num, by omega, Lib.hid (by rw [hst2.out, ha2.out])⟩
                  case measure => simp [intOf]; omega
              · have hrow' : ¬ (a : Int) + 12 ≤ (t.size : Int) := by omega
                have hst2 := Lib.hid (hst.out.trans (if_neg hrow))
                go_wp2_with fail
                go_ret
                exact ⟨by rw [hst2.out]; rfl, Only.refl _ _⟩
        · have hD : Hid (turnsOf t = 0) := Lib.hid (by rw [hT.out]; unfold dirGo; rw [if_pos ⟨by omega, h42⟩, ← hpe.out, if_neg hin])
          replace h42 := Lib.hid h42
          go_wp2_with fail
          refine (rnumber_no t true p 2 w (by omega) (by omega) (by omega) (by omega) (by omega)).mono ?_
          rintro e w1 ⟨rfl, rfl⟩
          go_wp2_with fail
          go_loop [6, 7, 8] (fun v6 _ _ => v6 = .int .i64 0) (fun _ _ _ => 0)
          case atStart => rfl
          case round =>
            obtain rfl := hrel
            go_wp2_with fail
            go_ret
            exact ⟨by rw [hD.out]; rfl, Only.refl _ _⟩
      · have hne : ((numN t 2 2 true : Int) == 42) = false := by rw [beq_eq_false_iff_ne]; omega
        have hne2 : ((numN t 2 2 true : Int) != 42) = true := by rw [bne, hne]; rfl
        have hD : Hid (turnsOf t = 0) := Lib.hid (by rw [hT.out]; unfold dirGo; rw [if_neg (fun h => h42 h.2)])
        replace h42 := Lib.hid h42
        go_wp2_with fail
        go_ret
        exact ⟨by rw [hD.out]; rfl, Only.refl _ _⟩
    · have h8' : ¬ (8 : Int) ≤ t.size := by omega
      have hD : Hid (turnsOf t = 0) := Lib.hid (by rw [hT.out]; exact dirGo_small t h8 _)
      refine (rnumber_no t true 4 4 w (by omega) (by omega) (by omega) (by omega) (by omega)).mono ?_
      rintro e w1 ⟨rfl, rfl⟩
      go_wp2_with fail
      by_cases h4 : 4 ≤ t.size
      · refine (rnumber_yes t true 2 2 w (by omega) (by omega) (by omega)).mono ?_
        rintro e w1 ⟨rfl, rfl⟩
        by_cases h42 : numN t 2 2 true = 42
        · rw [h42]
          go_wp2_with fail
          go_ret
          exact ⟨by rw [hD.out]; rfl, Only.refl _ _⟩
        · have hne : ((numN t 2 2 true : Int) == 42) = false := by rw [beq_eq_false_iff_ne]; omega
          have hne2 : ((numN t 2 2 true : Int) != 42) = true := by rw [bne, hne]; rfl
          replace h42 := Lib.hid h42
          go_wp2_with fail
          go_ret
          exact ⟨by rw [hD.out]; rfl, Only.refl _ _⟩
      · refine (rnumber_no t true 2 2 w (by omega) (by omega) (by omega) (by omega) (by omega)).mono ?_
        rintro e w1 ⟨rfl, rfl⟩
        go_wp2_with fail
        go_ret
        exact ⟨by rw [hD.out]; rfl, Only.refl _ _⟩
theorem isExif_ref (x : Ex) : (x.1 == 225 && begins x.2 exifH) = isExif x := by
  unfold isExif isKind
  cases h1 : (x.1 == 225)
  · rfl
  · cases h2 : begins x.2 exifH
    · rfl
    · have h4 : (6 : Int) ≤ x.2.size := by
        unfold begins at h2
        simp only [Bool.and_eq_true, decide_eq_true_eq] at h2
        have := h2.1
        rw [show exifH.size = 6 from rfl] at this
        omega
      simp [h4]
set_option maxRecDepth 100000 in
set_option maxHeartbeats 1600000 in
theorem rturned34 (A : Option Addr) (m c : Nat) (l : List Ex) (w : World) (hr : Rds w 2 A m (exC l)) (hl : l.length = m) (hm : m * 24 ≤ 140737488351232) (hz : ∀ x ∈ l, x.2.size ≤ 9223372036854775807) :
    Calls Try.prog 34 #[.slice A m c] w fun e w' => e = .returned (.int .i8 (turnedOf l)) ∧ Only No w w' := by
  have HR := Lib.hid hr
  have HL := Lib.hid hl
  have HZ := Lib.hid hz
  clear hr hl hz
  go_enter Try.func34, Try.ntmps34
  go_wp2
  go_loopw [3, 4] (fun v3 _ wr => ∃ k : Nat, v3 = .int .i64 k ∧ k ≤ m ∧ Hid ((l.take k).find? isExif = none ∧ Only No w wr)) (fun v3 _ _ => m - (intOf v3).toNat)
  case atStart => exact ⟨0, rfl, by omega, Lib.hid ⟨by simp, Only.refl _ _⟩⟩
  case round =>
    obtain ⟨k, rfl, hk, hI⟩ := hrel
    by_cases hlt : k < m
    · have hlt' : (k : Int) < m := by omega
      obtain ⟨ad, rfl, p0, p1, pb⟩ := ex_cells (HR.out.no hI.out.2) HL.out k hlt
      obtain ⟨u, hu⟩ : ∃ u, Hid (u = l[k]'(by rw [HL.out]; exact hlt)) := ⟨_, Lib.hid rfl⟩
      rw [← hu.out] at p0 p1
      have hus : u.2.size ≤ 9223372036854775807 := by rw [hu.out]; exact HZ.out _ (List.getElem_mem _)
      have hfind : Hid ((l.take (k + 1)).find? isExif = if isExif u then some u else none) := Lib.hid (by
        rw [List.take_succ_eq_append_getElem (by rw [HL.out]; exact hlt), List.find?_append, hI.out.1, ← hu.out]
        simp only [List.find?_cons, List.find?_nil, Option.none_or]
        cases isExif u <;> rfl)
      go_wp2_with fail
      refine (exifs45 u _).mono ?_
      rintro e w1 ⟨rfl, q1⟩
      have o1 : Hid (Only No w w1) := Lib.hid (hI.out.2.trans q1)
      obtain ⟨ad2, e2, r0, r1, rb⟩ := ex_cells (HR.out.no o1.out) HL.out k hlt
      obtain rfl := Option.some.inj e2
      rw [← hu.out] at r0 r1
      clear q1 e2
      rw [isExif_ref u]
      cases hqu : isExif u
      · rw [hqu] at hfind
        go_wp2_with fail
        go_roundw
        case rel => exact ⟨k + 1, by go_num, by omega, Lib.hid ⟨by simpa using hfind.out, o1.out⟩⟩
        case measure => simp [intOf]; omega
      · rw [hqu] at hfind
        have hall : l.find? isExif = some u := by
          rw [← List.take_append_drop (k + 1) l, List.find?_append, hfind.out]
          simp
        have hlen : (6 : Int) ≤ u.2.size := by
          unfold isExif isKind at hqu
          simp only [Bool.and_eq_true, decide_eq_true_eq] at hqu
          exact hqu.2
        have hT : Hid (turnedOf l = turnsOf (u.2.extract 6 u.2.size)) := Lib.hid (by simp [turnedOf, hall])
        have hts : (u.2.extract 6 u.2.size).size ≤ 9223372036854775807 := by rw [ByteArray.size_extract]; omega
        replace hall := Lib.hid hall
        replace hqu := Lib.hid hqu
        go_wp2_with fail
        refine (turns46 _ w1 hts).mono ?_
        rintro e w2 ⟨rfl, q2⟩
        replace q2 := Lib.hid q2
        go_wp2_with fail
        go_ret
        exact ⟨by rw [hT.out]; rfl, o1.out.trans q2.out⟩
    · have hlt' : ¬ (k : Int) < m := by omega
      have hall : l.find? isExif = none := by
        have := hI.out.1
        rw [List.take_of_length_le (by rw [HL.out]; omega)] at this
        exact this
      replace hall := Lib.hid hall
      go_wp2
      go_ret
      exact ⟨by simp [turnedOf, hall.out], hI.out.2⟩
end Go.Proofs.Ytehnahikfemodaa.Ct
