/- MetaComments' walk. -/
import Derived.Test.YtehnahikfemodaaCm
namespace Go.Proofs.Ytehnahikfemodaa.Ct
open Go.ChangeShapes Go.WideShapes Go.RowKit Mm

theorem info23 : (Try.prog.info? 23).map (fun i => (i.zero, i.size, i.bytes)) = some (some (.slice none 0 0), 1, 24) := by kernel_rfl
set_option maxRecDepth 100000 in
set_option maxHeartbeats 1600000 in
theorem kept_yes (g c c2 m : Nat) (A : Option Addr) (l : List Ex) (w : World) (ha : Rds w 2 (some ⟨g, 0, none⟩) (m + 12) (exC (l ++ List.replicate 12 mark))) (hc : m + 12 ≤ c) (hb : Rds w 2 A m (exC l)) (hl : l.length = m) (hm : m * 24 ≤ 140737488351232) :
    Calls Try.prog 14 #[.slice (some ⟨g, 0, none⟩) m c, .slice A m c2] w (Yes w) := by
  have HA := Lib.hid ha
  have HB := Lib.hid hb
  have HL := Lib.hid hl
  have HM : Hid (Rds w 2 (some ⟨g, 0, none⟩) m (exC l)) := Lib.hid (by
    refine ⟨by rw [exC_len, hl], fun h0 => ?_⟩
    obtain ⟨ad, e, hb', hcell⟩ := ha.2 (by omega)
    refine ⟨ad, e, hb', fun j u hu => hcell j u ?_⟩
    rw [exC_append, List.getElem?_append_left (List.getElem?_eq_some_iff.1 hu).1]
    exact hu)
  clear ha hb hl
  go_enter Try.func14, Try.ntmps14
  go_wp2
  go_loopw [6] (fun v6 wr => ∃ i : Nat, v6 = .int .i64 (m + i : Nat) ∧ i ≤ 12 ∧ wr = w) (fun v6 _ => m + 12 - (intOf v6).toNat)
  case atStart => exact ⟨0, rfl, by omega, rfl⟩
  case round =>
    obtain ⟨i, rfl, hi, rfl⟩ := hrel
    by_cases hlt : i < 12
    · have hlt' : ((m + i : Nat) : Int) < m + 12 := by omega
      obtain ⟨ad, e2, x0, x1, _⟩ := ex_cells HA.out (by rw [List.length_append, HL.out, List.length_replicate]) (m + i) (by omega)
      obtain rfl := Option.some.inj e2
      have hg : (l ++ List.replicate 12 mark)[m + i]'(by rw [List.length_append, HL.out, List.length_replicate]; omega) = mark := by
        rw [List.getElem_append_right (by rw [HL.out]; omega), List.getElem_replicate]
      rw [hg] at x0 x1
      simp only [Mm.add_plain, mark] at x0 x1
      obtain ⟨q, hq⟩ : ∃ q, q = m + i := ⟨_, rfl⟩
      rw [← hq] at x0 x1 hlt' ⊢
      have hq2 : (q : Int) + 1 = ((m + (i + 1) : Nat) : Int) := by omega
      have hqm : m ≤ q := by omega
      replace hq := Lib.hid hq
      clear e2 hg
      go_wp2
      go_roundw
      case rel => exact ⟨i + 1, by rw [← hq2]; go_num, by omega, by first | rfl | trivial⟩
      case measure => simp [intOf]; have := hq.out; omega
    · obtain rfl : i = 12 := by omega
      have hlt' : ¬ ((m + 12 : Nat) : Int) < m + 12 := by omega
      go_wp2_with fail
      refine (same_yes (some ⟨g, 0, none⟩) A c c2 l m _ HM.out HB.out HL.out (by omega)).mono ?_
      rintro e w1 ⟨rfl, q1⟩
      go_wp2
      go_ret
      exact ⟨rfl, q1⟩
end Go.Proofs.Ytehnahikfemodaa.Ct
