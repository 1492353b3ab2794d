/- Images that are the same; twins by their contract. -/
import Derived.Test.YtfaciljklligeaaSm
import Derived.Test.YtfaciljklligeaaPk
namespace Go.Proofs.Ytfaciljklligeaa.Ct
open Go.ChangeShapes Go.WideShapes Go.RowKit Mm
set_option maxHeartbeats 800000 in
theorem same36 (w : World) (W H C : Int) (A : Option Addr) (c : Nat) (l : List Nat) (W2 H2 C2 : Int) (A2 : Option Addr) (c2 : Nat) (l2 : List Nat) (hr : Rds w 1 A l.length (byC l)) (hr2 : Rds w 1 A2 l2.length (byC l2)) (hl : l.length ≤ 140737488351232) (hb : Byts l) (hb2 : Byts l2) :
    Calls Try.prog 36 #[imgV W H C A l.length c, imgV W2 H2 C2 A2 l2.length c2] w fun e w' => e = .returned (.bool (decide (W = W2 ∧ H = H2 ∧ C = C2 ∧ l = l2))) ∧ Only No w w' := by
  unfold imgV imgA
  obtain ⟨_, _, o2⟩ := boxes w #[.int .i64 W, .int .i64 H, .int .i64 C, .slice A l.length c] #[.int .i64 W2, .int .i64 H2, .int .i64 C2, .slice A2 l2.length c2]
  have O2 := Lib.hid o2
  by_cases h1 : W = W2
  · subst h1
    by_cases h2 : H = H2
    · subst h2
      by_cases h3 : C = C2
      · subst h3
        have hS := fun w' ho => same52 w' A c l A2 c2 l2 (hr.no ho) (hr2.no ho) hl hb hb2
        have hp : Hid (decide (W = W ∧ H = H ∧ C = C ∧ l = l2) = decide (l = l2)) := by simp [Hid]
        rw [hp.out]
        generalize decide (l = l2) = r at *
        clear hr hr2 o2
        replace hS := Lib.hid hS
        go_enter Try.func36, Try.ntmps36
        go_wp2_with fail
        refine (hS.out _ O2.out).mono ?_
        rintro e w3 ⟨rfl, d, rfl⟩
        go_wp2_with fail
        go_ret
        exact ⟨rfl, O2.out.drewN _⟩
      · have d : (C == C2) = false := by simpa using h3
        have hp : Hid (decide (W = W ∧ H = H ∧ C = C2 ∧ l = l2) = false) := by simp [Hid, h3]
        rw [hp.out]
        replace h3 := Lib.hid h3
        go_enter Try.func36, Try.ntmps36
        go_wp2_with fail
        go_ret
        exact ⟨rfl, O2.out⟩
    · have d : (H == H2) = false := by simpa using h2
      have hp : Hid (decide (W = W ∧ H = H2 ∧ C = C2 ∧ l = l2) = false) := by simp [Hid, h2]
      rw [hp.out]
      replace h2 := Lib.hid h2
      go_enter Try.func36, Try.ntmps36
      go_wp2_with fail
      go_ret
      exact ⟨rfl, O2.out⟩
  · have d : (W == W2) = false := by simpa using h1
    have hp : Hid (decide (W = W2 ∧ H = H2 ∧ C = C2 ∧ l = l2) = false) := by simp [Hid, h1]
    rw [hp.out]
    replace h1 := Lib.hid h1
    go_enter Try.func36, Try.ntmps36
    go_wp2_with fail
    go_ret
    exact ⟨rfl, O2.out⟩
/-- a twin, and that it stays -/
theorem twin_stays (w : World) (W H C : Int) (A : Option Addr) (c : Nat) (l : List Nat) (hr : Rds w 1 A l.length (byC l)) (hl : l.length ≤ 140737488351232) :
    Calls Try.prog 35 #[imgV W H C A l.length c] w fun e w' => ∃ A' c', e = .returned (.agg #[.int .i64 W, .int .i64 H, .int .i64 C, .slice A' l.length c']) ∧ (∀ w'', Only No w' w'' → Rds w'' 1 A' l.length (byC l)) ∧ Only No w w' :=
  (twin35 w W H C A c l hr hl).mono fun _ _ ⟨A', c', he, ho, hw⟩ => ⟨A', c', he, fun _ k => (Rds.of_own ho).no k, hw⟩
end Go.Proofs.Ytfaciljklligeaa.Ct
