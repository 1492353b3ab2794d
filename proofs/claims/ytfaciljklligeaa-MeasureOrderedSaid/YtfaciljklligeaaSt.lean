/- The law's floats and stands. -/
import Derived.Test.YtfaciljklligeaaAw
namespace Go.Proofs.Ytfaciljklligeaa.Ct
open Go.ChangeShapes Go.WideShapes Go.RowKit Mm
def MK0 : Nat := 13875379345695965184
def mk (i : Nat) : Nat := fo .sub MK0 (floatOfInt .f64 (i : Int))
def marks (k : Nat) : List Nat := (List.range k).map mk
theorem marks_len (k : Nat) : (marks k).length = k := by simp [marks]
theorem marks_succ (k : Nat) : marks (k + 1) = marks k ++ [mk k] := by simp [marks, List.range_succ]
theorem mk_some : ∀ i : Nat, i < 9 → floatBits .sub .f64 MK0 (floatOfInt .f64 (i : Int)) = some (mk i) := by decide +kernel
theorem marks_lt : ∀ x ∈ marks 9, x < 2 ^ 64 := by decide +kernel
theorem flC_append (l m : List Nat) : flC (l ++ m) = flC l ++ flC m := by simp [flC]
theorem flC_one (l : List Nat) : ∀ u ∈ flC l, u.oneCell' = true := by
  intro u hu
  obtain ⟨b, _, rfl⟩ := List.mem_map.1 hu
  rfl
theorem same31' {x : Nat} (h : x < 2 ^ 64) (w : World) : Calls Try.prog 31 #[.float .f64 x, .float .f64 x] w fun e w' => e = .returned (.bool true) ∧ w' = w :=
  (same31 h w (.refl _)).mono fun _ _ ⟨he, hw⟩ => ⟨he, hw.symm⟩
def FlPost (l : List Nat) (w : World) (e : Ending) (w' : World) : Prop :=
  ∃ A c, e = .returned (.slice A (l.length + 9) c) ∧ w'.ownsRow w.heap.size 25 1 (.slice A (l.length + 9) c) (l.length + 9) (flC (l ++ marks 9)) ∧ Only No w w'
set_option maxHeartbeats 1600000 in
theorem floats13 (w : World) (A : Option Addr) (c : Nat) (l : List Nat) (hr : Rds w 1 A l.length (flC l)) (hl : l.length ≤ 17592186043904) : Calls Try.prog 13 #[.slice A l.length c] w (FlPost l w) := by
  obtain ⟨i0, hi, hz0, hz1, hz2⟩ := info_parts info25
  have rs := fun (x y : Nat) (w : World) => run_fop (P := Try.prog) w .sub 25 x y fS
  have HR := Lib.hid hr
  clear hr
  go_enter Try.func13, Try.ntmps13
  go_wp2_with (at_builtin; go_loud (refine wpList_append_any _ rfl (.tmp 5) (.tmp 6) 22 rfl w.heap.size 25 i0 (.float .f64 0) 1 8 Try.underlying22 hi hz0 hz1 hz2 rfl (by decide) _ 0 [] rfl (World.ownsRow_nil _ _ _ _) A l.length c (flC l) rfl HR.out (flC_one l) (by unfold maxLen; omega) (by omega) (Nat.le_refl _) ?_))
  intro v1 w1 hown honly _
  have hO : Hid (Only No w w1) := honly.mono (fun i hi => by simp [Value.ownBlock] at hi)
  have HO : Hid (w1.ownsRow w.heap.size 25 1 v1 l.length (flC l)) := hown
  clear hown honly
  go_wp2_with fail
  go_loopw [3, 4] (fun v iv wr => ∃ i : Nat, i ≤ 9 ∧ iv = .int .i64 i ∧ wr.ownsRow w.heap.size 25 1 v (l.length + i) (flC (l ++ marks i)) ∧ Hid (Only No w wr)) (fun _ iv _ => 9 - (intOf iv).toNat)
  case atStart => exact ⟨0, by omega, rfl, by simpa [marks] using HO.out, hO⟩
  case round =>
    clear HO hO
    obtain ⟨i, hi9, rfl, hown, hO⟩ := hrel
    by_cases hlt : i < 9
    · obtain ⟨A', c', rfl⟩ := own_slice hown
      have e1 := fun t => fo_some (mk_some i hlt) t
      have e2 := fd_some (mk_some i hlt)
      unfold MK0 at e1 e2
      have hs := Lib.hid (marks_succ i)
      have hOs := hO.out.size
      generalize mk i = x at *
      go_wp2_with (at_builtin; refine wpList_append_own _ rfl _ _ 22 rfl w.heap.size 25 i0 (.float .f64 0) 1 8 Try.underlying22 hi hz0 hz1 hz2 rfl (by decide) _ _ _ rfl (hown.alloc _) ⟨_, 0, none⟩ 1 1 [.float .f64 x] rfl rfl ?c1 ?c2 ?c3 ?c4 ?c5 ?_)
      case c1 => exact cell_one_new _ _ _
      case c2 => intro u hu; simp at hu; subst hu; rfl
      case c3 => unfold maxLen; omega
      case c4 => omega
      case c5 => simp; omega
      intro v' w1 hown' hgrow _
      have hO1 : Hid (Only No w w1) := Lib.hid ((hO.out.alloc _).then (Only.of_grown hgrow) (fun i hi => .inr (own_ge hown i hi)))
      have hown1 := Lib.hid hown'
      clear hown' hgrow hown
      go_wp2_with fail
      go_roundw
      case rel => exact ⟨i + 1, by omega, by go_num, by
        have h := hown1.out
        rw [hs.out, ← List.append_assoc, flC_append]
        exact h, hO1⟩
      case measure => simp [intOf]; omega
    · obtain rfl : i = 9 := by omega
      obtain ⟨A', c', rfl⟩ := own_slice hown
      have HO := Lib.hid hown
      clear hown
      go_wp2_with fail
      go_ret
      exact ⟨_, _, rfl, HO.out, hO.out⟩
set_option maxHeartbeats 1600000 in
theorem stands16 (w : World) (A : Option Addr) (c : Nat) (A2 : Option Addr) (c2 : Nat) (l : List Nat) (hr : Rds w 1 A (l.length + 9) (flC (l ++ marks 9))) (hr2 : Rds w 1 A2 l.length (flC l)) (hl : l.length ≤ 17592186043904) (hb : ∀ x ∈ l, x < 2 ^ 64) :
    Calls Try.prog 16 #[.slice A (l.length + 9) c, .slice A2 l.length c2] w (AwPost w) := by
  have hlen : Hid ((l ++ marks 9).length = l.length + 9) := by unfold Hid; rw [List.length_append, marks_len]
  have hfl := Lib.hid (fun w => floats13 w A2 c2 l)
  have HR := Lib.hid hr
  have HR2 := Lib.hid hr2
  have HB : Hid (∀ x ∈ l ++ marks 9, x < 2 ^ 64) := by
    intro x hx
    rcases List.mem_append.1 hx with h | h
    · exact hb x h
    · exact marks_lt x h
  clear hr hr2 hb
  go_enter Try.func16, Try.ntmps16
  go_wp2_with fail
  refine (hfl.out _ HR2.out hl).mono ?_
  rintro e w1 ⟨A3, c3, rfl, hown, hO⟩
  have HR3 := Lib.hid (Rds.of_own hown)
  replace HR := Lib.hid (HR.out.no hO)
  replace hO := Lib.hid hO
  clear hown hfl HR2
  generalize l ++ marks 9 = xs at *
  go_wp2_with fail
  go_loopw [6] (fun iv wr => ∃ i : Nat, i ≤ l.length + 9 ∧ iv = .int .i64 i ∧ Hid (Only No w1 wr)) (fun iv _ => l.length + 9 - (intOf iv).toNat)
  case atStart => exact ⟨0, by omega, rfl, Only.refl _ _⟩
  case round =>
    obtain ⟨i, hi, rfl, hO2⟩ := hrel
    by_cases hlt : i < l.length + 9
    · have hix : i < xs.length := by rw [hlen.out]; exact hlt
      obtain ⟨ad, rfl, q1⟩ := (HR.out.no hO2.out).at_ (by omega) (flC_getD hix)
      obtain ⟨ad3, rfl, q2⟩ := (HR3.out.no hO2.out).at_ (by omega) (flC_getD hix)
      have hxb : xs.getD i 0 < 2 ^ 64 := by
        rw [show xs.getD i 0 = xs[i] by simp [hix]]
        exact HB.out _ (List.getElem_mem hix)
      have hcall := Lib.hid (fun w => same31' hxb w)
      generalize xs.getD i 0 = x at *
      have g1 : decide ((i : Int) < (l.length : Int) + 9) = true := decide_eq_true (by omega)
      have g2 : (i : Int) < (l.length : Int) + 9 := by omega
      have g3 : (0 : Int) ≤ (i : Int) := by omega
      clear hxb hix
      go_wp2_with fail
      go_quiet ((go_at_call 31; exact Calls.quiet_of_same (hcall.out _)))
      go_wp2_with fail
      go_roundw
      case rel => exact ⟨i + 1, by omega, by go_num, Lib.hid (hO2.out.drewN _)⟩
      case measure => simp [intOf]; omega
    · obtain rfl : i = l.length + 9 := by omega
      go_wp2_with fail
      go_ret
      exact ⟨rfl, hO.out.trans hO2.out⟩
end Go.Proofs.Ytfaciljklligeaa.Ct
