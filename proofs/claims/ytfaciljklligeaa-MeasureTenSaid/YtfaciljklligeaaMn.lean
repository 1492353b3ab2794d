/- Mean: the program's, and the document's. -/
import Derived.Test.YtfaciljklligeaaFl
namespace Go.Proofs.Ytfaciljklligeaa.Ct
open Go.ChangeShapes Go.WideShapes Go.RowKit Mm
def sumK (l : List Nat) (k : Nat) : Nat := (l.take k).foldl (fo .add) 0
def devK (l : List Nat) (m : Nat) (k : Nat) : Nat := (l.take k).foldl (fun s x => fo .add s (fo .mul (fo .sub x m) (fo .sub x m))) 0
theorem sumK_zero (l : List Nat) : sumK l 0 = 0 := rfl
theorem devK_zero (l : List Nat) (m : Nat) : devK l m 0 = 0 := rfl
theorem sumK_succ {l : List Nat} {k : Nat} (h : k < l.length) : sumK l (k + 1) = fo .add (sumK l k) (l.getD k 0) := by
  unfold sumK
  rw [List.take_succ_eq_append_getElem h, List.foldl_append]
  simp [h]
theorem devK_succ {l : List Nat} {m k : Nat} (h : k < l.length) : devK l m (k + 1) = fo .add (devK l m k) (fo .mul (fo .sub (l.getD k 0) m) (fo .sub (l.getD k 0) m)) := by
  unfold devK
  rw [List.take_succ_eq_append_getElem h, List.foldl_append]
  simp [h]
theorem getD_at {l : List Nat} {k : Nat} (h : k < l.length) : l.getD k 0 = l[k] := by simp [h]
def meanP (l : List Nat) : Nat := if l = [] then 0 else fo .quo (sumK l l.length) (floatOfInt .f64 (l.length : Int))
def spreadP (l : List Nat) : Nat := if l = [] then 0 else fo .quo (devK l (meanP l) l.length) (floatOfInt .f64 (l.length : Int))
def MeanPost (l : List Nat) (w : World) (e : Ending) (w' : World) : Prop :=
  ∃ a b d, FEq a (meanP l) ∧ FEq b (spreadP l) ∧ e = .returned (.tuple #[.float .f64 a, .float .f64 b]) ∧ w' = w.drewN d
theorem fA : fop .add := .inl rfl
theorem fS : fop .sub := .inr (.inl rfl)
theorem fM : fop .mul := .inr (.inr (.inl rfl))
theorem fQ : fop .quo := .inr (.inr (.inr rfl))
/-- 0, or 0 with a number's own words: the mean's parts depend on the mean up to what is no number -/
theorem devK_alike {l : List Nat} {m m' : Nat} (h : FEq m m') (k : Nat) : FEq (devK l m k) (devK l m' k) := by
  unfold devK
  generalize l.take k = xs
  have : ∀ (xs : List Nat) (a b : Nat), FEq a b → FEq (xs.foldl (fun s x => fo .add s (fo .mul (fo .sub x m) (fo .sub x m))) a) (xs.foldl (fun s x => fo .add s (fo .mul (fo .sub x m') (fo .sub x m'))) b) := by
    intro xs
    induction xs with
    | nil => intro a b h; exact h
    | cons x xs ih =>
      intro a b hab
      have hs := fo_alike fS (FEq.refl x) h 0
      exact ih _ _ (fo_alike fA hab (fo_alike fM hs hs 0) 0)
  exact this xs 0 0 (.refl _)
set_option maxHeartbeats 800000 in
theorem mean14 (w : World) (A : Option Addr) (c : Nat) (l : List Nat) (hr : Rds w 1 A l.length (flC l)) (hl : l.length ≤ 1152921504606846976) : Calls Try.prog 14 #[.slice A l.length c] w (MeanPost l w) := by
  have ra := fun (x y : Nat) (w : World) => run_fop (P := Try.prog) w .add 25 x y fA
  have rs := fun (x y : Nat) (w : World) => run_fop (P := Try.prog) w .sub 25 x y fS
  have rm := fun (x y : Nat) (w : World) => run_fop (P := Try.prog) w .mul 25 x y fM
  have rq := fun (x y : Nat) (w : World) => run_fop (P := Try.prog) w .quo 25 x y fQ
  by_cases h0 : l = []
  · subst h0
    go_enter Try.func14, Try.ntmps14
    go_wp2
    go_ret2
    exact ⟨_, _, 0, .refl _, .refl _, rfl, rfl⟩
  · have hn : 0 < l.length := List.length_pos_iff.2 h0
    obtain ⟨ad, rfl, _, hc⟩ := hr.2 hn
    have hmp : Hid (meanP l = fo .quo (sumK l l.length) (floatOfInt .f64 (l.length : Int))) := by unfold meanP; exact if_neg h0
    have hsp : Hid (spreadP l = fo .quo (devK l (meanP l) l.length) (floatOfInt .f64 (l.length : Int))) := by unfold spreadP; exact if_neg h0
    have hC := Lib.hid hc
    have hne : ((l.length : Int) == 0) = false := by simp; exact h0
    clear h0 hr hc
    go_enter Try.func14, Try.ntmps14
    go_wp2
    go_loopw [4, 17] (fun s i wr => ∃ (k a d : Nat), k ≤ l.length ∧ i = .int .i64 k ∧ wr = w.drewN d ∧ s = .float .f64 a ∧ Hid (FEq a (sumK l k))) (fun _ i _ => l.length - (intOf i).toNat)
    case atStart => exact ⟨0, 0, 0, Nat.zero_le _, rfl, rfl, rfl, .refl _⟩
    case round =>
      obtain ⟨k, a, d, hk, rfl, rfl, rfl, hs⟩ := hrel
      by_cases hlt : k < l.length
      · have hcell : w.cell? (ad.add k) = some (.float .f64 (l.getD k 0)) := hC.out k _ (flC_getD hlt)
        go_wp2
        go_roundw
        case rel => exact ⟨k + 1, _, _, by omega, by go_num, rfl, rfl, by unfold Hid; rw [sumK_succ hlt]; exact fo_alike fA hs.out (by rw [getD_at hlt]; exact FEq.refl _) _⟩
        case measure => simp [intOf]; omega
      · obtain rfl : k = l.length := by omega
        go_wp2
        generalize hM : fv .quo a (floatOfInt .f64 (l.length : Int)) _ = M
        have hm : Hid (FEq M (meanP l)) := by rw [← hM]; unfold Hid; rw [hmp.out]; exact fo_alike fQ hs.out (.refl _) _
        clear hM hs
        go_loopw [5, 32] (fun s i wr => ∃ (k a d : Nat), k ≤ l.length ∧ i = .int .i64 k ∧ wr = w.drewN d ∧ s = .float .f64 a ∧ Hid (FEq a (devK l (meanP l) k))) (fun _ i _ => l.length - (intOf i).toNat)
        case atStart => exact ⟨0, 0, _, Nat.zero_le _, rfl, rfl, rfl, .refl _⟩
        case round =>
          obtain ⟨k, a, d, hk, rfl, rfl, rfl, hs⟩ := hrel
          by_cases hlt : k < l.length
          · have hcell : w.cell? (ad.add k) = some (.float .f64 (l.getD k 0)) := hC.out k _ (flC_getD hlt)
            go_wp2
            go_roundw
            case rel => exact ⟨k + 1, _, _, by omega, by go_num, rfl, rfl, by
              unfold Hid
              rw [devK_succ hlt]
              have hx : FEq l[k] (l.getD k 0) := by rw [getD_at hlt]; exact FEq.refl _
              exact fo_alike fA hs.out (fo_alike fM (fo_alike fS hx hm.out _) (fo_alike fS hx hm.out _) _) _⟩
            case measure => simp [intOf]; omega
          · obtain rfl : k = l.length := by omega
            go_wp2
            go_ret2
            exact ⟨_, _, _, hm.out, by rw [hsp.out]; exact fo_alike fQ hs.out (.refl _) _, rfl, rfl⟩
set_option maxHeartbeats 800000 in
theorem rmean15 (w : World) (A : Option Addr) (c : Nat) (l : List Nat) (hr : Rds w 1 A l.length (flC l)) (hl : l.length ≤ 1152921504606846976) : Calls Try.prog 15 #[.slice A l.length c] w (MeanPost l w) := by
  have ra := fun (x y : Nat) (w : World) => run_fop (P := Try.prog) w .add 25 x y fA
  have rs := fun (x y : Nat) (w : World) => run_fop (P := Try.prog) w .sub 25 x y fS
  have rm := fun (x y : Nat) (w : World) => run_fop (P := Try.prog) w .mul 25 x y fM
  have rq := fun (x y : Nat) (w : World) => run_fop (P := Try.prog) w .quo 25 x y fQ
  by_cases h0 : l = []
  · subst h0
    go_enter Try.func15, Try.ntmps15
    go_wp2
    go_ret2
    exact ⟨_, _, 0, .refl _, .refl _, rfl, rfl⟩
  · have hn : 0 < l.length := List.length_pos_iff.2 h0
    obtain ⟨ad, rfl, _, hc⟩ := hr.2 hn
    have hmp : Hid (meanP l = fo .quo (sumK l l.length) (floatOfInt .f64 (l.length : Int))) := by unfold meanP; exact if_neg h0
    have hsp : Hid (spreadP l = fo .quo (devK l (meanP l) l.length) (floatOfInt .f64 (l.length : Int))) := by unfold spreadP; exact if_neg h0
    have hC := Lib.hid hc
    have hne : ((l.length : Int) == 0) = false := by simp; exact h0
    clear h0 hr hc
    go_enter Try.func15, Try.ntmps15
    go_wp2
    go_loopw [5, 6] (fun s i wr => ∃ (k a d : Nat), k ≤ l.length ∧ i = .int .i64 k ∧ wr = w.drewN d ∧ s = .float .f64 a ∧ Hid (FEq a (sumK l k))) (fun _ i _ => l.length - (intOf i).toNat)
    case atStart => exact ⟨0, 0, 0, Nat.zero_le _, rfl, rfl, rfl, .refl _⟩
    case round =>
      obtain ⟨k, a, d, hk, rfl, rfl, rfl, hs⟩ := hrel
      by_cases hlt : k < l.length
      · have hcell : w.cell? (ad.add k) = some (.float .f64 (l.getD k 0)) := hC.out k _ (flC_getD hlt)
        go_wp2
        go_roundw
        case rel => exact ⟨k + 1, _, _, by omega, by go_num, rfl, rfl, by unfold Hid; rw [sumK_succ hlt]; exact fo_alike fA hs.out (by rw [getD_at hlt]; exact FEq.refl _) _⟩
        case measure => simp [intOf]; omega
      · obtain rfl : k = l.length := by omega
        go_wp2
        generalize hM : fv .quo a (floatOfInt .f64 (l.length : Int)) _ = M
        have hm : Hid (FEq M (meanP l)) := by rw [← hM]; unfold Hid; rw [hmp.out]; exact fo_alike fQ hs.out (.refl _) _
        clear hM hs
        go_loopw [5, 8] (fun s i wr => ∃ (k a d : Nat), k ≤ l.length ∧ i = .int .i64 k ∧ wr = w.drewN d ∧ s = .float .f64 a ∧ Hid (FEq a (devK l (meanP l) k))) (fun _ i _ => l.length - (intOf i).toNat)
        case atStart => exact ⟨0, 0, _, Nat.zero_le _, rfl, rfl, rfl, .refl _⟩
        case round =>
          obtain ⟨k, a, d, hk, rfl, rfl, rfl, hs⟩ := hrel
          by_cases hlt : k < l.length
          · have hcell : w.cell? (ad.add k) = some (.float .f64 (l.getD k 0)) := hC.out k _ (flC_getD hlt)
            go_wp2
            go_roundw
            case rel => exact ⟨k + 1, _, _, by omega, by go_num, rfl, rfl, by
              unfold Hid
              rw [devK_succ hlt]
              have hx : FEq l[k] (l.getD k 0) := by rw [getD_at hlt]; exact FEq.refl _
              exact fo_alike fA hs.out (fo_alike fM (fo_alike fS hx hm.out _) (fo_alike fS hx hm.out _) _) _⟩
            case measure => simp [intOf]; omega
          · obtain rfl : k = l.length := by omega
            go_wp2
            go_ret2
            exact ⟨_, _, _, hm.out, by rw [hsp.out]; exact fo_alike fQ hs.out (.refl _) _, rfl, rfl⟩
end Go.Proofs.Ytfaciljklligeaa.Ct
