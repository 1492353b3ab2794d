/- MeasureOrder: the walk. -/
import Derived.Test.YtfaciljklligeaaMe
namespace Go.Proofs.Ytfaciljklligeaa.Ct
open Go.ChangeShapes Go.WideShapes Go.RowKit Mm
theorem ord_feq {a b l : List Nat} (sa : Sorted a) (sb : Sorted b) (pa : a.Perm l) (pb : b.Perm l) (hl : ∀ x ∈ l, x < 2 ^ 64) {i : Nat} (hi : i < l.length) : FEq (a.getD i 0) (b.getD i 0) ∧ a.getD i 0 < 2 ^ 64 := by
  have hk := sorted_keys sa sb (pa.trans pb.symm)
  have h1 : i < a.length := by rw [pa.length_eq]; exact hi
  have h2 : i < b.length := by rw [pb.length_eq]; exact hi
  have e1 : a.getD i 0 = a[i] := by simp [h1]
  have e2 : b.getD i 0 = b[i] := by simp [h2]
  have b1 : a[i] < 2 ^ 64 := hl _ (pa.mem_iff.1 (List.getElem_mem h1))
  have b2 : b[i] < 2 ^ 64 := hl _ (pb.mem_iff.1 (List.getElem_mem h2))
  rw [e1, e2]
  refine ⟨key_eq b1 b2 ?_, b1⟩
  have := congrArg (fun t => t[i]?) hk
  simpa [h1, h2] using this
theorem same31w {x y : Nat} (h : x < 2 ^ 64) (k : FEq x y) (w : World) : Calls Try.prog 31 #[.float .f64 x, .float .f64 y] w fun e w' => e = .returned (.bool true) ∧ w' = w :=
  (same31 h w k).mono fun _ _ ⟨he, hw⟩ => ⟨he, hw.symm⟩
/-- block i is not theirs -/
def Off (n : Nat) (Ab Aw Am : Option Addr) (i : Nat) : Prop := (0 < n → Far (One i) Ab ∧ Far (One i) Aw) ∧ Far (One i) Am
/-- three lists are read -/
structure Trio (n : Nat) (Ab Aw Am : Option Addr) (mb mw mm : List Nat) (w : World) : Prop where
  rb : Rds w 1 Ab n (flC mb)
  rw : Rds w 1 Aw n (flC mw)
  rm : Rds w 1 Am (n + 9) (flC mm)
section
variable {n : Nat} {Ab Aw Am : Option Addr} {mb mw mm : List Nat} {w w' : World}
theorem Trio.no (h : Trio n Ab Aw Am mb mw mm w) (k : Only No w w') : Trio n Ab Aw Am mb mw mm w' := ⟨h.rb.no k, h.rw.no k, h.rm.no k⟩
theorem Trio.only {i : Nat} (h : Trio n Ab Aw Am mb mw mm w) (k : Only (One i) w w') (f : Off n Ab Aw Am i) : Trio n Ab Aw Am mb mw mm w' :=
  ⟨h.rb.only k (fun hn => (f.1 hn).1), h.rw.only k (fun hn => (f.1 hn).2), h.rm.only k (fun _ => f.2)⟩
theorem Trio.fresh (h : Trio n Ab Aw Am mb mw mm w) : Off n Ab Aw Am w.heap.size := by
  refine ⟨fun hn => ⟨?_, ?_⟩, ?_⟩
  · intro ad e k
    obtain ⟨ad', e', hl, _⟩ := h.rb.2 hn
    have : ad.block = w.heap.size := k
    rw [e] at e'; cases e'; omega
  · intro ad e k
    obtain ⟨ad', e', hl, _⟩ := h.rw.2 hn
    have : ad.block = w.heap.size := k
    rw [e] at e'; cases e'; omega
  · intro ad e k
    obtain ⟨ad', e', hl, _⟩ := h.rm.2 (by omega)
    have : ad.block = w.heap.size := k
    rw [e] at e'; cases e'; omega
theorem Trio.grown {v : Value} (h : Trio n Ab Aw Am mb mw mm w) (k : Only (fun i => v.ownBlock = some i) w w') (f : ∀ i, v.ownBlock = some i → Off n Ab Aw Am i) : Trio n Ab Aw Am mb mw mm w' := by
  cases hv : v.ownBlock with
  | none => exact h.no (k.mono fun i hi => by rw [hv] at hi; cases hi)
  | some i => exact h.only (i := i) (k.mono fun j hj => by rw [hv] at hj; cases hj; rfl) (f i hv)
end
def FullP (n : Nat) (ms xs : List Nat) (i : Nat) : Prop := xs.length = n ∧ ∀ j, i ≤ j → xs.getD j 0 = ms.getD j 0
theorem FullP.set {n : Nat} {ms xs : List Nat} {i : Nat} (h : FullP n ms xs i) (y : Nat) : FullP n ms (xs.set i y) (i + 1) := by
  refine ⟨by rw [List.length_set]; exact h.1, fun j hj => ?_⟩
  rw [← h.2 j (by omega), List.getD_eq_getElem?_getD, List.getD_eq_getElem?_getD, List.getElem?_set_ne (by omega)]
set_option maxHeartbeats 6400000 in
theorem order6 (w : World) (A : Option Addr) (c : Nat) (l : List Nat) (hr : Rds w 1 A l.length (flC l)) (hl : l.length ≤ 17592186043904) (hb : ∀ x ∈ l, x < 2 ^ 64) :
    Calls Try.prog 6 #[.slice A l.length c] w (AwPost w) := by
  obtain ⟨i0, hinf, hz0, hz1, hz2⟩ := info_parts info25
  have rst := fun (a : Addr) (b : Nat) (w : World) (m : Mode) => run_store Try.prog w a (.float .f64 b) m rfl
  have HR := Lib.hid hr
  have HB := Lib.hid hb
  clear hr hb
  go_enter Try.func6, Try.ntmps6
  go_wp2_with fail
  refine (awake12 _).mono ?_
  rintro e w1 ⟨rfl, O1⟩
  replace O1 := Lib.hid O1
  go_wp2_with fail
  refine (floats13 w1 A c l (HR.out.no O1.out) hl).mono ?_
  rintro e w2 ⟨Am, cm, rfl, hown, o⟩
  obtain ⟨g, cap, e⟩ := own_slice1 hown (by omega)
  injection e with e1 _ e3
  subst e1 e3
  obtain ⟨hc1, hc2⟩ := own_cap hown
  have O2 := Lib.hid (O1.out.trans o)
  have HM := Lib.hid hown
  have g1 : l.length ≤ cm := by omega
  clear hown o O1
  go_wp2_with fail
  refine (rorder29 w2 A c l (HR.out.no O2.out) hl HB.out).mono ?_
  rintro e w3 ⟨vw, mw, rfl, pw, sw, hown, o⟩
  obtain ⟨Aw, cw, rfl⟩ := own_slice hown
  have HW := Lib.hid hown
  have HM3 := Lib.hid (own_only HM.out o (fun _ _ => id))
  have O3 := Lib.hid (O2.out.trans o)
  replace pw := Lib.hid pw
  replace sw := Lib.hid sw
  clear hown o O2 HM
  go_wp2_with fail
  have RM := fun w' o => (Rds_take (Rds.of_own (own_only (w' := w') HM3.out o (fun _ _ => id))) (show l.length ≤ l.length + 9 by omega))
  rw [show (l ++ marks 9).take l.length = l by simp] at RM
  refine (order30 w3 _ _ l (RM w3 (.refl _ _)) (fun _ h => by cases h; rfl) hl HB.out).mono ?_
  rintro e w4 ⟨va, ma, rfl, pa, sa, hown, o⟩
  obtain ⟨Aa, ca, rfl⟩ := own_slice hown
  have HA := Lib.hid hown
  have o4 := Lib.hid o
  have O4 := Lib.hid (O3.out.trans o)
  replace RM := Lib.hid (RM w4 o)
  replace pa := Lib.hid pa
  replace sa := Lib.hid sa
  clear hown o
  go_wp2_with fail
  refine (order30 w4 _ _ l RM.out (fun _ h => by cases h; rfl) hl HB.out).mono ?_
  rintro e w5 ⟨vb, mb, rfl, pb, sb, hown, o⟩
  obtain ⟨Ab, cb, rfl⟩ := own_slice hown
  have T : Hid (Trio l.length Ab Aw (some ⟨g, 0, none⟩) mb mw (l ++ marks 9) w5) :=
    ⟨Rds.of_own hown, Rds.of_own (own_only HW.out (o4.out.trans o) (fun _ _ => id)), Rds.of_own (own_only HM3.out (o4.out.trans o) (fun _ _ => id))⟩
  have OF : Hid (∀ i, (Value.slice Aa l.length ca).ownBlock = some i → Off l.length Ab Aw (some ⟨g, 0, none⟩) i) := by
    intro i hi
    have h1 := own_ge HA.out i hi
    have h2 := own_lt HA.out i hi
    refine ⟨fun _ => ⟨fun ad e k => ?_, fun ad e k => ?_⟩, fun ad e k => ?_⟩
    · have h3 := own_ge hown ad.block (by rw [e]; rfl)
      have : ad.block = i := k
      omega
    · have h3 := own_lt HW.out ad.block (by rw [e]; rfl)
      have : ad.block = i := k
      omega
    · have h3 := own_lt HM3.out g rfl
      cases e
      have : g = i := k
      omega
  have HA5 := Lib.hid (own_only HA.out o (fun _ _ => id))
  have hsz : Hid (w.heap.size ≤ w3.heap.size) := O3.out.size
  have O5 := Lib.hid (O4.out.trans o)
  replace pb := Lib.hid pb
  replace sb := Lib.hid sb
  clear hown o RM HA o4 O4 HW HM3 O3
  go_wp2_with fail
  refine (stands16 w5 _ _ _ _ l T.out.rm (HR.out.no O5.out) hl HB.out).mono ?_
  rintro e w6 ⟨rfl, o⟩
  replace T := Lib.hid (T.out.no o)
  replace HA5 := Lib.hid (own_only HA5.out o (fun _ _ => id))
  replace O5 := Lib.hid (O5.out.trans o)
  clear o
  go_wp2_with fail
  go_loopw [8, 9] (fun iv _ wr => ∃ (i : Nat) (xs : List Nat), i ≤ l.length ∧ iv = .int .i64 i ∧ wr.ownsRow w3.heap.size 25 1 (.slice Aa l.length ca) l.length (flC xs) ∧ Hid (FullP l.length ma xs i) ∧ Hid (Trio l.length Ab Aw (some ⟨g, 0, none⟩) mb mw (l ++ marks 9) wr) ∧ Hid (Only No w wr)) (fun iv _ _ => l.length - (intOf iv).toNat)
  case atStart => exact ⟨0, ma, by omega, rfl, HA5.out, ⟨pa.out.length_eq, fun _ _ => rfl⟩, T, O5⟩
  case round =>
    clear HA5 T O5
    obtain ⟨i, xs, hi, rfl, hown, hF, T, hO⟩ := hrel
    by_cases hlt : i < l.length
    · obtain ⟨ga, cap, e⟩ := own_slice1 hown (by omega)
      injection e with e1 _ e3
      subst e1 e3
      have hxl := hF.out.1
      obtain ⟨hfe, hxb⟩ := ord_feq sa.out sw.out pa.out pw.out HB.out hlt
      have q1 : wr.cell? ⟨ga, i, none⟩ = some (.float .f64 (ma.getD i 0)) := by
        rw [hown.cellAt i (by omega), flC_getD (by omega), hF.out.2 i (Nat.le_refl _)]
      obtain ⟨ad, rfl, q2⟩ := T.out.rw.at_ (by omega) (flC_getD (by rw [pw.out.length_eq]; exact hlt))
      have f1 := hown.frozenAt i
      have hst := Lib.hid (hown.stored i (.float .f64 4668012349850910720))
      have hcall := Lib.hid (fun w => same31w hxb hfe w)
      replace OF := Lib.hid (OF.out ga rfl)
      generalize ma.getD i 0 = x at *
      generalize mw.getD i 0 = y at *
      have hge := Lib.hid (own_ge hown ga rfl)
      have g2 : (i : Int) < (l.length : Int) := by omega
      have g3 : (0 : Int) ≤ (i : Int) := by omega
      clear hown hxb hfe hxl
      go_wp2_with fail
      go_quiet ((go_at_call 31; exact Calls.quiet_of_same (hcall.out _)))
      go_wp2_with fail
      go_roundw
      case rel => exact ⟨i + 1, xs.set i 4668012349850910720, by omega, by go_num, by
        have h := hst.out.1
        rw [flC_set] at h
        first | exact own_only h ((Only.refl No _).drewN _) (fun _ _ h => h) | exact h, Lib.hid (hF.out.set _), by
        have h := (T.out.only (Only.of_grown hst.out.2 |>.mono fun j hj => by simp at hj; exact hj.symm) OF.out)
        first | exact Lib.hid (h.no ((Only.refl No _).drewN _)) | exact Lib.hid h, by
        have h := (hO.out.then (Only.of_grown hst.out.2) (fun j hj => .inr (by have := hge.out; have := hsz.out; simp at hj; omega)))
        first | exact Lib.hid (h.drewN _) | exact Lib.hid h⟩
      case measure => simp [intOf]; omega
    · obtain rfl : i = l.length := by omega
      have HA := Lib.hid hown
      clear hown hF
      go_wp2_with fail
      go_loopw [6, 10] (fun v iv wr => ∃ (k : Nat) (ys : List Value), k ≤ 20 ∧ iv = .int .i64 k ∧ wr.ownsRow w.heap.size 25 1 v (l.length + k) ys ∧ Hid (∀ i, v.ownBlock = some i → Off l.length Ab Aw (some ⟨g, 0, none⟩) i) ∧ Hid (Trio l.length Ab Aw (some ⟨g, 0, none⟩) mb mw (l ++ marks 9) wr) ∧ Hid (Only No w wr)) (fun _ iv _ => 20 - (intOf iv).toNat)
      case atStart => exact ⟨0, _, by omega, rfl, own_base HA.out (fun i hi => Nat.le_trans hsz.out (own_ge HA.out i hi)), OF, T, hO⟩
      case round =>
        clear HA T hO OF
        obtain ⟨k, ys, hk, rfl, hown, OF, T, hO⟩ := hrel
        by_cases hlt2 : k < 20
        · obtain ⟨Av, cv, rfl⟩ := own_slice hown
          have hOs := hO.out.size
          have hs3 := hsz.out
          go_wp2_with (at_builtin; go_loud (refine wpList_append_any _ rfl (.tmp 74) (.tmp 75) 22 rfl w.heap.size 25 i0 (.float .f64 0) 1 8 Try.underlying22 hinf hz0 hz1 hz2 rfl (by decide) _ _ _ rfl (hown.alloc _) (some ⟨wr.heap.size, 0, none⟩) 1 1 [.float .f64 4677698634974756864] rfl (Rds.fresh (Blk.new _ _ _) rfl) (by simp [Value.oneCell']) (by unfold maxLen; omega) (by omega) ?cb ?_))
          case cb => simp; omega
          intro v' w7 hown' hgrow hnew
          have T7 : Hid (Trio l.length Ab Aw (some ⟨g, 0, none⟩) mb mw (l ++ marks 9) w7) := Lib.hid (Trio.grown (v := .slice Av (l.length + k) cv) (T.out.no ((Only.refl No _).alloc _)) hgrow OF.out)
          have OF7 : Hid (∀ i, v'.ownBlock = some i → Off l.length Ab Aw (some ⟨g, 0, none⟩) i) := by
            intro i hi
            rcases hnew with e | e
            · exact OF.out i (e ▸ hi)
            · rw [e] at hi
              cases hi
              have h := (T.out.no ((Only.refl No _).alloc (.cells #[] 25))).fresh
              simpa using h
          have hO7 : Hid (Only No w w7) := Lib.hid ((hO.out.alloc _).then hgrow (fun i hi => .inr (by have := own_ge hown i hi; omega)))
          have HW7 := Lib.hid hown'
          clear hown' hgrow hnew hown
          go_wp2_with fail
          go_roundw
          case rel => exact ⟨k + 1, _, by omega, by go_num, HW7.out, OF7, T7, hO7⟩
          case measure => simp [intOf]; omega
        · obtain rfl : k = 20 := by omega
          clear hown
          go_wp2_with fail
          go_loopw [11, 12] (fun iv _ wr => ∃ (i : Nat), i ≤ l.length ∧ iv = .int .i64 i ∧ Hid (Trio l.length Ab Aw (some ⟨g, 0, none⟩) mb mw (l ++ marks 9) wr) ∧ Hid (Only No w wr)) (fun iv _ _ => l.length - (intOf iv).toNat)
          case atStart => exact ⟨0, by omega, rfl, T, hO⟩
          case round =>
            clear T hO OF
            obtain ⟨i, hi, rfl, T, hO⟩ := hrel
            by_cases hlt : i < l.length
            · obtain ⟨hfe, hxb⟩ := ord_feq sb.out sw.out pb.out pw.out HB.out hlt
              obtain ⟨ad, rfl, q2⟩ := T.out.rw.at_ (by omega) (flC_getD (by rw [pw.out.length_eq]; exact hlt))
              obtain ⟨ad2, rfl, q1⟩ := T.out.rb.at_ (by omega) (flC_getD (by rw [pb.out.length_eq]; exact hlt))
              have hcall := Lib.hid (fun w => same31w hxb hfe w)
              generalize mb.getD i 0 = x at *
              generalize mw.getD i 0 = y at *
              have g2 : (i : Int) < (l.length : Int) := by omega
              have g3 : (0 : Int) ≤ (i : Int) := by omega
              clear hxb hfe
              go_wp2_with fail
              go_quiet ((go_at_call 31; exact Calls.quiet_of_same (hcall.out _)))
              go_wp2_with fail
              go_roundw
              case rel => exact ⟨i + 1, by omega, by go_num, Lib.hid (T.out.no ((Only.refl No _).drewN _)), Lib.hid (hO.out.drewN _)⟩
              case measure => simp [intOf]; omega
            · obtain rfl : i = l.length := by omega
              go_wp2_with fail
              refine (stands16 wr _ _ _ _ l T.out.rm (HR.out.no hO.out) hl HB.out).mono ?_
              rintro e w6 ⟨rfl, o⟩
              go_wp2_with fail
              go_ret
              exact ⟨rfl, hO.out.trans o⟩
end Go.Proofs.Ytfaciljklligeaa.Ct
