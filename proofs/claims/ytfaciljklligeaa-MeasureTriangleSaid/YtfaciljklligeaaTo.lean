/- TopApart: the walk. -/
import Derived.Test.YtfaciljklligeaaTl
import Derived.Deep.RegionHeld3
import Derived.Deep.DeepCutAuto
import Derived.Deep.CutRange
namespace Go.Proofs.Ytfaciljklligeaa.Ct
open Go.ChangeShapes Go.WideShapes Go.RowKit Mm
theorem one_two : apartP [10, 20] [13, 20] = 4616752568008179712 := by kernel_rfl
theorem blk_newN (w : World) (n : Nat) (h : w.heap.size = n) (t : TypeId) (cs : Array Value) : Blk (w.alloc (.cells cs t)) n t cs := by subst h; exact Blk.new w t cs
def six (w : World) (ca cb : Array Value) : World :=
  ((((((w.alloc (.cells ca 32)).alloc (.cells cb 32)).alloc (.cells #[.int .u8 10, .int .u8 20] 5)).alloc (.cells #[.int .i64 2, .int .i64 1, .int .i64 1, .slice (some ⟨w.heap.size + 1 + 1, 0, none⟩) 2 2] 32)).alloc (.cells #[.int .u8 13, .int .u8 20] 5)).alloc (.cells #[.int .i64 2, .int .i64 1, .int .i64 1, .slice (some ⟨w.heap.size + 1 + 1 + 1 + 1, 0, none⟩) 2 2] 32))
theorem six_facts (w : World) (ca cb : Array Value) : Only No w (six w ca cb) ∧ Blk (six w ca cb) w.heap.size 32 ca ∧ Blk (six w ca cb) (w.heap.size + 1) 32 cb ∧
    Rds (six w ca cb) 1 (some ⟨w.heap.size + 1 + 1, 0, none⟩) 2 (byC [10, 20]) ∧ Rds (six w ca cb) 1 (some ⟨w.heap.size + 1 + 1 + 1 + 1, 0, none⟩) 2 (byC [13, 20]) := by
  unfold six
  refine ⟨((((((Only.refl No w).alloc _).alloc _).alloc _).alloc _).alloc _).alloc _, ((((((Blk.new w 32 ca).alloc _).alloc _).alloc _).alloc _).alloc _), (((((blk_newN (w.alloc _) _ (by simp) 32 cb).alloc _).alloc _).alloc _).alloc _), ?_, ?_⟩
  · exact Rds.fresh ((((blk_newN ((w.alloc _).alloc _) _ (by simp) 5 #[.int .u8 10, .int .u8 20]).alloc _).alloc _).alloc _) rfl
  · exact Rds.fresh ((blk_newN ((((w.alloc _).alloc _).alloc _).alloc _) _ (by simp) 5 #[.int .u8 13, .int .u8 20]).alloc _) rfl
theorem byts_two (a b : Nat) (ha : a ≤ 255) (hb : b ≤ 255) : Byts [a, b] := by
  intro x hx
  simp at hx
  omega
set_option maxHeartbeats 3200000 in
set_option maxRecDepth 100000 in
theorem top11 (w : World) (W H C : Int) (A : Option Addr) (c : Nat) (l : List Nat) (W2 H2 C2 : Int) (A2 : Option Addr) (c2 : Nat) (l2 : List Nat) (hr : Rds w 1 A l.length (byC l)) (hr2 : Rds w 1 A2 l2.length (byC l2)) (hl : l.length ≤ 140737488351232) (hl2 : l2.length ≤ 140737488351232) (hb : Byts l) (hb2 : Byts l2) :
    Calls Try.prog 11 #[imgV W H C A l.length c, imgV W2 H2 C2 A2 l2.length c2] w fun e w' => e = .returned (.bool true) ∧ Only No w w' := by
  obtain ⟨E, hE⟩ : ∃ E, E = pairE W H C l.length W2 H2 C2 l2.length := ⟨_, rfl⟩
  obtain ⟨E2, hE2⟩ : ∃ E2, E2 = pairE W H C l.length W H C l.length := ⟨_, rfl⟩
  obtain ⟨X, hX⟩ : ∃ X, X = if pairE W H C l.length W2 H2 C2 l2.length = 0 then apartP l l2 else 0 := ⟨_, rfl⟩
  obtain ⟨Y, hY⟩ : ∃ Y, Y = if pairE W2 H2 C2 l2.length W H C l.length = 0 then apartP l2 l else 0 := ⟨_, rfl⟩
  obtain ⟨Z, hZ⟩ : ∃ Z, Z = if pairE W H C l.length W H C l.length = 0 then apartP l l else 0 := ⟨_, rfl⟩
  obtain ⟨K, hK⟩ : ∃ K, K = if pairE W H C l.length W2 H2 C2 l2.length = 0 then pkK l l2 l.length else 0 := ⟨_, rfl⟩
  have hA5 : Hid (∀ w' A1 c1 A2 c2, Rds w' 1 A1 l.length (byC l) → Rds w' 1 A2 l2.length (byC l2) → Calls Try.prog 19 #[.agg #[.int .i64 W, .int .i64 H, .int .i64 C, .slice A1 l.length c1], .agg #[.int .i64 W2, .int .i64 H2, .int .i64 C2, .slice A2 l2.length c2]] w' fun e w'' => e = .returned (.tuple #[.float .f64 X, .int .i64 E]) ∧ Only No w' w'') :=
    Lib.hid (fun w' A1 c1 A2 c2 h1 h2 => by rw [hX, hE]; exact apart19 w' W H C A1 c1 l W2 H2 C2 A2 c2 l2 h1 h2 hb hb2)
  have hA6 : Hid (∀ w' A1 c1 A2 c2, Rds w' 1 A1 l2.length (byC l2) → Rds w' 1 A2 l.length (byC l) → Calls Try.prog 19 #[.agg #[.int .i64 W2, .int .i64 H2, .int .i64 C2, .slice A1 l2.length c1], .agg #[.int .i64 W, .int .i64 H, .int .i64 C, .slice A2 l.length c2]] w' fun e w'' => e = .returned (.tuple #[.float .f64 Y, .int .i64 E]) ∧ Only No w' w'') :=
    Lib.hid (fun w' A1 c1 A2 c2 h1 h2 => by rw [hY, hE, pairE_symm W H C]; exact apart19 w' W2 H2 C2 A1 c1 l2 W H C A2 c2 l h1 h2 hb2 hb)
  have hA7 : Hid (∀ w' A1 c1 A2 c2, Rds w' 1 A1 l.length (byC l) → Rds w' 1 A2 l2.length (byC l2) → Calls Try.prog 21 #[.agg #[.int .i64 W, .int .i64 H, .int .i64 C, .slice A1 l.length c1], .agg #[.int .i64 W2, .int .i64 H2, .int .i64 C2, .slice A2 l2.length c2]] w' fun e w'' => e = .returned (.tuple #[.int .i64 K, .int .i64 E]) ∧ Only No w' w'') :=
    Lib.hid (fun w' A1 c1 A2 c2 h1 h2 => by rw [hK, hE]; exact peak21 w' W H C A1 c1 l W2 H2 C2 A2 c2 l2 h1 h2 hb hb2)
  have hA8 : Hid (∀ w' A1 c1 A2 c2, Rds w' 1 A1 l.length (byC l) → Rds w' 1 A2 l.length (byC l) → Calls Try.prog 19 #[.agg #[.int .i64 W, .int .i64 H, .int .i64 C, .slice A1 l.length c1], .agg #[.int .i64 W, .int .i64 H, .int .i64 C, .slice A2 l.length c2]] w' fun e w'' => e = .returned (.tuple #[.float .f64 Z, .int .i64 E2]) ∧ Only No w' w'') :=
    Lib.hid (fun w' A1 c1 A2 c2 h1 h2 => by rw [hZ, hE2]; exact apart19 w' W H C A1 c1 l W H C A2 c2 l h1 h2 hb hb)
  have HE := Lib.hid hE
  have HE2 := Lib.hid hE2
  have HX := Lib.hid hX
  have HY := Lib.hid hY
  have HZ := Lib.hid hZ
  have HK := Lib.hid hK
  clear hE hE2 hX hY hZ hK
  have HR := Lib.hid hr
  have HR2 := Lib.hid hr2
  have HB := Lib.hid hb
  have HB2 := Lib.hid hb2
  clear hr hr2 hb hb2
  unfold imgV imgA
  have o1 : FloatKind.f64.format.order 4616752568008179712 4616752568008179712 = some .eq := by kernel_rfl
  go_enter Try.func11, Try.ntmps11
  go_wp2_with fail
  change Calls Try.prog 19 _ (six w #[.int .i64 W, .int .i64 H, .int .i64 C, .slice A l.length c] #[.int .i64 W2, .int .i64 H2, .int .i64 C2, .slice A2 l2.length c2]) _
  obtain ⟨o6, b1, b2, t1, t2⟩ := six_facts w #[.int .i64 W, .int .i64 H, .int .i64 C, .slice A l.length c] #[.int .i64 W2, .int .i64 H2, .int .i64 C2, .slice A2 l2.length c2]
  generalize six w #[.int .i64 W, .int .i64 H, .int .i64 C, .slice A l.length c] #[.int .i64 W2, .int .i64 H2, .int .i64 C2, .slice A2 l2.length c2] = w6 at *
  have h1 := apart19 w6 2 1 1 (some ⟨w.heap.size + 1 + 1, 0, none⟩) 2 [10, 20] 2 1 1 (some ⟨w.heap.size + 1 + 1 + 1 + 1, 0, none⟩) 2 [13, 20] t1 t2 (byts_two _ _ (by omega) (by omega)) (byts_two _ _ (by omega) (by omega))
  unfold ApartPost at h1
  rw [show pairE 2 1 1 [10, 20].length 2 1 1 [13, 20].length = 0 by decide, if_pos rfl, one_two] at h1
  refine h1.mono ?_
  clear h1 t1 t2
  rintro e w7 ⟨rfl, o7⟩
  have B1 := Lib.hid (b1.only o7 id)
  have B2 := Lib.hid (b2.only o7 id)
  have O7 := Lib.hid (o6.trans o7)
  clear b1 b2 o6 o7
  have hT1 : Hid (∀ w', Only No w7 w' → Calls Try.prog 35 #[.agg #[.int .i64 W, .int .i64 H, .int .i64 C, .slice A l.length c]] w' fun e w'' => ∃ A' c', e = .returned (.agg #[.int .i64 W, .int .i64 H, .int .i64 C, .slice A' l.length c']) ∧ (∀ w3, Only No w'' w3 → Rds w3 1 A' l.length (byC l)) ∧ Only No w' w'') :=
    Lib.hid (fun w' ho => twin_stays w' W H C A c l (HR.out.no (O7.out.trans ho)) hl)
  have hT2 : Hid (∀ w', Only No w7 w' → Calls Try.prog 35 #[.agg #[.int .i64 W2, .int .i64 H2, .int .i64 C2, .slice A2 l2.length c2]] w' fun e w'' => ∃ A' c', e = .returned (.agg #[.int .i64 W2, .int .i64 H2, .int .i64 C2, .slice A' l2.length c']) ∧ (∀ w3, Only No w'' w3 → Rds w3 1 A' l2.length (byC l2)) ∧ Only No w' w'') :=
    Lib.hid (fun w' ho => twin_stays w' W2 H2 C2 A2 c2 l2 (HR2.out.no (O7.out.trans ho)) hl2)
  have hS : ∀ w', Only No w7 w' → w'.cell? ⟨w.heap.size, 0, none⟩ = some (.int .i64 W) ∧ w'.cell? ⟨w.heap.size, 1, none⟩ = some (.int .i64 H) ∧ w'.cell? ⟨w.heap.size, 2, none⟩ = some (.int .i64 C) ∧ w'.cell? ⟨w.heap.size, 3, none⟩ = some (.slice A l.length c) ∧ w'.cell? ⟨w.heap.size + 1, 0, none⟩ = some (.int .i64 W2) ∧ w'.cell? ⟨w.heap.size + 1, 1, none⟩ = some (.int .i64 H2) ∧ w'.cell? ⟨w.heap.size + 1, 2, none⟩ = some (.int .i64 C2) ∧ w'.cell? ⟨w.heap.size + 1, 3, none⟩ = some (.slice A2 l2.length c2) := fun w' ho => by
    obtain ⟨a1, a2, a3, a4⟩ := cells4 (B1.out.only ho id)
    obtain ⟨a5, a6, a7, a8⟩ := cells4 (B2.out.only ho id)
    exact ⟨a1, a2, a3, a4, a5, a6, a7, a8⟩
  replace hS := Lib.hid hS
  have q9 : Only No w7 w7 := Only.refl No w7
  go_wp2_with fail
  go_cut [10, 11] from 35 to 42 (fun s1 s2 wx => s1 = .float .f64 X ∧ s2 = .int .i64 E ∧ Hid (Only No w7 wx))
  case first =>
    go_region_held3 (fun w' => Only No w7 w' ∧ w'.cell? ⟨w.heap.size, 0, none⟩ = some (.int .i64 W) ∧ w'.cell? ⟨w.heap.size, 1, none⟩ = some (.int .i64 H) ∧ w'.cell? ⟨w.heap.size, 2, none⟩ = some (.int .i64 C) ∧ w'.cell? ⟨w.heap.size, 3, none⟩ = some (.slice A l.length c) ∧ w'.cell? ⟨w.heap.size + 1, 0, none⟩ = some (.int .i64 W2) ∧ w'.cell? ⟨w.heap.size + 1, 1, none⟩ = some (.int .i64 H2) ∧ w'.cell? ⟨w.heap.size + 1, 2, none⟩ = some (.int .i64 C2) ∧ w'.cell? ⟨w.heap.size + 1, 3, none⟩ = some (.slice A2 l2.length c2))
      (first
        | (refine ⟨?_, hS.out _ ?_⟩ <;> first | exact q9 | exact q9.drew | exact q10 | exact q11 | exact q20 | exact q21 | exact q30 | exact q10.drew | exact q11.drew | exact q20.drew | exact q21.drew | exact q30.drew))
      (first
        | (go_at_call 35; (with_reducible refine (hT1.out _ q9.drew).mono ?_); clear hT1; rintro e w10 ⟨Aa, ca, rfl, ra, o10⟩; have q10 : Only No w7 w10 := q9.drew.trans o10)
        | (go_at_call 35; (with_reducible refine (hT1.out _ q20).mono ?_); clear hT1; rintro e w11 ⟨Aa, ca, rfl, ra, o11⟩; have q11 : Only No w7 w11 := q20.trans o11)
        | (go_at_call 35; (with_reducible refine (hT2.out _ q10).mono ?_); clear hT2; rintro e w21 ⟨Ab, cb, rfl, rb, o21⟩; have q21 : Only No w7 w21 := q10.trans o21)
        | (go_at_call 35; (with_reducible refine (hT2.out _ q9.drew).mono ?_); clear hT2; rintro e w20 ⟨Ab, cb, rfl, rb, o20⟩; have q20 : Only No w7 w20 := q9.drew.trans o20)
        | (go_at_call 19; (with_reducible refine (hA5.out _ _ _ _ _ (ra _ o21) (rb _ (Only.refl No w21))).mono ?_); rintro e w30 ⟨rfl, o30⟩; have q30 : Only No w7 w30 := q21.trans o30)
        | (go_at_call 19; (with_reducible refine (hA5.out _ _ _ _ _ (ra _ (Only.refl No w11)) (rb _ o11)).mono ?_); rintro e w30 ⟨rfl, o30⟩; have q30 : Only No w7 w30 := q11.trans o30))
    all_goals go_wp2_with fail
    all_goals go_meet
    all_goals exact ⟨rfl, rfl, Lib.hid (by first | exact q30 | exact q30.drew)⟩
  case rest =>
    clear q9
    obtain ⟨rfl, rfl, hO⟩ := hcut
    have q9 := hO.out
    clear hO
    go_wp2_with fail
    go_cut [12, 13] from 43 to 50 (fun s1 s2 wx => s1 = .float .f64 Y ∧ s2 = .int .i64 E ∧ Hid (Only No w7 wx))
    case first =>
      go_region_held3 (fun w' => Only No w7 w' ∧ w'.cell? ⟨w.heap.size, 0, none⟩ = some (.int .i64 W) ∧ w'.cell? ⟨w.heap.size, 1, none⟩ = some (.int .i64 H) ∧ w'.cell? ⟨w.heap.size, 2, none⟩ = some (.int .i64 C) ∧ w'.cell? ⟨w.heap.size, 3, none⟩ = some (.slice A l.length c) ∧ w'.cell? ⟨w.heap.size + 1, 0, none⟩ = some (.int .i64 W2) ∧ w'.cell? ⟨w.heap.size + 1, 1, none⟩ = some (.int .i64 H2) ∧ w'.cell? ⟨w.heap.size + 1, 2, none⟩ = some (.int .i64 C2) ∧ w'.cell? ⟨w.heap.size + 1, 3, none⟩ = some (.slice A2 l2.length c2))
        (first
          | (refine ⟨?_, hS.out _ ?_⟩ <;> first | exact q9 | exact q9.drew | exact q10 | exact q11 | exact q20 | exact q21 | exact q30 | exact q10.drew | exact q11.drew | exact q20.drew | exact q21.drew | exact q30.drew))
        (first
          | (go_at_call 35; (with_reducible refine (hT2.out _ q9.drew).mono ?_); clear hT2; rintro e w10 ⟨Aa, ca, rfl, ra, o10⟩; have q10 : Only No w7 w10 := q9.drew.trans o10)
          | (go_at_call 35; (with_reducible refine (hT2.out _ q20).mono ?_); clear hT2; rintro e w11 ⟨Aa, ca, rfl, ra, o11⟩; have q11 : Only No w7 w11 := q20.trans o11)
          | (go_at_call 35; (with_reducible refine (hT1.out _ q10).mono ?_); clear hT1; rintro e w21 ⟨Ab, cb, rfl, rb, o21⟩; have q21 : Only No w7 w21 := q10.trans o21)
          | (go_at_call 35; (with_reducible refine (hT1.out _ q9.drew).mono ?_); clear hT1; rintro e w20 ⟨Ab, cb, rfl, rb, o20⟩; have q20 : Only No w7 w20 := q9.drew.trans o20)
          | (go_at_call 19; (with_reducible refine (hA6.out _ _ _ _ _ (ra _ o21) (rb _ (Only.refl No w21))).mono ?_); rintro e w30 ⟨rfl, o30⟩; have q30 : Only No w7 w30 := q21.trans o30)
          | (go_at_call 19; (with_reducible refine (hA6.out _ _ _ _ _ (ra _ (Only.refl No w11)) (rb _ o11)).mono ?_); rintro e w30 ⟨rfl, o30⟩; have q30 : Only No w7 w30 := q11.trans o30))
      all_goals go_wp2_with fail
      all_goals go_meet
      all_goals exact ⟨rfl, rfl, Lib.hid (by first | exact q30 | exact q30.drew)⟩
    case rest =>
      clear q9
      obtain ⟨rfl, rfl, hO⟩ := hcut
      have q9 := hO.out
      clear hO
      go_wp2_with fail
      go_cut [14, 15] from 51 to 58 (fun s1 s2 wx => s1 = .int .i64 K ∧ s2 = .int .i64 E ∧ Hid (Only No w7 wx))
      case first =>
        go_region_held3 (fun w' => Only No w7 w' ∧ w'.cell? ⟨w.heap.size, 0, none⟩ = some (.int .i64 W) ∧ w'.cell? ⟨w.heap.size, 1, none⟩ = some (.int .i64 H) ∧ w'.cell? ⟨w.heap.size, 2, none⟩ = some (.int .i64 C) ∧ w'.cell? ⟨w.heap.size, 3, none⟩ = some (.slice A l.length c) ∧ w'.cell? ⟨w.heap.size + 1, 0, none⟩ = some (.int .i64 W2) ∧ w'.cell? ⟨w.heap.size + 1, 1, none⟩ = some (.int .i64 H2) ∧ w'.cell? ⟨w.heap.size + 1, 2, none⟩ = some (.int .i64 C2) ∧ w'.cell? ⟨w.heap.size + 1, 3, none⟩ = some (.slice A2 l2.length c2))
          (first
            | (refine ⟨?_, hS.out _ ?_⟩ <;> first | exact q9 | exact q9.drew | exact q10 | exact q11 | exact q20 | exact q21 | exact q30 | exact q10.drew | exact q11.drew | exact q20.drew | exact q21.drew | exact q30.drew))
          (first
            | (go_at_call 35; (with_reducible refine (hT1.out _ q9.drew).mono ?_); clear hT1; rintro e w10 ⟨Aa, ca, rfl, ra, o10⟩; have q10 : Only No w7 w10 := q9.drew.trans o10)
            | (go_at_call 35; (with_reducible refine (hT1.out _ q20).mono ?_); clear hT1; rintro e w11 ⟨Aa, ca, rfl, ra, o11⟩; have q11 : Only No w7 w11 := q20.trans o11)
            | (go_at_call 35; (with_reducible refine (hT2.out _ q10).mono ?_); clear hT2; rintro e w21 ⟨Ab, cb, rfl, rb, o21⟩; have q21 : Only No w7 w21 := q10.trans o21)
            | (go_at_call 35; (with_reducible refine (hT2.out _ q9.drew).mono ?_); clear hT2; rintro e w20 ⟨Ab, cb, rfl, rb, o20⟩; have q20 : Only No w7 w20 := q9.drew.trans o20)
            | (go_at_call 21; (with_reducible refine (hA7.out _ _ _ _ _ (ra _ o21) (rb _ (Only.refl No w21))).mono ?_); rintro e w30 ⟨rfl, o30⟩; have q30 : Only No w7 w30 := q21.trans o30)
            | (go_at_call 21; (with_reducible refine (hA7.out _ _ _ _ _ (ra _ (Only.refl No w11)) (rb _ o11)).mono ?_); rintro e w30 ⟨rfl, o30⟩; have q30 : Only No w7 w30 := q11.trans o30))
        all_goals go_wp2_with fail
        all_goals go_meet
        all_goals exact ⟨rfl, rfl, Lib.hid (by first | exact q30 | exact q30.drew)⟩
      case rest =>
        clear q9
        obtain ⟨rfl, rfl, hO⟩ := hcut
        have q9 := hO.out
        clear hO
        go_wp2_with fail
        have hS4 : ∀ w' : World, Only No w7 w' → w'.cell? ⟨w.heap.size, 0, none⟩ = some (.int .i64 W) ∧ w'.cell? ⟨w.heap.size, 1, none⟩ = some (.int .i64 H) ∧ w'.cell? ⟨w.heap.size, 2, none⟩ = some (.int .i64 C) ∧ w'.cell? ⟨w.heap.size, 3, none⟩ = some (.slice A l.length c) := fun w' ho => by
          obtain ⟨a1, a2, a3, a4, _⟩ := hS.out w' ho
          exact ⟨a1, a2, a3, a4⟩
        go_cut [16, 17] from 59 to 66 (fun s1 s2 wx => s1 = .float .f64 Z ∧ s2 = .int .i64 E2 ∧ Hid (Only No w7 wx))
        case first =>
          go_region_held3 (fun w' => Only No w7 w' ∧ w'.cell? ⟨w.heap.size, 0, none⟩ = some (.int .i64 W) ∧ w'.cell? ⟨w.heap.size, 1, none⟩ = some (.int .i64 H) ∧ w'.cell? ⟨w.heap.size, 2, none⟩ = some (.int .i64 C) ∧ w'.cell? ⟨w.heap.size, 3, none⟩ = some (.slice A l.length c))
            (first
              | (refine ⟨?_, hS4 _ ?_⟩ <;> first | exact q9 | exact q9.drew | exact q10 | exact q11 | exact q20 | exact q21 | exact q30 | exact q10.drew | exact q11.drew | exact q20.drew | exact q21.drew | exact q30.drew))
            (first
              | (go_at_call 35; (with_reducible refine (hT1.out _ q10).mono ?_); clear hT1; rintro e w21 ⟨Ab, cb, rfl, rb, o21⟩; have q21 : Only No w7 w21 := q10.trans o21)
              | (go_at_call 35; (with_reducible refine (hT1.out _ q9.drew).mono ?_); rintro e w10 ⟨Aa, ca, rfl, ra, o10⟩; have q10 : Only No w7 w10 := q9.drew.trans o10)
              | (go_at_call 19; (with_reducible refine (hA8.out _ _ _ _ _ (ra _ o21) (rb _ (Only.refl No w21))).mono ?_); rintro e w30 ⟨rfl, o30⟩; have q30 : Only No w7 w30 := q21.trans o30)
              | (go_at_call 19; (with_reducible refine (hA8.out _ _ _ _ _ (rb _ (Only.refl No w21)) (ra _ o21)).mono ?_); rintro e w30 ⟨rfl, o30⟩; have q30 : Only No w7 w30 := q21.trans o30))
          all_goals go_wp2_with fail
          all_goals go_meet
          all_goals exact ⟨rfl, rfl, Lib.hid (by first | exact q30 | exact q30.drew)⟩
        case rest =>
          clear q9
          obtain ⟨rfl, rfl, hO⟩ := hcut
          have q9 := hO.out
          clear hO
          have Q9 := Lib.hid q9
          obtain ⟨a1, a2, a3, a4, a5, a6, a7, a8⟩ := hS.out _ q9
          clear q9 hT1 hT2 hA5 hA6 hA7 hA8 hS4
          have dE : (E != E) = false := by simp
          by_cases hE0 : E = 0
          · obtain ⟨e1, e2, e3, hn, hm, hpos, hle⟩ := pairE_zero (HE.out ▸ hE0)
            have f2 : Hid (E2 = 0) := by
              rw [HE2.out]
              unfold Hid pairE
              have : mayB W H C l.length = true := decide_eq_true hm
              simp [this]
            have fX : X = apartP l l2 := by rw [HX.out, ← HE.out, if_pos hE0]
            have fY : Y = apartP l l2 := by rw [HY.out, ← pairE_symm, ← HE.out, if_pos hE0, apartP_symm hn]
            have fZ : Z = apartP l l := by rw [HZ.out, ← HE2.out, if_pos f2.out]
            have fK : K = pkK l l2 l.length := by rw [HK.out, ← HE.out, if_pos hE0]
            have hS36 := fun w' (ho : Only No w7 w') => same36 w' W H C A c l W2 H2 C2 A2 c2 l2 (HR.out.no (O7.out.trans ho)) (HR2.out.no (O7.out.trans ho)) hl HB.out HB2.out
            rw [show decide (W = W2 ∧ H = H2 ∧ C = C2 ∧ l = l2) = decide (l = l2) by simp [e1, e2, e3]] at hS36
            replace hS36 := Lib.hid hS36
            have dZ : FloatKind.f64.format.order Z 0 = some .eq := by
              rw [fZ]; exact (apart_0 HB.out HB.out hpos hle).1 (sqK_self _ _)
            have hnX : ¬ NaN X := by rw [fX]; exact fin_not_nan (apart_bits HB.out HB2.out hpos hle).2.1
            have dX : FloatKind.f64.format.order X X = some .eq := order_refl hnX
            obtain rfl : X = Y := by rw [fX, fY]
            have k0 : 0 ≤ K ∧ K ≤ 255 := by rw [fK]; exact pkK_le HB.out HB2.out _
            have kk : 0 ≤ K * K ∧ K * K ≤ 65025 := ⟨Int.mul_nonneg k0.1 k0.1, Int.mul_le_mul (c := 255) (d := 255) k0.2 k0.2 k0.1 (by omega)⟩
            obtain ⟨kk0, kk1⟩ := kk
            have hM := cap_bits k0.1 k0.2
            have hcap : ord X (capP K) = some .lt ∨ ord X (capP K) = some .eq := by rw [fX, fK]; exact apart_cap HB.out HB2.out hpos hle
            have hz := apart_0 HB.out HB2.out hpos hle
            have hpk := pk_zero (l := l) (l2 := l2) hn
            have hmul : ∀ w, (binOp .mul 25 (.float .f64 (floatOfInt .f64 (K * K))) (.float .f64 4607182419250377371)).run Try.prog w = .ok (.float .f64 (capP K)) w := fun w => run_float_arith w .mul 25 .f64 _ _ _ hM.1
            clear hM
            generalize capP K = M at *
            obtain rfl : E2 = 0 := f2.out
            by_cases hll : l = l2
            · have d1 : FloatKind.f64.format.order X 0 = some .eq := by
                rw [fX]; refine hz.1 ?_; rw [← hll]; exact sqK_self _ _
              have d2 : K = 0 := by rw [fK]; exact hpk.2 hll
              have d3 : decide (l = l2) = true := decide_eq_true hll
              rw [d3] at hS36
              have d4 : (K == 0) = true := by simp [d2]
              replace d2 := Lib.hid d2
              replace hll := Lib.hid hll
              clear hz hpk fX fY fZ fK d3 e1 e2 e3 hn hm hnX
              replace hE0 : E = 0 := hE0
              subst hE0
              rcases hcap with hcap | hcap
              all_goals
                replace hcap : FloatKind.f64.format.order X M = _ := hcap
                go_wp2_with fail
                refine (hS36.out _ Q9.out).mono ?_
                rintro e w10 ⟨rfl, o10⟩
                have O10 := Lib.hid (O7.out.trans (Q9.out.trans o10))
                clear o10
                go_wp2_with fail
                go_ret
                exact ⟨rfl, O10.out⟩
            · have hs0 : sqK l l2 l.length ≠ 0 := fun h => hll (same_of_zero hn h)
              have d1 : FloatKind.f64.format.order X 0 = some .gt := by rw [fX]; exact hz.2 hs0
              have d2 : K ≠ 0 := by rw [fK]; exact fun h => hll (hpk.1 h)
              have d3 : decide (l = l2) = false := decide_eq_false hll
              rw [d3] at hS36
              have d4 : (K == 0) = false := by simpa using d2
              replace d2 := Lib.hid d2
              replace hll := Lib.hid hll
              clear hz hpk fX fY fZ fK d3 e1 e2 e3 hn hm hnX hs0
              replace hE0 : E = 0 := hE0
              subst hE0
              rcases hcap with hcap | hcap
              all_goals
                replace hcap : FloatKind.f64.format.order X M = _ := hcap
                go_wp2_with fail
                refine (hS36.out _ Q9.out).mono ?_
                rintro e w10 ⟨rfl, o10⟩
                have O10 := Lib.hid (O7.out.trans (Q9.out.trans o10))
                clear o10
                go_wp2_with fail
                go_ret
                exact ⟨rfl, O10.out⟩
          · have d1 : (E != 0) = true := by simpa using hE0
            replace hE0 := Lib.hid hE0
            by_cases hE2 : E2 = 0
            · obtain ⟨_, _, _, _, _, hpos, hle⟩ := pairE_zero (HE2.out ▸ hE2)
              have dZ : FloatKind.f64.format.order Z 0 = some .eq := by
                rw [HZ.out, ← HE2.out, if_pos hE2]; exact (apart_0 HB.out HB.out hpos hle).1 (sqK_self _ _)
              subst hE2
              go_wp2_with fail
              go_ret
              exact ⟨rfl, O7.out.trans Q9.out⟩
            · have d2 : (E2 == 0) = false := by simpa using hE2
              replace hE2 := Lib.hid hE2
              go_wp2_with fail
              go_ret
              exact ⟨rfl, O7.out.trans Q9.out⟩
end Go.Proofs.Ytfaciljklligeaa.Ct
