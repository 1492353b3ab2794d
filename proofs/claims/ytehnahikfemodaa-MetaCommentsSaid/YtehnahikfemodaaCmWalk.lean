/- MetaComments' walk. -/
import Derived.Test.YtehnahikfemodaaKept
namespace Go.Proofs.Ytehnahikfemodaa.Ct
open Go.ChangeShapes Go.WideShapes Go.RowKit Mm

/-- what is not written over -/
structure Kp (w wr : World) (G : Nat) (v0 v1 v2 v3 v5 v7 : Value) (m : Nat) (C : List ByteArray) (l : List Ex) : Prop where
  got : Blk wr G 23 #[v0, v1, v2, v3]
  r1 : wr.ownsRow 0 9 1 v1 C.length (stC C)
  r3 : wr.ownsRow 0 9 1 v3 C.length (stC C)
  r5 : wr.ownsRow 0 9 1 v5 C.length (stC C)
  r7 : wr.ownsRow 0 36 2 v7 (m + 12) (exC (l ++ List.replicate 12 mark))
  only : Only No w wr
/-- a block that may be written to -/
structure May (w : World) (G : Nat) (v1 v3 v5 v7 : Value) (k : Nat) : Prop where
  g : G ≠ k
  h1 : ¬ v1.ownBlock = some k
  h3 : ¬ v3.ownBlock = some k
  h5 : ¬ v5.ownBlock = some k
  h7 : ¬ v7.ownBlock = some k
  ge : w.heap.size ≤ k
theorem Kp.far {w wr w' : World} {G : Nat} {v0 v1 v2 v3 v5 v7 : Value} {m : Nat} {C : List ByteArray} {l : List Ex} {S : Nat → Prop} (h : Kp w wr G v0 v1 v2 v3 v5 v7 m C l) (ho : Only S wr w') (hS : ∀ k, S k → May w G v1 v3 v5 v7 k) : Kp w w' G v0 v1 v2 v3 v5 v7 m C l :=
  ⟨h.got.only ho fun e => (hS _ e).g rfl, own_only h.r1 ho fun i hi e => (hS i e).h1 hi, own_only h.r3 ho fun i hi e => (hS i e).h3 hi, own_only h.r5 ho fun i hi e => (hS i e).h5 hi, own_only h.r7 ho fun i hi e => (hS i e).h7 hi, h.only.then ho fun i e => .inr (hS i e).ge⟩
theorem own_zero {w : World} {b : Nat} {e : TypeId} {size n : Nat} {v : Value} {xs : List Value} (h : w.ownsRow b e size v n xs) : w.ownsRow 0 e size v n xs := own_base h fun _ _ => Nat.zero_le _
abbrev mk : ByteArray := { data := #[109, 97, 114, 107] }
abbrev mo : ByteArray := { data := #[109, 111, 114, 101] }
theorem rep_step {α : Type} (l : List α) (i : Nat) (x : α) (h : i < l.length) : (List.replicate i x ++ l.drop i).set i x = List.replicate (i + 1) x ++ l.drop (i + 1) := by
  rw [List.drop_eq_getElem_cons h, List.set_append_right _ _ (by simp), List.length_replicate, Nat.sub_self, List.set_cons_zero, List.replicate_succ', List.append_assoc]
  rfl
theorem stC_set (l : List ByteArray) (i : Nat) (x : ByteArray) : (stC l).set i (.string x) = stC (l.set i x) := by
  unfold stC; rw [List.map_set]
theorem stC_append (l m : List ByteArray) : stC (l ++ m) = stC l ++ stC m := by simp [stC]
theorem stC_len (l : List ByteArray) : (stC l).length = l.length := by simp [stC]

section
variable (w W : World) (G : Nat) (v0 v1 v2 v3 v5 v7 : Value) (m : Nat) (C O : List ByteArray) (l : List Ex) (v12 : Value) (wq : World)
def St0 : Prop := Kp w wq G v0 v1 v2 v3 v5 v7 m C l ∧ wq.ownsRow 0 9 1 v0 C.length (stC C) ∧ wq.ownsRow 0 9 1 v2 O.length (stC O) ∧ W.heap.size ≤ wq.heap.size
def St1 : Prop := ∃ LA Lc, Kp w wq G v0 v1 v2 v3 v5 v7 m C l ∧ wq.ownsRow 0 9 1 v2 O.length (stC O) ∧ wq.ownsRow 0 9 1 (.slice LA (C.length + 9) Lc) (C.length + 9) (stC (List.replicate C.length mk ++ List.replicate 9 mo)) ∧ wq.ownsRow 0 23 1 v12 1 [.slice LA (C.length + 9) Lc] ∧ (∀ b, (Value.slice LA (C.length + 9) Lc).ownBlock = some b → v0.ownBlock = some b ∨ W.heap.size ≤ b) ∧ (∀ b, v12.ownBlock = some b → W.heap.size ≤ b) ∧ W.heap.size ≤ wq.heap.size
def St2 : Prop := ∃ LA Lc LB Ld, Kp w wq G v0 v1 v2 v3 v5 v7 m C l ∧ wq.ownsRow 0 9 1 (.slice LA (C.length + 9) Lc) (C.length + 9) (stC (List.replicate C.length mk ++ List.replicate 9 mo)) ∧ wq.ownsRow 0 9 1 (.slice LB (O.length + 9) Ld) (O.length + 9) (stC (List.replicate O.length mk ++ List.replicate 9 mo)) ∧ wq.ownsRow 0 23 1 v12 2 [.slice LA (C.length + 9) Lc, .slice LB (O.length + 9) Ld]
end
set_option maxRecDepth 100000 in
set_option maxHeartbeats 6400000 in
theorem comments_law (A B : Option Addr) (m m2 c d : Nat) (l o : List Ex) (w : World) (hr : Rds w 2 A m (exC l)) (hl : l.length = m) (hm : m * 24 ≤ 140737488351232)
    (hr2 : Rds w 2 B m2 (exC o)) (hl2 : o.length = m2) (hm2 : m2 * 24 ≤ 140737488351232) :
    Calls Try.prog 3 #[.slice A m c, .slice B m2 d] w (fun e w' => e = .returned (.bool true) ∧ Below w.heap.size w w') := by
  obtain ⟨i0, hi0, hz0, hz1, hz2⟩ := info_parts info9
  obtain ⟨i3, hi3, hy0, hy1, hy2⟩ := info_parts info23
  have HR := Lib.hid hr
  have HL := Lib.hid hl
  have HR2 := Lib.hid hr2
  have HL2 := Lib.hid hl2
  have cl := cms_le l
  have co := cms_le o
  rw [hl] at cl
  rw [hl2] at co
  clear hr hl hr2 hl2
  obtain ⟨C, hC⟩ : ∃ C, Hid (C = cms l) := ⟨_, Lib.hid rfl⟩
  obtain ⟨O, hO⟩ : ∃ O, Hid (O = cms o) := ⟨_, Lib.hid rfl⟩
  rw [← hC.out] at cl
  rw [← hO.out] at co
  go_enter Try.func3, Try.ntmps3
  go_wp2_with fail
  refine (rcomm_any A m c l w HR.out HL.out hm).mono ?_
  rintro e w1 ⟨v5, rfl, h5, o1⟩
  rw [← hC.out] at h5
  obtain ⟨A5, c5, rfl⟩ := own_slice h5
  have l5 := Lib.hid (own_lt h5)
  go_wp2_with fail
  refine (rcomm_any B m2 d o w1 (HR2.out.no o1) HL2.out hm2).mono ?_
  rintro e w2 ⟨v6, rfl, h6, o2⟩
  rw [← hO.out] at h6
  obtain ⟨A6, c6, rfl⟩ := own_slice h6
  have l6 := Lib.hid (own_lt h6)
  replace h5 := Lib.hid (own_only h5 o2 (fun _ _ => id))
  have on2 := Lib.hid (o1.trans o2)
  have z12 := Lib.hid o2.size
  clear o1 o2
  go_wp2_with fail
  refine (twin_any A m c l w2 (HR.out.no on2.out) HL.out hm).mono ?_
  rintro e w3 ⟨g7, c7, rfl, hc7, h7, o3⟩
  have l7 := Lib.hid (own_lt h7)
  have b7 := Lib.hid (own_ge h7)
  have h57 := Lib.hid (own_only h5.out o3 (fun _ _ => id))
  have h67 := Lib.hid (own_only h6 o3 (fun _ _ => id))
  have hm7 : Hid (Rds w3 2 (some ⟨g7, 0, none⟩) m (exC l)) := Lib.hid (by
    have ha := Rds.of_own h7
    refine ⟨by rw [exC_len, HL.out], fun h0 => ?_⟩
    obtain ⟨ad, e, hb', hcell⟩ := ha.2 (by omega)
    refine ⟨ad, e, hb', fun j u hu => hcell j u ?_⟩
    rw [exC_append, List.getElem?_append_left (List.getElem?_eq_some_iff.1 hu).1]
    exact hu)
  replace h7 := Lib.hid h7
  have on3 := Lib.hid (on2.out.trans o3)
  have zz13 : Hid (w1.heap.size ≤ w3.heap.size) := Lib.hid (Nat.le_trans z12.out o3.size)
  clear o3 h5 h6 on2
  go_wp2_with fail
  refine (comm_any (some ⟨g7, 0, none⟩) m c7 l w3 hm7.out HL.out hm).mono ?_
  rintro e w4 ⟨v0, rfl, r0, o4⟩
  rw [← hC.out] at r0
  obtain ⟨A0, c0, rfl⟩ := own_slice r0
  have k0 := Lib.hid (own_lt r0)
  have b0 := Lib.hid (own_ge r0)
  replace r0 := Lib.hid r0
  go_wp2_with fail
  refine (comm_any (some ⟨g7, 0, none⟩) m c7 l w4 (hm7.out.no o4) HL.out hm).mono ?_
  rintro e w5 ⟨v1, rfl, r1, o5⟩
  rw [← hC.out] at r1
  obtain ⟨A1, c1, rfl⟩ := own_slice r1
  have k1 := Lib.hid (own_lt r1)
  have b1 := Lib.hid (own_ge r1)
  replace r1 := Lib.hid r1
  have on35 := Lib.hid (o4.trans o5)
  replace o5 := Lib.hid o5
  have z4 := Lib.hid o4.size
  clear o4
  go_wp2_with fail
  refine (twin_any B m2 d o w5 (HR2.out.no (on3.out.trans on35.out)) HL2.out hm2).mono ?_
  rintro e w6 ⟨g32, c32, rfl, hc32, h32, o6⟩
  have hm32 : Hid (Rds w6 2 (some ⟨g32, 0, none⟩) m2 (exC o)) := Lib.hid (by
    have ha := Rds.of_own h32
    refine ⟨by rw [exC_len, HL2.out], fun h0 => ?_⟩
    obtain ⟨ad, e, hb', hcell⟩ := ha.2 (by omega)
    refine ⟨ad, e, hb', fun j u hu => hcell j u ?_⟩
    rw [exC_append, List.getElem?_append_left (List.getElem?_eq_some_iff.1 hu).1]
    exact hu)
  have on36 := Lib.hid (on35.out.trans o6)
  have on56 := Lib.hid o6
  clear o6 h32 on35
  go_wp2_with fail
  refine (comm_any (some ⟨g32, 0, none⟩) m2 c32 o w6 hm32.out HL2.out hm2).mono ?_
  rintro e w7 ⟨v2, rfl, r2, o7⟩
  rw [← hO.out] at r2
  obtain ⟨A2, c2, rfl⟩ := own_slice r2
  have k2 := Lib.hid (own_lt r2)
  have b2 := Lib.hid (own_ge r2)
  replace r2 := Lib.hid r2
  have on37 := Lib.hid (on36.out.trans o7)
  have on57 := Lib.hid (on56.out.trans o7)
  clear o7 on36 hm32
  go_wp2_with fail
  refine (comm_any (some ⟨g7, 0, none⟩) m c7 l w7 (hm7.out.no on37.out) HL.out hm).mono ?_
  rintro e w8 ⟨v3, rfl, r3, o8⟩
  rw [← hC.out] at r3
  obtain ⟨A3, c3, rfl⟩ := own_slice r3
  have k3 := Lib.hid (own_lt r3)
  have b3 := Lib.hid (own_ge r3)
  replace r3 := Lib.hid r3
  have on38 := Lib.hid (on37.out.trans o8)
  have on58 := Lib.hid (on57.out.trans o8)
  have on78 := Lib.hid o8
  have z5 := Lib.hid o5.out.size
  have z6 := Lib.hid on56.out.size
  have z58 := Lib.hid on58.out.size
  have z57 := Lib.hid on57.out.size
  have z8 := Lib.hid o8.size
  have z3 := Lib.hid on3.out.size
  clear o8 on37 on57 on56
  go_wp2_with fail
  have zz7 := Lib.hid on78.out.size
  obtain ⟨W9, hW9⟩ : ∃ W9, W9 = (w8.alloc (.cells #[.slice A0 C.length c0, .slice A1 C.length c1, .slice A2 O.length c2, .slice A3 C.length c3] 23)).alloc (.cells #[.slice A5 C.length c5, .slice A5 C.length c5, .slice A6 O.length c6, .slice A5 C.length c5] 23) := ⟨_, rfl⟩
  rw [← hW9]
  have on89 : Hid (Only No w8 W9) := Lib.hid (by rw [hW9]; exact ((Only.refl _ _).alloc _).alloc _)
  have hg8 : Hid (Blk W9 w8.heap.size 23 #[.slice A0 C.length c0, .slice A1 C.length c1, .slice A2 O.length c2, .slice A3 C.length c3]) := Lib.hid (by rw [hW9]; exact (Blk.new _ _ _).alloc _)
  have hg9 : Hid (Blk W9 (w8.heap.size + 1) 23 #[.slice A5 C.length c5, .slice A5 C.length c5, .slice A6 O.length c6, .slice A5 C.length c5]) := Lib.hid (by rw [hW9]; exact blk_new2 _ _ _ _)
  have z9 : Hid (W9.heap.size = w8.heap.size + 2) := Lib.hid (by rw [hW9]; simp)
  obtain ⟨G, hG⟩ : ∃ G, G = w8.heap.size := ⟨_, rfl⟩
  rw [← hG] at hg8 hg9 z9 ⊢
  replace hG := Lib.hid hG
  have on09 := Lib.hid ((on3.out.trans on38.out).trans on89.out)
  have R0 := Lib.hid (own_only (own_only (own_only (own_zero r0.out) o5.out (fun _ _ => id)) on58.out (fun _ _ => id)) on89.out (fun _ _ => id))
  have R1 := Lib.hid (own_only (own_only (own_zero r1.out) on58.out (fun _ _ => id)) on89.out (fun _ _ => id))
  have R2 := Lib.hid (own_only (own_only (own_zero r2.out) on78.out (fun _ _ => id)) on89.out (fun _ _ => id))
  have R3 := Lib.hid (own_only (own_zero r3.out) on89.out (fun _ _ => id))
  have R5 := Lib.hid (own_only (own_only (own_zero h57.out) on38.out (fun _ _ => id)) on89.out (fun _ _ => id))
  have R6 := Lib.hid (own_only (own_only (own_zero h67.out) on38.out (fun _ _ => id)) on89.out (fun _ _ => id))
  have R7 := Lib.hid (own_only (own_only (own_zero h7.out) on38.out (fun _ _ => id)) on89.out (fun _ _ => id))
  clear hW9 r0 r1 r2 r3 h57 h67 h7
  go_loopw [10] (fun v10 wr => ∃ i : Nat, v10 = .int .i64 i ∧ i ≤ 4 ∧ Hid (Only No W9 wr)) (fun v10 _ => 4 - (intOf v10).toNat)
  case atStart => exact ⟨0, rfl, by omega, Lib.hid (Only.refl _ _)⟩
  case round =>
    obtain ⟨i, rfl, hi, hO⟩ := hrel
    have q8 := hg8.out.only hO.out id
    have q9 := hg9.out.only hO.out id
    by_cases hlt : i < 4
    · have hi4 : i = 0 ∨ i = 1 ∨ i = 2 ∨ i = 3 := by omega
      clear hi hlt
      rcases hi4 with rfl | rfl | rfl | rfl
      · have g0 : wr.cell? ⟨G, 0, none⟩ = some (.slice A0 C.length c0) := q8.cell 0
        have g1 : wr.cell? ⟨G + 1, 0, none⟩ = some (.slice A5 C.length c5) := q9.cell 0
        have P1 := Lib.hid (Rds.of_own (own_only R0.out hO.out (fun _ _ => id)))
        have P2 := Lib.hid (Rds.of_own (own_only R5.out hO.out (fun _ _ => id)))
        clear q8 q9
        go_wp2_with fail
        go_quiet ((go_at_call 13; exact Calls.quiet_of (texts_q _ _ _ _ C _ _ (P1.out.no ((Only.refl No _).drewN _)) (P2.out.no ((Only.refl No _).drewN _)) rfl (by omega))))
        go_wp2
        go_roundw
        case rel => exact ⟨1, by go_num, by omega, Lib.hid (by first | exact hO.out | exact hO.out.drewN _)⟩
        case measure => simp [intOf]
      · have g0 : wr.cell? ⟨G, 1, none⟩ = some (.slice A1 C.length c1) := q8.cell 1
        have g1 : wr.cell? ⟨G + 1, 1, none⟩ = some (.slice A5 C.length c5) := q9.cell 1
        have P1 := Lib.hid (Rds.of_own (own_only R1.out hO.out (fun _ _ => id)))
        have P2 := Lib.hid (Rds.of_own (own_only R5.out hO.out (fun _ _ => id)))
        clear q8 q9
        go_wp2_with fail
        go_quiet ((go_at_call 13; exact Calls.quiet_of (texts_q _ _ _ _ C _ _ (P1.out.no ((Only.refl No _).drewN _)) (P2.out.no ((Only.refl No _).drewN _)) rfl (by omega))))
        go_wp2
        go_roundw
        case rel => exact ⟨2, by go_num, by omega, Lib.hid (by first | exact hO.out | exact hO.out.drewN _)⟩
        case measure => simp [intOf]
      · have g0 : wr.cell? ⟨G, 2, none⟩ = some (.slice A2 O.length c2) := q8.cell 2
        have g1 : wr.cell? ⟨G + 1, 2, none⟩ = some (.slice A6 O.length c6) := q9.cell 2
        have P1 := Lib.hid (Rds.of_own (own_only R2.out hO.out (fun _ _ => id)))
        have P2 := Lib.hid (Rds.of_own (own_only R6.out hO.out (fun _ _ => id)))
        clear q8 q9
        go_wp2_with fail
        go_quiet ((go_at_call 13; exact Calls.quiet_of (texts_q _ _ _ _ O _ _ (P1.out.no ((Only.refl No _).drewN _)) (P2.out.no ((Only.refl No _).drewN _)) rfl (by omega))))
        go_wp2
        go_roundw
        case rel => exact ⟨3, by go_num, by omega, Lib.hid (by first | exact hO.out | exact hO.out.drewN _)⟩
        case measure => simp [intOf]
      · have g0 : wr.cell? ⟨G, 3, none⟩ = some (.slice A3 C.length c3) := q8.cell 3
        have g1 : wr.cell? ⟨G + 1, 3, none⟩ = some (.slice A5 C.length c5) := q9.cell 3
        have P1 := Lib.hid (Rds.of_own (own_only R3.out hO.out (fun _ _ => id)))
        have P2 := Lib.hid (Rds.of_own (own_only R5.out hO.out (fun _ _ => id)))
        clear q8 q9
        go_wp2_with fail
        go_quiet ((go_at_call 13; exact Calls.quiet_of (texts_q _ _ _ _ C _ _ (P1.out.no ((Only.refl No _).drewN _)) (P2.out.no ((Only.refl No _).drewN _)) rfl (by omega))))
        go_wp2
        go_roundw
        case rel => exact ⟨4, by go_num, by omega, Lib.hid (by first | exact hO.out | exact hO.out.drewN _)⟩
        case measure => simp [intOf]

    · obtain rfl : i = 4 := by omega
      obtain ⟨W, rfl⟩ : ∃ W : World, W = wr := ⟨_, rfl⟩
      have S0 := Lib.hid (own_only R0.out hO.out (fun _ _ => id))
      have S2 := Lib.hid (own_only R2.out hO.out (fun _ _ => id))
      have hK : Hid (Kp w W G (.slice A0 C.length c0) (.slice A1 C.length c1) (.slice A2 O.length c2) (.slice A3 C.length c3) (.slice A5 C.length c5) (.slice (some ⟨g7, 0, none⟩) (m + 12) c7) m C l) := Lib.hid
        ⟨q8, own_only R1.out hO.out (fun _ _ => id), own_only R3.out hO.out (fun _ _ => id), own_only R5.out hO.out (fun _ _ => id), own_only R7.out hO.out (fun _ _ => id), on09.out.trans hO.out⟩
      have z10 := Lib.hid hO.out.size
      have m0 : Hid (∀ k, (Value.slice A0 C.length c0).ownBlock = some k → May w G (.slice A1 C.length c1) (.slice A3 C.length c3) (.slice A5 C.length c5) (.slice (some ⟨g7, 0, none⟩) (m + 12) c7) k) := Lib.hid (fun k hk => by
        have e1 := k0.out k hk
        have e2 := b0.out k hk
        have e3 := hG.out
        have e4 := z4.out
        have e5 := z5.out
        have e6 := z58.out
        have e7 := z3.out
        exact ⟨by omega, fun e => by have := b1.out k e; omega, fun e => by have := b3.out k e; have := z57.out; omega, fun e => by have := l5.out k e; have := zz13.out; omega, fun e => by have : g7 = k := Option.some.inj e; have := l7.out g7 rfl; omega, by omega⟩)
      have m2 : Hid (∀ k, (Value.slice A2 O.length c2).ownBlock = some k → May w G (.slice A1 C.length c1) (.slice A3 C.length c3) (.slice A5 C.length c5) (.slice (some ⟨g7, 0, none⟩) (m + 12) c7) k) := Lib.hid (fun k hk => by
        have e1 := k2.out k hk
        have e2 := b2.out k hk
        have e3 := hG.out
        have e4 := z4.out
        have e5 := z5.out
        have e6 := z58.out
        have e7 := z3.out
        have e8 := z6.out
        have e9 := zz7.out
        exact ⟨by omega, fun e => by have := k1.out k e; omega, fun e => by have := b3.out k e; omega, fun e => by have := l5.out k e; have := zz13.out; omega, fun e => by have : g7 = k := Option.some.inj e; have := l7.out g7 rfl; omega, by omega⟩)
      have mN : Hid (∀ k, W.heap.size ≤ k → May w G (.slice A1 C.length c1) (.slice A3 C.length c3) (.slice A5 C.length c5) (.slice (some ⟨g7, 0, none⟩) (m + 12) c7) k) := Lib.hid (fun k hk => by
        have e3 := hG.out
        have e4 := z4.out
        have e5 := z5.out
        have e6 := z58.out
        have e7 := z3.out
        have e8 := z6.out
        have e9 := zz7.out
        have ea := z9.out
        have eb := z10.out
        exact ⟨by omega, fun e => by have := k1.out k e; omega, fun e => by have := k3.out k e; omega, fun e => by have := l5.out k e; have := zz13.out; omega, fun e => by have : g7 = k := Option.some.inj e; have := l7.out g7 rfl; omega, by omega⟩)
      have n02 : Hid (∀ k, (Value.slice A0 C.length c0).ownBlock = some k → ¬ (Value.slice A2 O.length c2).ownBlock = some k) := Lib.hid (fun k hk hk2 => by have := k0.out k hk; have := b2.out k hk2; have := z5.out; have := z6.out; omega)
      have l0 : Hid (∀ k, (Value.slice A0 C.length c0).ownBlock = some k → k < W.heap.size) := Lib.hid (own_lt S0.out)
      have l2 : Hid (∀ k, (Value.slice A2 O.length c2).ownBlock = some k → k < W.heap.size) := Lib.hid (own_lt S2.out)
      clear q8 q9 hO hi hlt R0 R1 R2 R3 R5 R6 R7 hg8 hg9 on09 on89 on38 on58 on78 o5 k0 k1 k2 k3 b0 b1 b2 b3 hm7 on3
      go_wp2_with fail
      have z30 : Hid (W.heap.size ≤ W.heap.size) := Lib.hid (Nat.le_refl _)
      go_loopw [12, 13] (fun v12 v13 wq => (v13 = .int .i64 0 ∧ v12 = .slice none 0 0 ∧ St0 w W G (.slice A0 C.length c0) (.slice A1 C.length c1) (.slice A2 O.length c2) (.slice A3 C.length c3) (.slice A5 C.length c5) (.slice (some ⟨g7, 0, none⟩) (m + 12) c7) m C O l wq) ∨ (v13 = .int .i64 2 ∧ St1 w W G (.slice A0 C.length c0) (.slice A1 C.length c1) (.slice A2 O.length c2) (.slice A3 C.length c3) (.slice A5 C.length c5) (.slice (some ⟨g7, 0, none⟩) (m + 12) c7) m C O l v12 wq) ∨ (v13 = .int .i64 4 ∧ St2 w G (.slice A0 C.length c0) (.slice A1 C.length c1) (.slice A2 O.length c2) (.slice A3 C.length c3) (.slice A5 C.length c5) (.slice (some ⟨g7, 0, none⟩) (m + 12) c7) m C O l v12 wq)) (fun _ v13 _ => 4 - (intOf v13).toNat)
      case atStart => exact .inl ⟨rfl, rfl, ⟨hK.out, S0.out, S2.out, Nat.le_refl _⟩⟩
      case round =>
        rcases hrel with ⟨rfl, rfl, hst⟩ | ⟨rfl, hst⟩ | ⟨rfl, hst⟩
        · have hKB := Lib.hid hst.1
          have hV := Lib.hid hst.2.1
          have hV2 := Lib.hid hst.2.2.1
          have zWB := Lib.hid hst.2.2.2
          clear hst
          obtain ⟨wB, rfl⟩ : ∃ wB : World, wB = wr := ⟨_, rfl⟩
          go_wp2_with fail
          go_loopw [14] (fun v14 wq => ∃ k : Nat, v14 = .int .i64 k ∧ k ≤ C.length ∧ Hid (wq.ownsRow 0 9 1 (.slice A0 C.length c0) C.length (stC (List.replicate k mk ++ C.drop k)) ∧ Only (fun b => (Value.slice A0 C.length c0).ownBlock = some b) wB wq)) (fun v14 _ => C.length - (intOf v14).toNat)
          case atStart => exact ⟨0, rfl, by omega, Lib.hid ⟨by simpa using hV.out, Only.refl _ _⟩⟩
          case round =>
            obtain ⟨k, rfl, hk, hA⟩ := hrel
            have gc : wr.cell? ⟨G, 0, none⟩ = some (.slice A0 C.length c0) := (hKB.out.far hA.out.2 m0.out).got.cell 0
            by_cases hlt : k < C.length
            · have hlt' : (k : Int) < C.length := by omega
              obtain ⟨g, cc, he, _⟩ := own_some hA.out.1 (by omega)
              have e1 : A0 = some ⟨g, 0, none⟩ := by injection he
              replace he := Lib.hid he
              have f0 := hA.out.1
              rw [e1] at f0 gc
              have f1 := f0.frozenAt k
              obtain ⟨u0, hu0⟩ : ∃ u, wr.cell? ⟨g, k, none⟩ = some u := by
                rw [f0.cellAt k (by omega)]
                have hxl := f0.1
                exact ⟨_, List.getElem?_eq_getElem (by omega)⟩
              have hset := Lib.hid (show (wr.setCell ⟨g, k, none⟩ (.string mk)).ownsRow 0 9 1 (.slice A0 C.length c0) C.length (stC (List.replicate (k + 1) mk ++ C.drop (k + 1))) ∧ Only (fun b => (Value.slice A0 C.length c0).ownBlock = some b) wB (wr.setCell ⟨g, k, none⟩ (.string mk)) from ⟨by
                have h1 := (f0.stored k (.string mk)).1
                rw [stC_set, rep_step C k mk hlt] at h1
                rw [e1]; exact h1, hA.out.2.setCell (p := ⟨g, k, none⟩) (.inl (by rw [e1]; rfl)) _⟩)
              clear f0 e1 hA
              go_wp2
              go_roundw
              case rel => exact ⟨k + 1, by go_num, by omega, hset⟩
              case measure => simp [intOf]; omega
            · have hlt' : ¬ (k : Int) < C.length := by omega
              obtain rfl : k = C.length := by omega
              obtain ⟨wC, rfl⟩ : ∃ wC : World, wC = wr := ⟨_, rfl⟩
              have hC1 : Hid (wC.ownsRow 0 9 1 (.slice A0 C.length c0) C.length (stC (List.replicate C.length mk))) := Lib.hid (by
                have := hA.out.1
                rw [List.drop_of_length_le (Nat.le_refl _), List.append_nil] at this
                exact this)
              have oBC := Lib.hid hA.out.2
              have hKC := Lib.hid (hKB.out.far oBC.out m0.out)
              have zBC := Lib.hid oBC.out.size
              clear hA hk hlt
              go_wp2_with fail
              go_loopw [15, 16] (fun v15 v16 wq => ∃ j : Nat, v16 = .int .i64 j ∧ j ≤ 9 ∧ Hid (wq.ownsRow 0 9 1 v15 (C.length + j) (stC (List.replicate C.length mk ++ List.replicate j mo)) ∧ Only (fun b => (Value.slice A0 C.length c0).ownBlock = some b) wC wq ∧ (∀ b, v15.ownBlock = some b → (Value.slice A0 C.length c0).ownBlock = some b ∨ wC.heap.size ≤ b))) (fun _ v16 _ => 9 - (intOf v16).toNat)
              case atStart => exact ⟨0, rfl, by omega, Lib.hid ⟨by simpa using hC1.out, Only.refl _ _, fun b hb => .inl hb⟩⟩
              case round =>
                obtain ⟨j, rfl, hj, hB⟩ := hrel
                by_cases hlt : j < 9
                · have hlt2 : (j : Int) < 9 := by omega
                  go_wp2_with (at_builtin; go_loud (refine Mm.wpList_append_any _ rfl (.tmp 88) (.tmp 89) _ rfl 0 9 i0 _ 1 16 Try.underlying23 hi0 hz0 hz1 hz2 rfl (by omega) u15 (C.length + j) (stC (List.replicate C.length mk ++ List.replicate j mo)) rfl (hB.out.1.alloc _) (some ⟨wr.heap.size, 0, none⟩) 1 1 [.string mo] rfl (Rds.fresh (Blk.new _ _ _) rfl) (by simp [Value.oneCell']) (by simp only [maxLen]; omega) (by omega) (Nat.zero_le _) ?_); intro v4 w4 hown4 hon4 hat4)
                  have hnew := Lib.hid (show w4.ownsRow 0 9 1 v4 (C.length + (j + 1)) (stC (List.replicate C.length mk ++ List.replicate (j + 1) mo)) ∧ Only (fun b => (Value.slice A0 C.length c0).ownBlock = some b) wC w4 ∧ (∀ b, v4.ownBlock = some b → (Value.slice A0 C.length c0).ownBlock = some b ∨ wC.heap.size ≤ b) from ⟨by
                    rw [List.replicate_succ', ← List.append_assoc, stC_append]; exact hown4, (hB.out.2.1.alloc _).then hon4 (fun b hb => hB.out.2.2 b hb), fun b hb => by
                    rcases hat4 with h | h
                    · rw [h] at hb; exact hB.out.2.2 b hb
                    · rw [h] at hb; injection hb with hb; have := hB.out.2.1.size; simp at hb; right; omega⟩)
                  clear hown4 hon4 hat4
                  go_roundw
                  case rel => exact ⟨j + 1, by go_num, by omega, hnew⟩
                  case measure => simp [intOf]; omega
                · have hlt2 : ¬ (j : Int) < 9 := by omega
                  obtain rfl : j = 9 := by omega
                  obtain ⟨wD, rfl⟩ : ∃ wD : World, wD = wr := ⟨_, rfl⟩
                  obtain ⟨hD1, oCD, hD3⟩ := hB.out
                  obtain ⟨A15, c15, rfl⟩ := own_slice hD1
                  replace hD1 := Lib.hid hD1
                  replace oCD := Lib.hid oCD
                  replace hD3 := Lib.hid hD3
                  clear hB hj hlt
                  have zCD := Lib.hid oCD.out.size
                  go_wp2_with (at_builtin; go_loud (refine Mm.wpList_append_any _ rfl (.tmp 91) (.tmp 93) _ rfl 0 23 i3 _ 1 24 Try.underlying26 hi3 hy0 hy1 hy2 rfl (by omega) (.slice none 0 0) 0 [] rfl (World.ownsRow_nil _ _ _ _) (some ⟨wD.heap.size, 0, none⟩) 1 1 [.slice A15 (C.length + 9) c15] rfl (Rds.fresh (Blk.new _ _ _) rfl) (by simp [Value.oneCell']) (by simp only [maxLen]; omega) (by omega) (Nat.zero_le _) ?_); intro v5 w5' hown5 hon5 hat5)
                  have hnew : Hid (St1 w W G (.slice A0 C.length c0) (.slice A1 C.length c1) (.slice A2 O.length c2) (.slice A3 C.length c3) (.slice A5 C.length c5) (.slice (some ⟨g7, 0, none⟩) (m + 12) c7) m C O l v5 w5') := Lib.hid (by
                    have hon6 : Only No wD w5' := ((Only.refl No _).alloc _).trans (hon5.mono (fun _ h => by simp [Value.ownBlock] at h))
                    have y1 := zBC.out
                    have y2 := zCD.out
                    have y3 := zWB.out
                    have y4 := hon6.size
                    refine ⟨A15, c15, (hKC.out.far oCD.out m0.out).far hon6 (fun _ h => h.elim), own_only (own_only (own_only hV2.out oBC.out (fun b hb hb2 => n02.out b hb2 hb)) oCD.out (fun b hb hb2 => n02.out b hb2 hb)) hon6 (fun _ _ => id), own_only hD1.out hon6 (fun _ _ => id), hown5, fun b hb => (hD3.out b hb).imp id (fun h => by omega), fun b hb => ?_, by omega⟩
                    rcases hat5 with h | h
                    · rw [h] at hb; simp [Value.ownBlock] at hb
                    · rw [h] at hb; injection hb with hb; simp at hb; omega)
                  clear hown5 hon5 hat5
                  go_roundw
                  case rel => first | exact hnew.out | exact .inr (.inl ⟨by go_num, hnew.out⟩)
                  case measure => simp [intOf]
        · obtain ⟨LA, Lc, hKB, hV, hL0, h12, hL0w, v12w, zWB⟩ := hst
          replace hKB := Lib.hid hKB
          replace hV := Lib.hid hV
          replace hL0 := Lib.hid hL0
          replace h12 := Lib.hid h12
          replace hL0w := Lib.hid hL0w
          replace v12w := Lib.hid v12w
          replace zWB := Lib.hid zWB
          obtain ⟨wB, rfl⟩ : ∃ wB : World, wB = wr := ⟨_, rfl⟩
          go_wp2_with fail
          go_loopw [14] (fun v14 wq => ∃ k : Nat, v14 = .int .i64 k ∧ k ≤ O.length ∧ Hid (wq.ownsRow 0 9 1 (.slice A2 O.length c2) O.length (stC (List.replicate k mk ++ O.drop k)) ∧ Only (fun b => (Value.slice A2 O.length c2).ownBlock = some b) wB wq)) (fun v14 _ => O.length - (intOf v14).toNat)
          case atStart => exact ⟨0, rfl, by omega, Lib.hid ⟨by simpa using hV.out, Only.refl _ _⟩⟩
          case round =>
            obtain ⟨k, rfl, hk, hA⟩ := hrel
            have gc : wr.cell? ⟨G, 2, none⟩ = some (.slice A2 O.length c2) := (hKB.out.far hA.out.2 m2.out).got.cell 2
            by_cases hlt : k < O.length
            · have hlt' : (k : Int) < O.length := by omega
              obtain ⟨g, cc, he, _⟩ := own_some hA.out.1 (by omega)
              have e1 : A2 = some ⟨g, 0, none⟩ := by injection he
              replace he := Lib.hid he
              have f0 := hA.out.1
              rw [e1] at f0 gc
              have f1 := f0.frozenAt k
              obtain ⟨u0, hu0⟩ : ∃ u, wr.cell? ⟨g, k, none⟩ = some u := by
                rw [f0.cellAt k (by omega)]
                have hxl := f0.1
                exact ⟨_, List.getElem?_eq_getElem (by omega)⟩
              have hset := Lib.hid (show (wr.setCell ⟨g, k, none⟩ (.string mk)).ownsRow 0 9 1 (.slice A2 O.length c2) O.length (stC (List.replicate (k + 1) mk ++ O.drop (k + 1))) ∧ Only (fun b => (Value.slice A2 O.length c2).ownBlock = some b) wB (wr.setCell ⟨g, k, none⟩ (.string mk)) from ⟨by
                have h1 := (f0.stored k (.string mk)).1
                rw [stC_set, rep_step O k mk hlt] at h1
                rw [e1]; exact h1, hA.out.2.setCell (p := ⟨g, k, none⟩) (.inl (by rw [e1]; rfl)) _⟩)
              clear f0 e1 hA
              go_wp2
              go_roundw
              case rel => exact ⟨k + 1, by go_num, by omega, hset⟩
              case measure => simp [intOf]; omega
            · have hlt' : ¬ (k : Int) < O.length := by omega
              obtain rfl : k = O.length := by omega
              obtain ⟨wC, rfl⟩ : ∃ wC : World, wC = wr := ⟨_, rfl⟩
              have hC1 : Hid (wC.ownsRow 0 9 1 (.slice A2 O.length c2) O.length (stC (List.replicate O.length mk))) := Lib.hid (by
                have := hA.out.1
                rw [List.drop_of_length_le (Nat.le_refl _), List.append_nil] at this
                exact this)
              have oBC := Lib.hid hA.out.2
              have hKC := Lib.hid (hKB.out.far oBC.out m2.out)
              have zBC := Lib.hid oBC.out.size
              clear hA hk hlt
              go_wp2_with fail
              go_loopw [15, 16] (fun v15 v16 wq => ∃ j : Nat, v16 = .int .i64 j ∧ j ≤ 9 ∧ Hid (wq.ownsRow 0 9 1 v15 (O.length + j) (stC (List.replicate O.length mk ++ List.replicate j mo)) ∧ Only (fun b => (Value.slice A2 O.length c2).ownBlock = some b) wC wq ∧ (∀ b, v15.ownBlock = some b → (Value.slice A2 O.length c2).ownBlock = some b ∨ wC.heap.size ≤ b))) (fun _ v16 _ => 9 - (intOf v16).toNat)
              case atStart => exact ⟨0, rfl, by omega, Lib.hid ⟨by simpa using hC1.out, Only.refl _ _, fun b hb => .inl hb⟩⟩
              case round =>
                obtain ⟨j, rfl, hj, hB⟩ := hrel
                by_cases hlt : j < 9
                · have hlt2 : (j : Int) < 9 := by omega
                  go_wp2_with (at_builtin; go_loud (refine Mm.wpList_append_any _ rfl (.tmp 88) (.tmp 89) _ rfl 0 9 i0 _ 1 16 Try.underlying23 hi0 hz0 hz1 hz2 rfl (by omega) u15 (O.length + j) (stC (List.replicate O.length mk ++ List.replicate j mo)) rfl (hB.out.1.alloc _) (some ⟨wr.heap.size, 0, none⟩) 1 1 [.string mo] rfl (Rds.fresh (Blk.new _ _ _) rfl) (by simp [Value.oneCell']) (by simp only [maxLen]; omega) (by omega) (Nat.zero_le _) ?_); intro v4 w4 hown4 hon4 hat4)
                  have hnew := Lib.hid (show w4.ownsRow 0 9 1 v4 (O.length + (j + 1)) (stC (List.replicate O.length mk ++ List.replicate (j + 1) mo)) ∧ Only (fun b => (Value.slice A2 O.length c2).ownBlock = some b) wC w4 ∧ (∀ b, v4.ownBlock = some b → (Value.slice A2 O.length c2).ownBlock = some b ∨ wC.heap.size ≤ b) from ⟨by
                    rw [List.replicate_succ', ← List.append_assoc, stC_append]; exact hown4, (hB.out.2.1.alloc _).then hon4 (fun b hb => hB.out.2.2 b hb), fun b hb => by
                    rcases hat4 with h | h
                    · rw [h] at hb; exact hB.out.2.2 b hb
                    · rw [h] at hb; injection hb with hb; have := hB.out.2.1.size; simp at hb; right; omega⟩)
                  clear hown4 hon4 hat4
                  go_roundw
                  case rel => exact ⟨j + 1, by go_num, by omega, hnew⟩
                  case measure => simp [intOf]; omega
                · have hlt2 : ¬ (j : Int) < 9 := by omega
                  obtain rfl : j = 9 := by omega
                  obtain ⟨wD, rfl⟩ : ∃ wD : World, wD = wr := ⟨_, rfl⟩
                  obtain ⟨hD1, oCD, hD3⟩ := hB.out
                  obtain ⟨A15, c15, rfl⟩ := own_slice hD1
                  replace hD1 := Lib.hid hD1
                  replace oCD := Lib.hid oCD
                  replace hD3 := Lib.hid hD3
                  clear hB hj hlt
                  have zCD := Lib.hid oCD.out.size
                  go_wp2_with (at_builtin; go_loud (refine Mm.wpList_append_any _ rfl (.tmp 91) (.tmp 93) _ rfl 0 23 i3 _ 1 24 Try.underlying26 hi3 hy0 hy1 hy2 rfl (by omega) u12 1 [.slice LA (C.length + 9) Lc] rfl (((own_only (own_only h12.out oBC.out (fun b hb hb2 => by have := v12w.out b hb; have := l2.out b hb2; omega)) oCD.out (fun b hb hb2 => by have := v12w.out b hb; have := l2.out b hb2; omega)).alloc _)) (some ⟨wD.heap.size, 0, none⟩) 1 1 [.slice A15 (O.length + 9) c15] rfl (Rds.fresh (Blk.new _ _ _) rfl) (by simp [Value.oneCell']) (by simp only [maxLen]; omega) (by omega) (Nat.zero_le _) ?_); intro v5 w5' hown5 hon5 hat5)
                  have hnew : Hid (St2 w G (.slice A0 C.length c0) (.slice A1 C.length c1) (.slice A2 O.length c2) (.slice A3 C.length c3) (.slice A5 C.length c5) (.slice (some ⟨g7, 0, none⟩) (m + 12) c7) m C O l v5 w5') := Lib.hid (by
                    have y1 := zBC.out
                    have y2 := zCD.out
                    have y3 := zWB.out
                    have hLC := own_only hL0.out oBC.out (fun b hb hb2 => by
                      rcases hL0w.out b hb with h | h
                      · exact n02.out b h hb2
                      · have := l2.out b hb2; omega)
                    have hLD := own_only hLC oCD.out (fun b hb hb2 => by
                      rcases hL0w.out b hb with h | h
                      · exact n02.out b h hb2
                      · have := l2.out b hb2; omega)
                    have h12D := own_only (own_only h12.out oBC.out (fun b hb hb2 => by have := v12w.out b hb; have := l2.out b hb2; omega)) oCD.out (fun b hb hb2 => by have := v12w.out b hb; have := l2.out b hb2; omega)
                    have o1 : Only No wD (wD.alloc (.cells #[.slice A15 (O.length + 9) c15] 23)) := (Only.refl No _).alloc _
                    have hLE := own_only hLD o1 (fun _ _ => id)
                    have h12E := own_only h12D o1 (fun _ _ => id)
                    have hDE := own_only hD1.out o1 (fun _ _ => id)
                    exact ⟨LA, Lc, A15, c15, ((hKC.out.far oCD.out m2.out).far o1 (fun _ h => h.elim)).far hon5 (fun b hb => mN.out b (v12w.out b hb)), own_only hLE hon5 (own_ne hLE h12E (by decide)), own_only hDE hon5 (own_ne hDE h12E (by decide)), hown5⟩)
                  clear hown5 hon5 hat5
                  go_roundw
                  case rel => first | exact hnew.out | exact .inr (.inr ⟨by go_num, hnew.out⟩)
                  case measure => simp [intOf]
        · obtain ⟨LA, Lc, LB, Ld, hKE, hLA, hLB, h12⟩ := hst
          obtain ⟨wE, rfl⟩ : ∃ wE : World, wE = wr := ⟨_, rfl⟩
          obtain ⟨g12, c12, rfl, _⟩ := own_some h12 (by omega)
          have g1 : wE.cell? ⟨G, 1, none⟩ = some (.slice A1 C.length c1) := hKE.got.cell 1
          have g3 : wE.cell? ⟨G, 3, none⟩ = some (.slice A3 C.length c3) := hKE.got.cell 3
          replace hKE := Lib.hid hKE
          replace hLA := Lib.hid hLA
          replace hLB := Lib.hid hLB
          replace h12 := Lib.hid h12
          go_wp2_with fail
          refine (texts_yes A1 A5 c1 c5 C _ wE (Rds.of_own hKE.out.r1) (Rds.of_own hKE.out.r5) rfl (by omega)).mono ?_
          rintro e wx ⟨rfl, qx⟩
          have og : Hid (Only No wE wx) := Lib.hid qx
          have g3x : wx.cell? ⟨G, 3, none⟩ = some (.slice A3 C.length c3) := (hKE.out.far qx (fun _ h => h.elim)).got.cell 3
          clear qx
          go_wp2_with fail
          refine (texts_yes A3 A5 c3 c5 C _ wx (Rds.of_own (own_only hKE.out.r3 og.out (fun _ _ => id))) (Rds.of_own (own_only hKE.out.r5 og.out (fun _ _ => id))) rfl (by omega)).mono ?_
          rintro e wy ⟨rfl, qy⟩
          have og2 : Hid (Only No wE wy) := Lib.hid (og.out.trans qy)
          clear qy g3x
          go_wp2_with fail
          refine (kept_yes g7 c7 c m A l _ (Rds.of_own (own_only hKE.out.r7 og2.out (fun _ _ => id))) hc7 (HR.out.no (hKE.out.only.trans og2.out)) HL.out hm).mono ?_
          rintro e wF ⟨rfl, q3⟩
          have oEF := Lib.hid (og2.out.trans q3)
          clear og og2 q3 g1 g3
          have hKF := Lib.hid (hKE.out.far oEF.out (fun _ h => h.elim))
          have hLAF := Lib.hid (Rds.of_own (own_only hLA.out oEF.out (fun _ _ => id)))
          have hLBF := Lib.hid (Rds.of_own (own_only hLB.out oEF.out (fun _ _ => id)))
          have h12F := Lib.hid (own_only h12.out oEF.out (fun _ _ => id))
          have d0 : wF.cell? ⟨g12, 0, none⟩ = some (.slice LA (C.length + 9) Lc) := by have := h12F.out.cells (g := g12) rfl 0 _ rfl; simpa [Mm.add_plain] using this
          have d1 : wF.cell? ⟨g12, 1, none⟩ = some (.slice LB (O.length + 9) Ld) := by have := h12F.out.cells (g := g12) rfl 1 _ rfl; simpa [Mm.add_plain] using this
          have e0 : wF.cell? ⟨G, 0, none⟩ = some (.slice A0 C.length c0) := hKF.out.got.cell 0
          have e2 : wF.cell? ⟨G, 2, none⟩ = some (.slice A2 O.length c2) := hKF.out.got.cell 2
          clear hKE hLA hLB h12 oEF h12F
          go_wp2_with fail
          go_loopw [18] (fun v18 wq => (v18 = .int .i64 0 ∨ v18 = .int .i64 1 ∨ v18 = .int .i64 2) ∧ wF = wq) (fun v18 _ => 2 - (intOf v18).toNat)
          case atStart => exact ⟨.inl rfl, rfl⟩
          case round =>
            obtain ⟨hv18, rfl⟩ := hrel
            rcases hv18 with rfl | rfl | rfl
            · go_wp2_with fail
              go_loopw [19] (fun v19 wq => ∃ k : Nat, v19 = .int .i64 k ∧ k ≤ C.length + 9 ∧ wF = wq) (fun v19 _ => C.length + 9 - (intOf v19).toNat)
              case atStart => exact ⟨0, rfl, by omega, rfl⟩
              case round =>
                obtain ⟨k, rfl, hk, rfl⟩ := hrel
                by_cases hlt : k < C.length + 9
                · have hlt' : (k : Int) < C.length + 9 := by omega
                  obtain ⟨ad, rfl, x0⟩ := st_cell hLAF.out (by simp) k hlt
                  by_cases hn : k < C.length
                  · have hn' : (k : Int) < C.length := by omega
                    have hget : (List.replicate C.length mk ++ List.replicate 9 mo)[k]'(by simp; omega) = mk := by
                      rw [List.getElem_append_left (by simpa using hn), List.getElem_replicate]
                    rw [hget] at x0
                    clear hget
                    go_wp2
                    go_roundw
                    case rel => exact ⟨k + 1, by go_num, by omega, by first | rfl | trivial⟩
                    case measure => simp [intOf]; omega
                  · have hn' : ¬ (k : Int) < C.length := by omega
                    have hget : (List.replicate C.length mk ++ List.replicate 9 mo)[k]'(by simp; omega) = mo := by
                      rw [List.getElem_append_right (by simpa using hn), List.getElem_replicate]
                    rw [hget] at x0
                    clear hget
                    go_wp2
                    go_roundw
                    case rel => exact ⟨k + 1, by go_num, by omega, by first | rfl | trivial⟩
                    case measure => simp [intOf]; omega
                · have hlt' : ¬ (k : Int) < C.length + 9 := by omega
                  go_wp2
                  go_roundw
                  case rel => first | exact ⟨by first | exact .inl rfl | exact .inr (.inl rfl) | exact .inr (.inr rfl), rfl⟩ | trivial | simp
                  case measure => simp [intOf]
            · go_wp2_with fail
              go_loopw [19] (fun v19 wq => ∃ k : Nat, v19 = .int .i64 k ∧ k ≤ O.length + 9 ∧ wF = wq) (fun v19 _ => O.length + 9 - (intOf v19).toNat)
              case atStart => exact ⟨0, rfl, by omega, rfl⟩
              case round =>
                obtain ⟨k, rfl, hk, rfl⟩ := hrel
                by_cases hlt : k < O.length + 9
                · have hlt' : (k : Int) < O.length + 9 := by omega
                  obtain ⟨ad, rfl, x0⟩ := st_cell hLBF.out (by simp) k hlt
                  by_cases hn : k < O.length
                  · have hn' : (k : Int) < O.length := by omega
                    have hget : (List.replicate O.length mk ++ List.replicate 9 mo)[k]'(by simp; omega) = mk := by
                      rw [List.getElem_append_left (by simpa using hn), List.getElem_replicate]
                    rw [hget] at x0
                    clear hget
                    go_wp2
                    go_roundw
                    case rel => exact ⟨k + 1, by go_num, by omega, by first | rfl | trivial⟩
                    case measure => simp [intOf]; omega
                  · have hn' : ¬ (k : Int) < O.length := by omega
                    have hget : (List.replicate O.length mk ++ List.replicate 9 mo)[k]'(by simp; omega) = mo := by
                      rw [List.getElem_append_right (by simpa using hn), List.getElem_replicate]
                    rw [hget] at x0
                    clear hget
                    go_wp2
                    go_roundw
                    case rel => exact ⟨k + 1, by go_num, by omega, by first | rfl | trivial⟩
                    case measure => simp [intOf]; omega
                · have hlt' : ¬ (k : Int) < O.length + 9 := by omega
                  go_wp2
                  go_roundw
                  case rel => first | exact ⟨by first | exact .inl rfl | exact .inr (.inl rfl) | exact .inr (.inr rfl), rfl⟩ | trivial | simp
                  case measure => simp [intOf]
            · have hmE : Hid (Rds wF 2 (some ⟨g7, 0, none⟩) m (exC l)) := Lib.hid (by
                have ha := Rds.of_own hKF.out.r7
                refine ⟨by rw [exC_len, HL.out], fun h0 => ?_⟩
                obtain ⟨ad, e, hb', hcell⟩ := ha.2 (by omega)
                refine ⟨ad, e, hb', fun j u hu => hcell j u ?_⟩
                rw [exC_append, List.getElem?_append_left (List.getElem?_eq_some_iff.1 hu).1]
                exact hu)
              go_wp2_with fail
              refine (comm_any (some ⟨g7, 0, none⟩) m c7 l _ hmE.out HL.out hm).mono ?_
              rintro e wG ⟨vv, rfl, rr, oo⟩
              rw [← hC.out] at rr
              obtain ⟨AA, cc, rfl⟩ := own_slice rr
              go_wp2_with fail
              refine (texts_yes AA A5 cc c5 C _ wG (Rds.of_own rr) (Rds.of_own (own_only hKF.out.r5 oo (fun _ _ => id))) rfl (by omega)).mono ?_
              rintro e wH ⟨rfl, qq⟩
              go_wp2
              go_ret
              exact ⟨rfl, ((hKF.out.only.trans oo).trans qq).below_no⟩
end Go.Proofs.Ytehnahikfemodaa.Ct
