/- MetaMade's walk. -/
import Derived.Test.YtehnahikfemodaaJfR
import Derived.Test.YtehnahikfemodaaJfM
import Derived.Test.YtehnahikfemodaaWpR
import Derived.Deep.RegionHeld
namespace Go.Proofs.Ytehnahikfemodaa.Ct
open Go.ChangeShapes Go.WideShapes Go.RowKit Mm

theorem prof_all (s : ByteArray) (w : World) (hs : s.size ≤ 9223372036854775807) : Calls Try.prog 16 #[.string s] w (Prof s w) := by
  by_cases h : s.size ≤ 16707345
  · exact prof_any s w h
  · exact prof_big s w h hs
theorem rprof_all (s : ByteArray) (w : World) (hs : s.size ≤ 9223372036854775807) : Calls Try.prog 15 #[.string s] w (Prof s w) := by
  by_cases h : s.size ≤ 16707345
  · exact rprof_any s w h
  · exact rprof_big s w h hs
theorem profL_len (s : ByteArray) : (profL s).length ≤ 255 := by
  unfold profL
  split
  · rw [wpl_len]; unfold allP; omega
  · simp
/-- the world of a region that only makes memory -/
structure Sk (W w' : World) (g : Nat) (M m U X Y : Int) : Prop where
  only : Only No W w'
theorem sk_next {W w1 w2 : World} {g : Nat} {M m U X Y : Int} (hb : Blk W g 30 (dnC M m U X Y)) (h1 : Only No W w1) (h2 : Only No w1 w2) :
    Only No W w2 ∧ w2.cell? ⟨g, 0, none⟩ = some (.int .u8 M) ∧ w2.cell? ⟨g, 1, none⟩ = some (.int .u8 m) ∧ w2.cell? ⟨g, 2, none⟩ = some (.int .u8 U) ∧ w2.cell? ⟨g, 3, none⟩ = some (.int .i64 X) ∧ w2.cell? ⟨g, 4, none⟩ = some (.int .i64 Y) :=
  ⟨h1.trans h2, dn_keep ((hb.only h1 id).only h2 id)⟩
set_option maxRecDepth 100000 in
set_option maxHeartbeats 6400000 in
theorem made_law (M m U X Y : Int) (part : ByteArray) (times : Int) (w : World) (hp : part.size ≤ maxLen) (ht : -9223372036854775808 ≤ times ∧ times ≤ 9223372036854775807) :
    Calls Try.prog 4 #[.agg (dnC M m U X Y), .string part, .int .i64 times] w (fun e w' => e = .returned (.bool true) ∧ Below w.heap.size w w') := by
  obtain ⟨i0, hi0, hz0, hz1, hz2⟩ := info_parts info36
  obtain ⟨i5, hi5, hy0, hy1, hy2⟩ := info_parts info5
  obtain ⟨q, hq⟩ : ∃ q : Int, q = times.tmod 300000 := ⟨_, rfl⟩
  have hq1 : -300000 < q := by rw [hq]; have := Int.lt_tmod_of_pos times (show (0 : Int) < 300000 by decide); omega
  have hq2 : q < 300000 := by rw [hq]; exact Int.tmod_lt_of_pos _ (by decide)
  have hw1 : IntKind.i64.wrap q = q := by rw [IntKind.wrap_i64]; omega
  have hw2 : IntKind.i64.wrap (-q) = -q := by rw [IntKind.wrap_i64]; omega
  have hp2 : part.size ≤ 9223372036854775807 := by simp only [maxLen] at hp; omega
  replace hp := Lib.hid hp
  go_enter Try.func4, Try.ntmps4
  go_wp2_with fail
  all_goals first
    | rw [show decide (times.tmod 300000 < 0) = true from decide_eq_true (by assumption)]
    | rw [show decide (times.tmod 300000 < 0) = false from decide_eq_false (by omega)]
  all_goals first
    | rw [show decide ((64 : Int) < (part.size : Int)) = true from decide_eq_true (by assumption)]
    | rw [show decide ((64 : Int) < (part.size : Int)) = false from decide_eq_false (by omega)]
  all_goals first
    | (obtain ⟨n, hn⟩ : ∃ n : Nat, (n : Int) = -times.tmod 300000 := ⟨(-q).toNat, by omega⟩
       rw [← hn])
    | (obtain ⟨n, hn⟩ : ∃ n : Nat, (n : Int) = times.tmod 300000 := ⟨q.toNat, by omega⟩
       rw [← hn])
  all_goals
    have hn3 : n ≤ 300000 := by omega
  all_goals first
    | (obtain ⟨Q, hQ⟩ : ∃ Q, Q = part.extract 0 64 := ⟨_, rfl⟩
       rw [← hQ]
       have hQs : Q.size ≤ 64 := by rw [hQ, ByteArray.size_extract]; omega)
    | (obtain ⟨Q, hQ⟩ : ∃ Q, Q = part := ⟨_, rfl⟩
       rw [← hQ]
       have hQs : Q.size ≤ 64 := by rw [hQ]; omega)
  all_goals
    replace hn := Lib.hid hn
    replace hQ := Lib.hid hQ
    replace ht := Lib.hid ht
  all_goals
    obtain ⟨W1, hW1⟩ : ∃ W1, W1 = w.alloc (.cells (dnC M m U X Y) 30) := ⟨_, rfl⟩
    rw [← hW1]
    have hbox : Hid (Blk W1 w.heap.size 30 (dnC M m U X Y)) := Lib.hid (by rw [hW1]; exact Blk.new _ _ _)
    have on1 : Hid (Only No w W1) := Lib.hid (by rw [hW1]; exact (Only.refl _ _).alloc _)
    obtain ⟨g, hg⟩ : ∃ g, g = w.heap.size := ⟨_, rfl⟩
    rw [← hg] at hbox ⊢
    clear hW1
    replace hg := Lib.hid hg
    go_loopw [8, 9] (fun v8 v9 wr => ∃ k : Nat, v9 = .int .i64 k ∧ k ≤ n ∧ Hid (∃ ns : List Int, ns.length = k * Q.size ∧ wr.ownsRow W1.heap.size 5 1 v8 (k * Q.size) (ns.map (Value.int .u8)) ∧ Only No W1 wr)) (fun _ v9 _ => n - (intOf v9).toNat)
    case atStart => exact ⟨0, rfl, by omega, Lib.hid ⟨[], by simp, by simpa using World.ownsRow_nil _ _ _ _, Only.refl _ _⟩⟩
    case round =>
      obtain ⟨k, rfl, hk, hI⟩ := hrel
      by_cases hlt : k < n
      · have hlt' : (k : Int) < n := by omega
        obtain ⟨ns, hns, hown, hon⟩ := hI.out
        replace hown := Lib.hid hown
        replace hon := Lib.hid hon
        replace hns := Lib.hid hns
        have hsz : Hid (k * Q.size ≤ 300000 * 64) := Lib.hid (Nat.mul_le_mul (by omega) (by omega))
        clear hI
        go_wp2_with (at_builtin; go_loud (refine wpList_append_str _ rfl (.tmp 36) (.tmp 37) 31 9 rfl W1.heap.size 5 i5 _ Try.underlying31 Try.underlying9 hi5 hy0 hy1 hy2 rfl u8 (k * Q.size) (ns.map (Value.int .u8)) rfl hown.out Q rfl (by have := hsz.out; simp only [maxLen]; omega) (by have := hsz.out; omega) hon.out.size ?_); intro v4 w4 hown4 hon4 hat4)
        have hnew := Lib.hid (show ∃ ns : List Int, ns.length = (k + 1) * Q.size ∧ w4.ownsRow W1.heap.size 5 1 v4 ((k + 1) * Q.size) (ns.map (Value.int .u8)) ∧ Only No W1 w4 from ⟨ns ++ numsOf Q, by rw [List.length_append, hns.out, numsOf_len, Nat.succ_mul], by rw [Nat.succ_mul, List.map_append, ← byteCells_nums]; exact hown4, hon.out.then hon4 (fun i hi => .inr (own_ge hown.out i hi))⟩)
        clear hown4 hon4 hat4
        go_roundw
        case rel => exact ⟨k + 1, by go_num, by omega, hnew⟩
        case measure => simp [intOf]; omega
      · have hlt' : ¬ (k : Int) < n := by omega
        obtain ⟨ns, hns, hown, hon⟩ := hI.out
        have hcv := conv_own hown hns
        obtain ⟨S, hS⟩ : ∃ S, S = strOfNums ns := ⟨_, rfl⟩
        rw [← hS] at hcv
        have hsz : k * Q.size ≤ 300000 * 64 := Nat.mul_le_mul (by omega) (by omega)
        have hSs : S.size ≤ 9223372036854775807 := by rw [hS, strOfNums_size, hns]; omega
        obtain ⟨wS, rfl⟩ : ∃ wS : World, wS = wr := ⟨_, rfl⟩
        replace hon := Lib.hid hon
        replace hSs := Lib.hid hSs
        clear hown hns hS hI hsz
        go_wp2_with fail
        refine (rprof_all S wS hSs.out).mono ?_
        rintro e w2 ⟨v11, rfl, h11, o2⟩
        obtain ⟨L, hL⟩ : ∃ L, Hid (L = profL S) := ⟨_, Lib.hid rfl⟩
        have hL255 : L.length ≤ 255 := by rw [hL.out]; exact profL_len S
        rw [← hL.out] at h11
        obtain ⟨A11, c11, rfl⟩ := own_slice h11
        replace h11 := Lib.hid h11
        have l11 := Lib.hid (own_lt h11.out)
        go_wp2_with fail
        refine (prof_all S w2 hSs.out).mono ?_
        rintro e w3 ⟨v13, rfl, h13, o3⟩
        rw [← hL.out] at h13
        obtain ⟨A13, c13, rfl⟩ := own_slice h13
        have g13 := Lib.hid (own_ge h13)
        have l13 := Lib.hid (own_lt h13)
        have h11b := Lib.hid (own_only h11.out o3 (fun _ _ => id))
        replace h13 := Lib.hid h13
        have on3 := Lib.hid (o2.trans o3)
        have z23 := Lib.hid o3.size
        have z12 := Lib.hid o2.size
        clear o2 o3 h11
        go_wp2_with fail
        refine (prof_all S w3 hSs.out).mono ?_
        rintro e w4 ⟨v15, rfl, h15, o4⟩
        rw [← hL.out] at h15
        obtain ⟨A15, c15, rfl⟩ := own_slice h15
        have g15 := Lib.hid (own_ge h15)
        have h11c := Lib.hid (own_only h11b.out o4 (fun _ _ => id))
        have h13c := Lib.hid (own_only h13.out o4 (fun _ _ => id))
        replace h15 := Lib.hid h15
        have on4 := Lib.hid (on3.out.trans o4)
        have z34 := Lib.hid o4.size
        clear o4 h11b h13 on3
        go_wp2_with fail
        refine (same_yes A13 A11 c13 c11 L L.length w4 (Rds.of_own h13c.out) (Rds.of_own h11c.out) rfl (by omega)).mono ?_
        rintro e w5 ⟨rfl, q5⟩
        replace q5 := Lib.hid q5
        go_wp2_with fail
        refine (same_yes A15 A11 c15 c11 L L.length w5 ((Rds.of_own h15.out).no q5.out) ((Rds.of_own h11c.out).no q5.out) rfl (by omega)).mono ?_
        rintro e w6 ⟨rfl, q6⟩
        replace q6 := Lib.hid (q5.out.trans q6)
        have z36 : Hid (w3.heap.size ≤ w6.heap.size) := Lib.hid (Nat.le_trans z34.out q6.out.size)
        have h11d := Lib.hid (own_only h11c.out q6.out (fun _ _ => id))
        have h13d := Lib.hid (own_only h13c.out q6.out (fun _ _ => id))
        have h15d := Lib.hid (own_only h15.out q6.out (fun _ _ => id))
        have hbox6 := Lib.hid (((hbox.out.only hon.out id).only on4.out id).only q6.out id)
        have on06 := Lib.hid (((on1.out.trans hon.out).trans on4.out).trans q6.out)
        have z62 : Hid (w2.heap.size ≤ w6.heap.size) := Lib.hid (Nat.le_trans z23.out (by have := h13d.out; exact z36.out))
        have zw : Hid (w.heap.size ≤ wS.heap.size) := Lib.hid (Nat.le_trans on1.out.size hon.out.size)
        have z1S : Hid (g < wS.heap.size) := Lib.hid (Nat.lt_of_lt_of_le hbox.out.lt hon.out.size)
        clear h11c h13c h15 q5 q6 on4 hbox
        go_wp2_with fail
        go_loopw [17] (fun v17 wr => ∃ i : Nat, v17 = .int .i64 i ∧ i ≤ L.length ∧ Hid ((∃ xs, wr.ownsRow w2.heap.size 36 2 (.slice A13 L.length c13) L.length xs) ∧ Only (fun b => (Value.slice A13 L.length c13).ownBlock = some b) w6 wr)) (fun v17 _ => L.length - (intOf v17).toNat)
        case atStart => exact ⟨0, rfl, by omega, Lib.hid ⟨⟨_, h13d.out⟩, Only.refl _ _⟩⟩
        case round =>
          obtain ⟨i, rfl, hi, hO⟩ := hrel
          by_cases hlt2 : i < L.length
          · have hlt3 : (i : Int) < L.length := by omega
            obtain ⟨⟨xs, hxs⟩, hon2⟩ := hO.out
            obtain ⟨gg, cc, he, _⟩ := own_some hxs (by omega)
            have e1 : A13 = some ⟨gg, 0, none⟩ := by injection he
            have hxl := hxs.1
            rw [e1] at hxs
            have f0 := hxs.frozenAt (i * 2)
            have f1 := hxs.frozenAt (i * 2 + 1)
            obtain ⟨u0, hu0⟩ : ∃ u, wr.cell? ⟨gg, i * 2, none⟩ = some u := by
              rw [hxs.cellAt (i * 2) (by omega)]
              exact ⟨_, List.getElem?_eq_getElem (by omega)⟩
            obtain ⟨u1, hu1⟩ : ∃ u, wr.cell? ⟨gg, i * 2 + 1, none⟩ = some u := by
              rw [hxs.cellAt (i * 2 + 1) (by omega)]
              exact ⟨_, List.getElem?_eq_getElem (by omega)⟩
            have hset := Lib.hid (show (∃ xs, ((wr.setCell ⟨gg, i * 2, none⟩ (.int .u8 1)).setCell ⟨gg, i * 2 + 1, none⟩ (.string { data := #[] })).ownsRow w2.heap.size 36 2 (.slice A13 L.length c13) L.length xs) ∧ Only (fun b => (Value.slice A13 L.length c13).ownBlock = some b) w6 ((wr.setCell ⟨gg, i * 2, none⟩ (.int .u8 1)).setCell ⟨gg, i * 2 + 1, none⟩ (.string { data := #[] })) from
              ⟨by rw [e1]; exact ⟨_, ((hxs.stored (i * 2) (.int .u8 1)).1.stored (i * 2 + 1) (.string { data := #[] })).1⟩, (hon2.setCell (p := ⟨gg, i * 2, none⟩) (.inl (by rw [e1]; rfl)) _).setCell (p := ⟨gg, i * 2 + 1, none⟩) (.inl (by rw [e1]; rfl)) _⟩)
            replace he := Lib.hid he
            clear hxs hon2 hO hxl
            go_wp2
            go_roundw
            case rel => exact ⟨i + 1, by go_num, by omega, hset⟩
            case measure => simp [intOf]; omega
          · have hlt3 : ¬ (i : Int) < L.length := by omega
            clear hi
            obtain ⟨⟨xs0, hxs0⟩, hon11⟩ := hO.out
            obtain ⟨w7, rfl⟩ : ∃ w7 : World, w7 = wr := ⟨_, rfl⟩
            replace hxs0 := Lib.hid hxs0
            replace hon11 := Lib.hid hon11
            clear hO
            go_wp2_with fail
            go_loopw [18, 19] (fun v18 v19 wr => ∃ j : Nat, v19 = .int .i64 j ∧ j ≤ 9 ∧ Hid ((∃ xs, wr.ownsRow w2.heap.size 36 2 v18 (L.length + j) xs) ∧ Only (fun b => (Value.slice A13 L.length c13).ownBlock = some b) w6 wr ∧ (v18.ownBlock = (Value.slice A13 L.length c13).ownBlock ∨ ∀ b, v18.ownBlock = some b → w6.heap.size ≤ b))) (fun _ v19 _ => 9 - (intOf v19).toNat)
            case atStart => exact ⟨0, rfl, by omega, Lib.hid ⟨⟨_, hxs0.out⟩, hon11.out, .inl rfl⟩⟩
            case round =>
              obtain ⟨j, rfl, hj, hO⟩ := hrel
              by_cases hlt4 : j < 9
              · have hlt5 : (j : Int) < 9 := by omega
                obtain ⟨⟨xs, hxs⟩, hon2, hat⟩ := hO.out
                obtain ⟨A0, c0, rfl⟩ := own_slice hxs
                replace hxs := Lib.hid hxs
                replace hon2 := Lib.hid hon2
                replace hat := Lib.hid hat
                clear hO
                go_wp2_with (at_builtin; go_loud (refine Mm.wpList_append_any _ rfl (.tmp 91) (.tmp 93) _ rfl w2.heap.size 36 i0 _ 2 24 Try.underlying22 hi0 hz0 hz1 hz2 rfl (by omega) (.slice A0 (L.length + j) c0) (L.length + j) xs rfl (hxs.out.alloc _) (some ⟨wr.heap.size, 0, none⟩) 1 1 [.int .u8 2, .string ByteArray.empty] rfl (Rds.fresh (Blk.new _ _ _) rfl) (by simp [Value.oneCell']) (by simp only [maxLen]; omega) (by omega) (by have := hon2.out.size; have := h13d.out; have := z62.out; simp; omega) ?_); intro v4 w13 hown4 hon4 hat4)
                have hnew := Lib.hid (show (∃ xs, w13.ownsRow w2.heap.size 36 2 v4 (L.length + (j + 1)) xs) ∧ Only (fun b => (Value.slice A13 L.length c13).ownBlock = some b) w6 w13 ∧ (v4.ownBlock = (Value.slice A13 L.length c13).ownBlock ∨ ∀ b, v4.ownBlock = some b → w6.heap.size ≤ b) from by
                  refine ⟨⟨_, hown4⟩, (hon2.out.alloc _).then hon4 (fun b hb => ?_), ?_⟩
                  · rcases hat.out with h | h
                    · left; rw [← h]; exact hb
                    · exact .inr (h b hb)
                  · rcases hat4 with h | h
                    · rcases hat.out with h' | h'
                      · left; rw [h]; exact h'
                      · right; intro b hb; rw [h] at hb; exact h' b hb
                    · right; intro b hb; rw [h] at hb; injection hb with hb
                      have := hon2.out.size
                      simp at hb; omega)
                clear hown4 hon4 hat4
                go_roundw
                case rel => exact ⟨j + 1, by go_num, by omega, hnew⟩
                case measure => simp [intOf]; omega
              · have hlt5 : ¬ (j : Int) < 9 := by omega
                obtain rfl : j = 9 := by omega
                obtain ⟨⟨xs, hxs⟩, hon2, _⟩ := hO.out
                obtain ⟨A18, c18, rfl⟩ := own_slice hxs
                obtain ⟨w8, rfl⟩ : ∃ w8 : World, w8 = wr := ⟨_, rfl⟩
                have h15e := Lib.hid (Rds.of_own (own_only h15d.out hon2 (fun b hb hb2 => by have := g15.out b hb; have := l13.out b hb2; omega)))
                have h11e := Lib.hid (Rds.of_own (own_only h11d.out hon2 (fun b hb hb2 => by have := l11.out b hb; have := g13.out b hb2; omega)))
                have hbox8 := Lib.hid (hbox6.out.only hon2 (fun hb2 => by have := g13.out _ hb2; have := z12.out; have := z1S.out; omega))
                have on08 := Lib.hid (on06.out.then hon2 (fun b hb => .inr (by have := g13.out b hb; have := z12.out; have := zw.out; omega)))
                have d0 := hbox8.out.cell 0
                have d1 := hbox8.out.cell 1
                have d2 := hbox8.out.cell 2
                have d3 := hbox8.out.cell 3
                have d4 := hbox8.out.cell 4
                simp only [List.getElem?_toArray, List.getElem?_cons_zero, List.getElem?_cons_succ] at d0 d1 d2 d3 d4
                have hwL : IntKind.i64.wrap ((L.length : Int) + 9) = (L.length : Int) + 9 := by rw [IntKind.wrap_i64]; omega
                clear hxs hon2 hO h15d h11d hj hlt4 hxs0 hon11 h13d hbox6
                go_wp2_with fail
                go_region_held (fun w' => Only No w8 w' ∧ w'.cell? ⟨g, 0, none⟩ = some (.int .u8 M) ∧ w'.cell? ⟨g, 1, none⟩ = some (.int .u8 m) ∧ w'.cell? ⟨g, 2, none⟩ = some (.int .u8 U) ∧ w'.cell? ⟨g, 3, none⟩ = some (.int .i64 X) ∧ w'.cell? ⟨g, 4, none⟩ = some (.int .i64 Y))
                  (first | exact sk_next hbox8.out (Only.refl _ _) ((Only.refl _ _).drew) | (go_split_ands; exact sk_next hbox8.out (by assumption) (by assumption)) | go_keep)
                  (first
                    | (go_at_call 17; go_loud (go_split_ands); go_loud (refine (same_yes A15 A11 c15 c11 L L.length _ (h15e.out.no (by assumption)) (h11e.out.no (by assumption)) rfl (by omega)).mono ?_); rintro e w' ⟨rfl, qx⟩)
                    | (go_at_call 18; refine (jfif_any M m U X Y _).mono ?_; rintro e w' ⟨rfl, qx⟩)
                    | (go_at_call 19; refine (rjfif_any M m U X Y _).mono ?_; rintro e w' ⟨rfl, qx⟩))
                go_split_ands
                go_wp2
                go_ret
                exact ⟨rfl, (on08.out.trans (by assumption)).below_no⟩
end Go.Proofs.Ytehnahikfemodaa.Ct
