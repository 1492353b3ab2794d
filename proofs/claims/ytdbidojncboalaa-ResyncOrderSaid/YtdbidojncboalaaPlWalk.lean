/- ResyncPlace's walk. -/
import Derived.Test.YtdbidojncboalaaPl
namespace Go.Proofs.Ytdbidojncboalaa.Ct
open Go.ChangeShapes Go.WideShapes Go.RowKit Mm Rs

theorem own_some {w : World} {b : Nat} {e : TypeId} {size n : Nat} {v : Value} {xs : List Value} (h : w.ownsRow b e size v n xs) (hn : 0 < n) : ∃ g c, v = .slice (some ⟨g, 0, none⟩) n c ∧ n ≤ c := by
  rcases h.2 with ⟨_, h2⟩ | ⟨g, cap, cur, h1, _, _, hnc, _⟩
  · omega
  · exact ⟨g, cap, h1, hnc⟩

theorem pcC_len (ps : List Piece) : (pcC ps).length = ps.length * 4 := by
  induction ps with
  | nil => rfl
  | cons a l ih => simp only [pcC, List.flatMap_cons, List.length_append, List.length_cons, List.length_nil] at ih ⊢; omega
set_option maxRecDepth 100000 in
set_option maxHeartbeats 3200000 in
theorem placelaw_any (A : Option Addr) (m c : Nat) (ps : List Piece) (n : Int) (w : World) (hr : Rds w 4 A m (pcC ps)) (hl : ps.length = m) (hm : m * 32 ≤ 140737488351232) (hR : ∀ p ∈ ps, -128 ≤ p.r ∧ p.r ≤ 127) :
    Calls Try.prog 5 #[.slice A m c, .int .i64 n] w (fun e w' => e = .returned (.bool true) ∧ Below w.heap.size w w') := by
  obtain ⟨i0, hi0, hz0, hz1, hz2⟩ := info_parts info48
  obtain ⟨i3, hi3, hy0, hy1, hy2⟩ := info_parts info3
  obtain ⟨i32, hi32, hx0, hx1, hx2⟩ := info_parts info32
  have HR := Lib.hid hr
  have HL := Lib.hid hl
  have HQ := Lib.hid hR
  clear hr hl hR
  by_cases hbig : 100000 < n ∧ n ≤ 1048576
  · have hd : decide (100000 < n ∧ n ≤ 1048576) = true := decide_eq_true hbig
    replace hbig := Lib.hid hbig
    go_enter Try.func5, Try.ntmps5
    go_wp2_with fail
    refine (large_any n w).mono ?_
    rintro e w1 ⟨rfl, rfl⟩
    rw [hd]
    go_wp2
    go_ret
    exact ⟨rfl, Below.refl _ _⟩
  · have hd : decide (100000 < n ∧ n ≤ 1048576) = false := decide_eq_false hbig
    obtain ⟨hlen1, hlen2⟩ := place_len (ps.map (·.r)) n hbig
    rw [List.length_map, HL.out] at hlen2
    replace hbig := Lib.hid hbig
    go_enter Try.func5, Try.ntmps5
    go_wp2_with fail
    refine (large_any n w).mono ?_
    rintro e w1 ⟨rfl, rfl⟩
    rw [hd]
    go_wp2_with fail
    refine (rplace_all A m c ps n w HR.out HL.out (by omega) HQ.out).mono ?_
    rintro e w1 ⟨v5, v6, rfl, h5, h6, ho1, g5, g6⟩
    obtain ⟨rs, hrs⟩ : ∃ rs, Hid (rs = ps.map (·.r)) := ⟨_, Lib.hid rfl⟩
    rw [← hrs.out] at h5 h6 hlen1 hlen2 ⊢
    obtain ⟨L, S, T, hP⟩ : ∃ L S T, Hid (place rs n = (L, S, T)) := ⟨_, _, _, Lib.hid rfl⟩
    rw [hP.out] at h5 h6 hlen1 hlen2 ⊢
    simp only at h5 h6 hlen1 hlen2 ⊢
    obtain ⟨A5, c5, rfl⟩ := own_slice h5
    obtain ⟨A6, c6, rfl⟩ := own_slice h6
    have l5 := own_lt h5
    have l6 := own_lt h6
    replace h5 := Lib.hid h5
    replace h6 := Lib.hid h6
    replace ho1 := Lib.hid ho1
    replace g5 := Lib.hid g5
    replace g6 := Lib.hid g6
    replace l5 := Lib.hid l5
    replace l6 := Lib.hid l6
    go_wp2_with (at_builtin; first | (refine Mm.wpList_append_any _ rfl (.tmp 29) (.tmp 30) _ rfl w1.heap.size 32 i32 _ 4 32 Try.underlying22 hi32 hx0 hx1 hx2 rfl (by omega) (.slice none 0 0) 0 [] rfl (World.ownsRow_nil _ _ _ _) A m c (pcC ps) rfl (HR.out.no ho1.out) (pcC_one _) (by simp only [maxLen]; omega) (by omega) (Nat.le_refl _) ?_; intro v2 w2 hown2 hon2 hat2; replace hown2 := Lib.hid hown2; replace hon2 := Lib.hid hon2; clear hat2) | (go_loud (refine Mm.wpList_append_any _ rfl (.tmp 32) (.tmp 34) _ rfl w1.heap.size 32 i32 _ 4 32 Try.underlying22 hi32 hx0 hx1 hx2 rfl (by omega) v2 (0 + m) (pcC ps) rfl ((by simpa using hown2.out : w2.ownsRow w1.heap.size 32 4 v2 (0 + m) (pcC ps)).alloc _) (some ⟨w2.heap.size, 0, none⟩) 1 1 [.int .i64 (-7), .int .i64 0, .int .i8 0, .int .i64 0] rfl (Rds.fresh (Blk.new _ _ _) rfl) (by simp [Value.oneCell']) (by simp only [maxLen]; omega) (by omega) (by have := hon2.out.size; simp; omega) ?_); intro v3 w3 hown3 hon3 hat3; obtain ⟨g8, c8, rfl, hc8⟩ := own_some hown3 (by omega); replace hown3 := Lib.hid hown3; replace hon3 := Lib.hid hon3; clear hat3))
    have g8a : Hid (w1.heap.size ≤ g8) := Lib.hid (own_ge hown3.out g8 rfl)
    have g8b : Hid (g8 < w3.heap.size) := Lib.hid (own_lt hown3.out g8 rfl)
    have on13 : Hid (Only No w1 w3) := Lib.hid (((hon2.out.mono (fun _ h => by simp [Value.ownBlock] at h)).alloc _).then hon3.out (fun i hi => .inr (own_ge hown2.out i hi)))
    have on03 : Hid (Only No w w3) := Lib.hid (ho1.out.trans on13.out)
    have hmine : Hid (Rds w3 4 (some ⟨g8, 0, none⟩) m (pcC ps)) := Lib.hid (by
      have h := Rds_take (k := m) (Rds.of_own hown3.out) (by omega)
      rwa [List.take_left' (by rw [pcC_len, HL.out])] at h)
    have h5c := Lib.hid (own_only h5.out on13.out (fun _ _ => id))
    have h6c := Lib.hid (own_only h6.out on13.out (fun _ _ => id))
    clear hown2 hon2 h5 h6
    refine (place_any (some ⟨g8, 0, none⟩) m c8 ps n w3 hmine.out HL.out (by omega) HQ.out).mono ?_
    rintro e w4 ⟨v10, v11, rfl, h10, h11, ho4⟩
    rw [← hrs.out, hP.out] at h10 h11 ⊢
    simp only at h10 h11 ⊢
    obtain ⟨A10, c10, rfl⟩ := own_slice h10
    obtain ⟨A11, c11, rfl⟩ := own_slice h11
    have l10 := Lib.hid (own_lt h10)
    have l11 := Lib.hid (own_lt h11)
    have g10 := Lib.hid (own_ge h10)
    have g11 := Lib.hid (own_ge h11)
    have n1011 := Lib.hid (own_ne h10 h11 (by decide))
    replace h10 := Lib.hid h10
    replace h11 := Lib.hid h11
    replace ho4 := Lib.hid ho4
    go_wp2_with fail
    refine (place_any (some ⟨g8, 0, none⟩) m c8 ps n w4 (hmine.out.no ho4.out) HL.out (by omega) HQ.out).mono ?_
    rintro e w5 ⟨v13, v14, rfl, h13, h14, ho5⟩
    rw [← hrs.out, hP.out] at h13 h14 ⊢
    simp only at h13 h14 ⊢
    obtain ⟨A13, c13, rfl⟩ := own_slice h13
    obtain ⟨A14, c14, rfl⟩ := own_slice h14
    have g13 := Lib.hid (own_ge h13)
    have g14 := Lib.hid (own_ge h14)
    have on35 := Lib.hid (ho4.out.trans ho5)
    have h5d := Lib.hid (own_only h5c.out on35.out (fun _ _ => id))
    have h6d := Lib.hid (own_only h6c.out on35.out (fun _ _ => id))
    have h8d := Lib.hid (own_only hown3.out on35.out (fun _ _ => id))
    have h10d := Lib.hid (own_only h10.out ho5 (fun _ _ => id))
    have h11d := Lib.hid (own_only h11.out ho5 (fun _ _ => id))
    replace h13 := Lib.hid h13
    replace h14 := Lib.hid h14
    have s45 := Lib.hid ho5.size
    have s34 := Lib.hid ho4.out.size
    have s13 := Lib.hid on13.out.size
    have s01 := Lib.hid ho1.out.size
    clear ho5 h5c h6c hown3 h10 h11 hon3
    go_wp2_with fail
    refine (same_yes A10 A5 c10 c5 L L.length w5 (Rds.of_own h10d.out) (Rds.of_own h5d.out) rfl (by omega)).mono ?_
    rintro e w6 ⟨rfl, q6⟩
    replace q6 := Lib.hid q6
    go_wp2_with fail
    refine (same_yes A13 A5 c13 c5 L L.length w6 ((Rds.of_own h13.out).no q6.out) ((Rds.of_own h5d.out).no q6.out) rfl (by omega)).mono ?_
    rintro e w7 ⟨rfl, q7⟩
    replace q7 := Lib.hid (q6.out.trans q7)
    go_wp2_with fail
    refine (ints_yes A11 A6 c11 c6 S S.length w7 ((Rds.of_own h11d.out).no q7.out) ((Rds.of_own h6d.out).no q7.out) rfl (by omega)).mono ?_
    rintro e w8 ⟨rfl, q8⟩
    replace q8 := Lib.hid (q7.out.trans q8)
    go_wp2_with fail
    refine (ints_yes A14 A6 c14 c6 S S.length w8 ((Rds.of_own h14.out).no q8.out) ((Rds.of_own h6d.out).no q8.out) rfl (by omega)).mono ?_
    rintro e w9 ⟨rfl, q9⟩
    replace q9 := Lib.hid (q8.out.trans q9)
    clear q6 q7 q8
    have h5e := Lib.hid (own_only h5d.out q9.out (fun _ _ => id))
    have h6e := Lib.hid (own_only h6d.out q9.out (fun _ _ => id))
    have h8e := Lib.hid (own_only h8d.out q9.out (fun _ _ => id))
    have h10e := Lib.hid (own_only h10d.out q9.out (fun _ _ => id))
    have h11e := Lib.hid (own_only h11d.out q9.out (fun _ _ => id))
    have h13e := Lib.hid (own_only h13.out q9.out (fun _ _ => id))
    have h14e := Lib.hid (own_only h14.out q9.out (fun _ _ => id))
    have s59 := Lib.hid q9.out.size
    have on09 := Lib.hid ((on03.out.trans on35.out).trans q9.out)
    clear h5d h6d h8d h10d h11d h13 h14 q9 on35 ho4 hmine on13 on03 ho1
    go_wp2_with fail
    refine (spoil_any w3.heap.size c10 A10 L (-9) w9 h10e.out (by omega) (by have := s34.out; have := s45.out; have := s59.out; omega)).mono ?_
    rintro e w10 ⟨A16, c16, rfl, x16, x10, ho10, x16b⟩
    have s90 := Lib.hid ho10.size
    have h5f := Lib.hid (own_only h5e.out ho10 (fun i hi hg => by have := l5.out i hi; have := g10.out i hg; have := s13.out; omega))
    have h6f := Lib.hid (own_only h6e.out ho10 (fun i hi hg => by have := l6.out i hi; have := g10.out i hg; have := s13.out; omega))
    have h8f := Lib.hid (own_only h8e.out ho10 (fun i hi hg => by have hi' : g8 = i := Option.some.inj hi; have := g10.out i hg; have := g8b.out; omega))
    have h11f := Lib.hid (own_only h11e.out ho10 (fun i hi hg => n1011.out i hg hi))
    have h13f := Lib.hid (own_only h13e.out ho10 (fun i hi hg => by have := g13.out i hi; have := l10.out i hg; omega))
    have h14f := Lib.hid (own_only h14e.out ho10 (fun i hi hg => by have := g14.out i hi; have := l10.out i hg; omega))
    have on010 := Lib.hid (on09.out.then ho10 (fun i hi => .inr (by have := g10.out i hi; have := s13.out; have := s01.out; omega)))
    replace x16 := Lib.hid x16
    replace x10 := Lib.hid x10
    replace x16b := Lib.hid x16b
    clear ho10 h5e h6e h8e h10e h11e h13e h14e on09
    go_wp2_with fail
    go_loopw [17] (fun v17 wr => ∃ i : Nat, v17 = .int .i64 i ∧ i ≤ S.length ∧ Hid ((∃ xs, wr.ownsRow w3.heap.size 3 1 (.slice A11 S.length c11) S.length xs) ∧ Only (fun k => (Value.slice A11 S.length c11).ownBlock = some k) w10 wr)) (fun v17 _ => S.length - (intOf v17).toNat)
    case atStart => exact ⟨0, rfl, by omega, Lib.hid ⟨⟨_, h11f.out⟩, Only.refl _ _⟩⟩
    case round =>
      obtain ⟨i, rfl, hi, hO⟩ := hrel
      by_cases hlt : i < S.length
      · have hlt' : (i : Int) < S.length := by omega
        obtain ⟨⟨xs, hxs⟩, hon⟩ := hO.out
        obtain ⟨g, cc, he, _⟩ := own_some hxs (by omega)
        have e1 : A11 = some ⟨g, 0, none⟩ := by injection he
        obtain rfl := e1
        have f0 := hxs.frozenAt i
        obtain ⟨u0, hu0⟩ : ∃ u, wr.cell? ⟨g, i, none⟩ = some u := by
          rw [hxs.cellAt i (by omega)]
          have hxl := hxs.1
          exact ⟨_, List.getElem?_eq_getElem (by omega)⟩
        have hset := Lib.hid (show (∃ xs, (wr.setCell ⟨g, i, none⟩ (.int .i64 (-8))).ownsRow w3.heap.size 3 1 (.slice (some ⟨g, 0, none⟩) S.length c11) S.length xs) ∧ Only (fun k => (Value.slice (some ⟨g, 0, none⟩) S.length c11).ownBlock = some k) w10 (wr.setCell ⟨g, i, none⟩ (.int .i64 (-8))) from ⟨⟨_, (hxs.stored i (.int .i64 (-8))).1⟩, hon.setCell (p := ⟨g, i, none⟩) (.inl rfl) _⟩)
        clear hxs hon hO
        go_wp2
        go_roundw
        case rel => exact ⟨i + 1, by go_num, by omega, hset⟩
        case measure => simp [intOf]; omega
      · have hlt' : ¬ (i : Int) < S.length := by omega
        clear hi
        obtain ⟨⟨xs0, hxs0⟩, hon11⟩ := hO.out
        obtain ⟨w11, rfl⟩ : ∃ w11 : World, w11 = wr := ⟨_, rfl⟩
        replace hxs0 := Lib.hid hxs0
        replace hon11 := Lib.hid hon11
        have s10 := Lib.hid hon11.out.size
        clear hO
        go_wp2_with fail
        go_loopw [11, 18] (fun v11 v18 wr => ∃ j : Nat, v18 = .int .i64 j ∧ j ≤ 20 ∧ Hid ((∃ xs, wr.ownsRow w3.heap.size 3 1 v11 (S.length + j) xs) ∧ Only (fun k => (Value.slice A11 S.length c11).ownBlock = some k) w10 wr ∧ (v11.ownBlock = (Value.slice A11 S.length c11).ownBlock ∨ ∀ k, v11.ownBlock = some k → w10.heap.size ≤ k))) (fun _ v18 _ => 20 - (intOf v18).toNat)
        case atStart => exact ⟨0, rfl, by omega, Lib.hid ⟨⟨_, hxs0.out⟩, hon11.out, .inl rfl⟩⟩
        case round =>
          obtain ⟨j, rfl, hj, hO⟩ := hrel
          by_cases hlt : j < 20
          · have hlt2 : (j : Int) < 20 := by omega
            obtain ⟨⟨xs, hxs⟩, hon, hat⟩ := hO.out
            obtain ⟨A0, c0, rfl⟩ := own_slice hxs
            replace hxs := Lib.hid hxs
            replace hon := Lib.hid hon
            replace hat := Lib.hid hat
            clear hO
            go_wp2_with (at_builtin; go_loud (refine Mm.wpList_append_any _ rfl (.tmp 101) (.tmp 102) _ rfl w3.heap.size 3 i3 _ 1 8 Try.underlying39 hi3 hy0 hy1 hy2 rfl (by omega) (.slice A0 (S.length + j) c0) (S.length + j) xs rfl (hxs.out.alloc _) (some ⟨wr.heap.size, 0, none⟩) 1 1 [.int .i64 (-8)] rfl (Rds.fresh (Blk.new _ _ _) rfl) (by simp [Value.oneCell']) (by simp only [maxLen]; omega) (by omega) (by have := hon.out.size; have := s34.out; have := s45.out; have := s59.out; have := s90.out; simp; omega) ?_); intro v4 w13 hown4 hon4 hat4)
            have hnew := Lib.hid (show (∃ xs, w13.ownsRow w3.heap.size 3 1 v4 (S.length + (j + 1)) xs) ∧ Only (fun k => (Value.slice A11 S.length c11).ownBlock = some k) w10 w13 ∧ (v4.ownBlock = (Value.slice A11 S.length c11).ownBlock ∨ ∀ k, v4.ownBlock = some k → w10.heap.size ≤ k) from by
              refine ⟨⟨_, hown4⟩, (hon.out.alloc _).then hon4 (fun k hk => ?_), ?_⟩
              · rcases hat.out with h | h
                · left; rw [← h]; exact hk
                · exact .inr (h k hk)
              · rcases hat4 with h | h
                · rcases hat.out with h' | h'
                  · left; rw [h]; exact h'
                  · right; intro k hk; rw [h] at hk; exact h' k hk
                · right; intro k hk; rw [h] at hk; injection hk with hk
                  have := hon.out.size
                  simp at hk; omega)
            clear hown4 hon4 hat4
            go_roundw
            case rel => exact ⟨j + 1, by go_num, by omega, hnew⟩
            case measure => simp [intOf]; omega
          · have hlt2 : ¬ (j : Int) < 20 := by omega
            clear hj
            obtain ⟨_, hon, _⟩ := hO.out
            obtain ⟨w12, rfl⟩ : ∃ w12 : World, w12 = wr := ⟨_, rfl⟩
            have h5g := Lib.hid (own_only h5f.out hon (fun i hi hg => by have := l5.out i hi; have := g11.out i hg; have := s13.out; omega))
            have h6g := Lib.hid (own_only h6f.out hon (fun i hi hg => by have := l6.out i hi; have := g11.out i hg; have := s13.out; omega))
            have h8g := Lib.hid (own_only h8f.out hon (fun i hi hg => by have hi' : g8 = i := Option.some.inj hi; have := g11.out i hg; have := g8b.out; omega))
            have h13g := Lib.hid (own_only h13f.out hon (fun i hi hg => by have := g13.out i hi; have := l11.out i hg; omega))
            have h14g := Lib.hid (own_only h14f.out hon (fun i hi hg => by have := g14.out i hi; have := l11.out i hg; omega))
            have x10g := Lib.hid (x10.out.only hon (fun _ ad e hk => n1011.out ad.block (by simp [Value.ownBlock, e]) hk))
            have x16g := Lib.hid (x16.out.only hon (fun _ ad e hk => by
              rcases x16b.out ad.block (by simp [Value.ownBlock, e]) with h | h
              · exact n1011.out ad.block h hk
              · have := l11.out _ hk; have := s45.out; have := s59.out; omega))
            have on012 := Lib.hid (on010.out.then hon (fun i hi => .inr (by have := g11.out i hi; have := s13.out; have := s01.out; omega)))
            have hmine2 : Hid (Rds w12 4 (some ⟨g8, 0, none⟩) m (pcC ps)) := Lib.hid (by
              have h := Rds_take (k := m) (Rds.of_own h8g.out) (by omega)
              rwa [List.take_left' (by rw [pcC_len, HL.out])] at h)
            have hlong2 : Hid (Rds w12 4 (some ⟨g8, 0, none⟩) (m + 1) (pcC (ps ++ [⟨-7, 0, 0, 0⟩]))) := Lib.hid (by
              have h := Rds.of_own h8g.out
              rw [pcC_append]
              rw [show 0 + m + 1 = m + 1 by omega] at h
              exact h)
            clear hon hO hxs0 hon11 h5f h6f h8f h11f h13f h14f x10 x16
            go_wp2_with fail
            go_loopw [19] (fun v19 wr => ∃ i : Nat, v19 = .int .i64 i ∧ i ≤ m ∧ Hid (Only No w12 wr)) (fun v19 _ => m - (intOf v19).toNat)
            case atStart => exact ⟨0, rfl, by omega, Lib.hid (Only.refl _ _)⟩
            case round =>
              obtain ⟨i, rfl, hi, hO⟩ := hrel
              by_cases hlt : i < m
              · have hlt3 : (i : Int) < m := by omega
                have hlt4 : (i : Int) < m + 1 := by omega
                obtain ⟨ad, rfl, p0, p1, p2, p3, pb⟩ := piece_cells (HR.out.no (on012.out.trans hO.out)) HL.out i hlt
                obtain ⟨ad2, e2, q0, q1, q2, q3, qb⟩ := piece_cells (hmine2.out.no hO.out) HL.out i hlt
                obtain rfl := Option.some.inj e2
                generalize ps[i]'(by rw [HL.out]; exact hlt) = u at p0 p1 p2 p3 q0 q1 q2 q3
                clear e2
                simp only [Mm.add_plain] at q0 q1 q2 q3
                go_wp2_with fail
                go_quiet (fail)
                go_wp2
                go_roundw
                case rel => exact ⟨i + 1, by go_num, by omega, Lib.hid (by first | exact hO.out | exact hO.out.drewN _)⟩
                case measure => simp [intOf]; omega
              · have hlt3 : ¬ (i : Int) < m := by omega
                clear hi
                obtain ⟨w20, rfl⟩ : ∃ w20 : World, w20 = wr := ⟨_, rfl⟩
                go_wp2_with fail
                refine (full_yes A16 c16 (-9) (L.length + 20) w20 (x16g.out.no hO.out) (by omega)).mono ?_
                rintro e w21 ⟨rfl, q21⟩
                replace q21 := Lib.hid (hO.out.trans q21)
                go_wp2_with fail
                refine (full_yes A10 c10 (-9) L.length w21 (x10g.out.no q21.out) (by omega)).mono ?_
                rintro e w22 ⟨rfl, q22⟩
                replace q22 := Lib.hid (q21.out.trans q22)
                go_wp2_with fail
                refine (same_yes A13 A5 c13 c5 L L.length w22 ((Rds.of_own h13g.out).no q22.out) ((Rds.of_own h5g.out).no q22.out) rfl (by omega)).mono ?_
                rintro e w23 ⟨rfl, q23⟩
                replace q23 := Lib.hid (q22.out.trans q23)
                go_wp2_with fail
                refine (ints_yes A14 A6 c14 c6 S S.length w23 ((Rds.of_own h14g.out).no q23.out) ((Rds.of_own h6g.out).no q23.out) rfl (by omega)).mono ?_
                rintro e w24 ⟨rfl, q24⟩
                replace q24 := Lib.hid (q23.out.trans q24)
                obtain ⟨ad2, e2, r0, r1, r2, r3, rb⟩ := piece_cells (hlong2.out.no q24.out) (by simp [HL.out]) m (by omega)
                obtain rfl := Option.some.inj e2
                have hlast : (ps ++ [(⟨-7, 0, 0, 0⟩ : Piece)])[m]'(by simp [HL.out]) = ⟨-7, 0, 0, 0⟩ := by
                  rw [List.getElem_append_right (by rw [HL.out]; omega)]
                  simp [HL.out]
                rw [hlast] at r0 r1 r2 r3
                simp only [Mm.add_plain] at r0 r1 r2 r3
                have hlt5 : (m : Int) < m + 1 := by omega
                clear e2 hlast
                go_wp2
                go_ret
                exact ⟨rfl, (on012.out.trans q24.out).below_no⟩
end Go.Proofs.Ytdbidojncboalaa.Ct
