/- Best: the walk. -/
import Derived.Test.YtjkeampckinniaaBe
namespace Go.Proofs.Ytjkeampckinniaa.Ct
open Go.ChangeShapes Go.WideShapes Go.RowKit Mm
set_option maxRecDepth 100000 in
set_option maxHeartbeats 2000000 in
theorem best17 (w : World) (A : Option Addr) (c : Nat) (cs : List Int) (hr : Rds w 1 A cs.length (inC cs)) (limit : Int) :
    Calls Try.prog 17 #[.slice A cs.length c, .int .i64 limit] w (BestPost w cs limit) := by
  obtain ⟨i0, hi0, hz0, hz1, hz2⟩ := info_parts info3
  have hmf : ∀ (fn : Fn) (first cap : Array Value) (w : World), (Instr.makeFunc fn first cap).run Try.prog w = .ok (.func fn first cap) w := fun _ _ _ _ => rfl
  have hR := Lib.hid hr
  clear hr
  by_cases h1 : 1024 < cs.length
  · have h1' : (1024 : Int) < cs.length := by omega
    have hp : bestP cs limit = .inl 4 := by unfold bestP; rw [if_pos h1]
    unfold BestPost
    rw [hp]
    clear hp
    go_enter Try.func17, Try.ntmps17
    go_wp2_with fail
    go_ret2
    exact ⟨rfl, (Only.refl No w).alloc _⟩
  · have h1' : ¬ (1024 : Int) < cs.length := by omega
    go_enter Try.func17, Try.ntmps17
    go_wp2_with fail
    obtain ⟨w1, hw1⟩ : ∃ x, x = w.alloc (.cells #[.slice A cs.length c] 22) := ⟨_, rfl⟩
    have o1 : Hid (Only No w w1) := Lib.hid (by rw [hw1]; exact (Only.refl No w).alloc _)
    have hB := Lib.hid (show Blk w1 w.heap.size 22 #[.slice A cs.length c] by rw [hw1]; exact Blk.new _ _ _)
    rw [← hw1]
    clear hw1
    go_loopw [6, 14] (fun v6 v14 wr => ∃ i : Nat, v14 = .int .i64 i ∧ i ≤ cs.length ∧ Hid (wr.ownsRow w1.heap.size 3 1 v6 (thgTo cs i).length (nC (thgTo cs i)) ∧ Only No w1 wr ∧ (cs.take i).all mayB = true)) (fun _ v14 _ => cs.length - (intOf v14).toNat)
    case atStart => exact ⟨0, rfl, by omega, Lib.hid ⟨World.ownsRow_nil _ _ _ _, Only.refl _ _, by simp⟩⟩
    case round =>
      obtain ⟨i, rfl, hi, hO⟩ := hrel
      by_cases hlt : i < cs.length
      · have hlt' : (i : Int) < cs.length := by omega
        obtain ⟨ad, rfl, hcell⟩ := (hR.out.no (o1.out.trans hO.out.2.1)).at_ (i := i) (by omega) (inC_get hlt)
        have hsu := Lib.hid (thgTo_succ cs i)
        have hat := Lib.hid (fun e => all_take (i := i) hlt e hO.out.2.2)
        have hab := Lib.hid (fun e => all_bad (i := i) hlt e)
        have hmy := Lib.hid (fun w => may46 w (cs.getD i 0))
        have hle : (thgTo cs i).length ≤ i := by
          have := List.length_filter_le (fun i => decide (0 < cs.getD i 0)) (List.range i)
          rw [List.length_range] at this
          exact this
        generalize cs.getD i 0 = x at *
        have hownA := Lib.hid hO.out.1
        have hoA := Lib.hid hO.out.2.1
        have hszA := hO.out.2.1.size
        clear hO
        by_cases hm : mayB x = true
        · rw [hm] at hmy
          by_cases hx : 0 < x
          · go_wp2_with (first
              | (go_at_call 46; (with_reducible refine (hmy.out _).mono ?_); rintro e w' ⟨rfl, rfl⟩)
              | (at_builtin; refine wpList_append_any _ rfl (.tmp 24) (.tmp 26) 22 rfl w1.heap.size 3 i0 (.int .i64 0) 1 8 Try.underlying22 hi0 hz0 hz1 hz2 rfl (by decide) _ _ (nC (thgTo cs i)) rfl (own_only hownA.out ((Only.refl No _).alloc _) fun _ _ => id) _ 1 1 [.int .i64 (i : Nat)] rfl (Rds.fresh (n := 1) (size := 1) (Blk.new' 3 #[.int .i64 (i : Nat)] (by simp)) rfl) ?c1 ?c2 ?c3 ?c4 ?_))
            case c1 => first | rfl | (intro u hu; simp at hu; subst hu; rfl)
            case c2 => unfold maxLen; omega
            case c3 => omega
            case c4 => first | omega | (simp; omega)
            intro v' w2 own' o' _
            have hnew : Hid (w2.ownsRow w1.heap.size 3 1 v' (thgTo cs (i + 1)).length (nC (thgTo cs (i + 1))) ∧ Only No w1 w2 ∧ (cs.take (i + 1)).all mayB = true) := Lib.hid ⟨by
              rw [hsu.out, if_pos hx, List.length_append]
              rw [show nC (thgTo cs i) ++ [.int .i64 (i : Nat)] = nC (thgTo cs i ++ [i]) by simp [nC]] at own'
              exact own', (hoA.out.alloc _).then o' fun k hk => .inr (own_ge hownA.out k hk), hat.out hm⟩
            clear own' o' hownA hoA
            go_wp2_with fail
            refine ⟨?ex3, ?measure3⟩
            case measure3 => simp [intOf]; omega
            case ex3 => exact ⟨i + 1, by go_num, by omega, hnew⟩
          · have hnew : Hid (wr.ownsRow w1.heap.size 3 1 u6 (thgTo cs (i + 1)).length (nC (thgTo cs (i + 1))) ∧ Only No w1 wr ∧ (cs.take (i + 1)).all mayB = true) := Lib.hid ⟨by
              rw [hsu.out, if_neg hx]
              exact hownA.out, hoA.out, hat.out hm⟩
            clear hownA hoA
            go_wp2_with (go_at_call 46; (with_reducible refine (hmy.out _).mono ?_); rintro e w' ⟨rfl, rfl⟩)
            go_roundw
            case rel => exact ⟨i + 1, by go_num, by omega, hnew⟩
            case measure => simp [intOf]; omega
        · have hm' : mayB x = false := by simpa using hm
          rw [hm'] at hmy
          have hp : bestP cs limit = .inl 1 := by unfold bestP; rw [if_neg h1, if_pos (hab.out hm')]
          replace hp := Lib.hid hp
          go_wp2_with (go_at_call 46; (with_reducible refine (hmy.out _).mono ?_); rintro e w' ⟨rfl, rfl⟩)
          go_ret2
          unfold BestPost
          rw [hp.out]
          exact ⟨rfl, o1.out.trans hoA.out⟩
      · obtain rfl : i = cs.length := by omega
        have hall : cs.all mayB = true := by have := hO.out.2.2; rwa [List.take_length] at this
        have htm := Lib.hid (fun t (h : t ∈ thg cs) => thg_mem h)
        have htl := thg_len cs
        have hthg : Hid (thgTo cs cs.length = thg cs) := Lib.hid rfl
        obtain ⟨hown, hoW, _⟩ := hO.out
        rw [hthg.out] at hown
        have hbp : bestP cs limit = if (thg cs).length = 0 then .inl 50 else if limit < 1 ∨ 32 < limit ∨ 2 ^ limit.toNat < (thg cs).length then .inl 51 else .inr (rowsP (thg cs) (cwI cs) cs.length limit.toNat) := by
          unfold bestP
          rw [if_neg h1, if_neg (by rw [hall]; simp)]
        have hall2 : Hid (∀ t ∈ thg cs, cwI cs t ≤ 1099511627776 ∧ ((cwI cs t : Nat) : Int) = cs.getD t 0) := Lib.hid fun t ht => by
          obtain ⟨h5, h6⟩ := htm.out t ht
          have h7 := (List.all_eq_true.1 hall) cs[t] (List.getElem_mem h5)
          unfold cwI
          simp only [List.getD_eq_getElem?_getD, List.getElem?_eq_getElem h5, Option.getD_some] at h6 ⊢
          have h8 := of_decide_eq_true h7
          omega
        generalize thg cs = ts at *
        obtain ⟨A6, c6, rfl⟩ := own_slice hown
        have hB' := Lib.hid (hB.out.only hoW id)
        have hbc := hB'.out.cell 0
        simp only [List.getElem?_toArray, List.getElem?_cons_zero] at hbc
        have hRx := Lib.hid (hR.out.no (o1.out.trans hoW))
        have hRt := Lib.hid (Rds.of_own hown)
        have oA := Lib.hid (o1.out.trans hoW)
        replace hbp := Lib.hid hbp
        clear hO hown hoW hthg hR hB o1 hall
        by_cases h0 : ts.length = 0
        · have h0' : ((ts.length : Int) == 0) = true := by rw [h0]; rfl
          have hp : Hid (bestP cs limit = .inl 50) := Lib.hid (by rw [hbp.out, if_pos h0])
          go_wp2_with fail
          go_ret2
          unfold BestPost
          rw [hp.out]
          exact ⟨rfl, oA.out⟩
        · have h0' : ((ts.length : Int) == 0) = false := by rw [beq_eq_false_iff_ne]; omega
          by_cases hl1 : limit < 1
          · have hp : Hid (bestP cs limit = .inl 51) := Lib.hid (by rw [hbp.out, if_neg h0, if_pos (.inl hl1)])
            go_wp2_with fail
            go_ret2
            unfold BestPost
            rw [hp.out]
            exact ⟨rfl, oA.out⟩
          · by_cases hl2 : 32 < limit
            · have hp : Hid (bestP cs limit = .inl 51) := Lib.hid (by rw [hbp.out, if_neg h0, if_pos (.inr (.inl hl2))])
              have hl1' : decide (limit < 1) = false := decide_eq_false hl1
              go_wp2_with fail
              go_ret2
              unfold BestPost
              rw [hp.out]
              exact ⟨rfl, oA.out⟩
            · obtain ⟨L, rfl⟩ : ∃ L : Nat, limit = (L : Int) := ⟨limit.toNat, by omega⟩
              have hL1 : 1 ≤ L := by omega
              have hL2 : L ≤ 32 := by omega
              have hl1' : ¬ (L : Int) < 1 := by omega
              have hpw : 2 ^ L ≤ 4294967296 := by
                have : 2 ^ L ≤ 2 ^ 32 := Nat.pow_le_pow_right (by omega) hL2
                omega
              obtain ⟨P2, hP2⟩ : ∃ P2 : Nat, P2 = 2 ^ L := ⟨_, rfl⟩
              have hw64 : wrap64 ((2 : Int) ^ L) = (P2 : Int) := by
                rw [hP2, show ((2 : Int) ^ L) = ((2 ^ L : Nat) : Int) by push_cast; rfl]
                exact IntWalk.wrap64_in _ (by omega)
              by_cases hfit : P2 < ts.length
              · have hp : Hid (bestP cs (L : Int) = .inl 51) := Lib.hid (by rw [hbp.out, if_neg h0, if_pos (.inr (.inr (by rw [Int.toNat_natCast, ← hP2]; exact hfit)))])
                have hfit' : (P2 : Int) < ts.length := by omega
                replace hP2 := Lib.hid hP2
                go_wp2_with fail
                go_ret2
                unfold BestPost
                rw [hp.out]
                exact ⟨rfl, oA.out⟩
              · have hp : Hid (bestP cs (L : Int) = .inr (rowsP ts (cwI cs) cs.length L)) := Lib.hid (by
                  rw [hbp.out, if_neg h0, if_neg, Int.toNat_natCast]
                  rintro (h | h | h)
                  · omega
                  · omega
                  · rw [Int.toNat_natCast, ← hP2] at h; exact hfit h)
                have hfit' : ¬ (P2 : Int) < ts.length := by omega
                have hrows := Lib.hid (rows47_48 wr A6 c6 ts hRt.out w.heap.size (cwI cs) (fun w' o t ht => by
                  have h7 := get48 w' w.heap.size A c cs (hB'.out.only o id) (hRx.out.no o) t (htm.out t ht).1
                  rw [← (hall2.out t ht).2] at h7
                  exact h7) cs.length L (fun t ht => (htm.out t ht).1) (by omega) (by omega) (by omega) hL1 hL2 (by omega) (fun t ht => (hall2.out t ht).1))
                have hsz := oA.out.size
                replace hP2 := Lib.hid hP2
                go_wp2_with fail
                refine hrows.out.mono ?_
                rintro e w2 ⟨T, rfl, own2, o2⟩
                have ho2 := Lib.hid own2
                have hoo := Lib.hid (oA.out.trans o2)
                clear own2 o2 hrows
                go_wp2_with fail
                go_ret2
                unfold BestPost
                rw [hp.out]
                exact ⟨T, rfl, own_base ho2.out (fun i hi => Nat.le_trans hsz (own_ge ho2.out i hi)), hoo.out⟩
end Go.Proofs.Ytjkeampckinniaa.Ct
