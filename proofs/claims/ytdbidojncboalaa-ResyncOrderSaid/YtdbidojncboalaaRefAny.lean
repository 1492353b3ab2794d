/- The reference's Take, whole; its Place. -/
import Derived.Test.YtdbidojncboalaaRefTake
namespace Go.Proofs.Ytdbidojncboalaa.Ct
open Go.ChangeShapes Go.WideShapes Go.RowKit Mm Rs

/-- the strays behind a piece -/
def sf (t : Tr) (r : Int) (s : List Int) : List Int := if (take t r).1.length = 0 ∧ (take t r).2.done = false then s ++ [t.taken] else s
theorem RT.like {w : World} {F : Nat → Prop} {g : Nat} {t t' : Tr} {l : List Slot} {s : List Int} (h : RT w F g t l s) (h1 : t'.N = t.N) (h2 : t'.taken = t.taken) (h3 : t'.done = t.done) (h4 : t'.stray = t.stray) : RT w F g t' l s := by
  obtain ⟨vS, vR, hb, rest⟩ := h
  refine ⟨vS, vR, ?_, rest⟩
  rw [h1, h2, h3, h4]
  exact hb
theorem Took.like {F : Nat → Prop} {g : Nat} {t t' : Tr} {l x x' : List Slot} {s s' : List Int} {w w' : World} {e : Ending} (h : Took F g t l x s w e w') (hx : x' = x) (hs : s' = s) (h1 : t'.N = t.N) (h2 : t'.taken = t.taken) (h3 : t'.done = t.done) (h4 : t'.stray = t.stray) : Took F g t' l x' s' w e w' := by
  subst hx hs
  obtain ⟨v, he, ho, hr, hon⟩ := h
  exact ⟨v, he, ho, hr.like h1 h2 h3 h4, hon⟩
theorem rtake_any (F : Nat → Prop) (t : Tr) (l : List Slot) (s : List Int) (a b r d : Int) (g : Nat) (w : World) (h : RT w F g t l s) (hn : t.next = l.length) (ok : Ok t) (hN : t.N ≤ 1048576) (tk : t.taken ≤ 4398046511104) (hs : (s.length : Int) ≤ t.taken) (hr : r ≤ 127) :
    Calls Try.prog 15 #[P g, Pc a b r d] w (Took F g (take t r).2 l (take t r).1 (sf t r s) w) := by
  obtain ⟨o0, o1, o2⟩ := ok
  by_cases hd : t.done = true
  · refine (rtake_done F t l s a b r d g w h hd).mono fun e w' hh => hh.like ?_ ?_ ?_ ?_ ?_ ?_
    all_goals simp [sf, take, hd]
  · have hd' : t.done = false := by simpa using hd
    by_cases hr0 : r < 0
    · by_cases hr1 : r = -1
      · by_cases h1 : t.N - t.next = 1
        · refine (rtake_last F t l s a b r d g w _ h hd' (by omega) hN tk o2 hr1 (by omega) rfl).mono fun e w' hh => hh.like ?_ ?_ ?_ ?_ ?_ ?_
          all_goals simp [sf, take, hd', hr1, h1]
        · refine (rtake_lost F t l s a b r d g w _ h hd' (by omega) hN tk o2 hr1 (by omega) rfl).mono fun e w' hh => hh.like ?_ ?_ ?_ ?_ ?_ ?_
          all_goals
            have ht : take t r = (List.replicate (t.N - t.next).toNat (t.taken, 5), { t with next := t.N, taken := t.taken + 1, done := true }) := by unfold take; rw [if_neg hd, if_pos hr0, if_neg (by simpa using hr1), if_neg h1]
            rw [hn] at ht
            simp [sf, ht]
      · refine (rtake_cut F t l s a b r d g w _ h hd' (by omega) hN tk o2 (by omega) rfl).mono fun e w' hh => hh.like ?_ ?_ ?_ ?_ ?_ ?_
        all_goals simp [sf, take, hd', hr0, hr1, hn]
    · obtain ⟨D, hD⟩ : ∃ D : Nat, (D : Int) = (r - l.length) % 8 := ⟨((r - l.length) % 8).toNat, by omega⟩
      have hD2 : (r - t.next) % 8 = D := by rw [hn, hD]
      by_cases h1 : t.N - 1 ≤ (l.length : Int) + D
      · refine (rtake_stray F t l s a b r d g w _ h hd' (by omega) hN tk o2 (by omega) hr D hD h1 hs rfl).mono fun e w' hh => hh.like ?_ ?_ ?_ ?_ ?_ ?_
        all_goals
          have h2 : (r - t.next) % 8 ≥ t.N - t.next - 1 := by omega
          have ht : take t r = ([], { t with taken := t.taken + 1, stray := true }) := by unfold take; rw [if_neg hd, if_neg hr0, if_pos h2]
          simp [sf, ht, hd']
      · have h2 : ¬ (r - t.next) % 8 ≥ t.N - t.next - 1 := by omega
        by_cases h0 : D = 0
        · refine (rtake_placed F t l s a b r d g w _ h hd' (by omega) hN tk o2 (by omega) hr D hD h1 h0 rfl).mono fun e w' hh => hh.like ?_ ?_ ?_ ?_ ?_ ?_
          all_goals
            have h3 : (r - t.next) % 8 = 0 := by omega
            have ht : take t r = ([(t.taken, placedI t)], { t with next := t.next + 1, taken := t.taken + 1, stray := false }) := by unfold take; rw [if_neg hd, if_neg hr0, if_neg h2, if_pos h3]
            simp [sf, ht]
        · refine (rtake_given F t l s a b r d g w _ h hd' (by omega) hN tk o2 (by omega) hr D hD h1 h0 rfl).mono fun e w' hh => hh.like ?_ ?_ ?_ ?_ ?_ ?_
          all_goals
            have h3 : ¬ (r - t.next) % 8 = 0 := by omega
            have ht : take t r = (List.replicate ((r - t.next) % 8 + 1).toNat (t.taken, 5), { t with next := t.next + ((r - t.next) % 8 + 1), taken := t.taken + 1 }) := by unfold take; rw [if_neg hd, if_neg hr0, if_neg h2, if_neg h3]
            rw [hD2, show ((D : Int) + 1).toNat = D + 1 by omega] at ht
            simp [sf, ht]

structure RInv (rs : List Int) (n : Int) (w : World) (g k : Nat) (t : Tr) (L : List Slot) (S : List Int) (wr : World) : Prop where
  rt : ∃ F, RT wr F g t L S ∧ (∀ i, F i → w.heap.size ≤ i)
  only : Only No w wr
  ok : Ok t
  N : t.N = n
  tk : t.taken = k
  next : t.next = L.length
  few : (S.length : Int) ≤ k
  go : placeGo t k (rs.drop k) L S = placeGo (new n) 0 rs [] []
theorem RInv.step {rs : List Int} {n : Int} {w : World} {g k : Nat} {t : Tr} {L : List Slot} {S : List Int} {wr w' : World} (hI : RInv rs n w g k t L S wr) {r : Int} (hr : rs[k]? = some r) (hd : t.done = false) {F F' : Nat → Prop}
    (hF : ∀ i, F i → w.heap.size ≤ i) (hr' : RT w' F g (take t r).2 (L ++ (take t r).1) (sf t r S)) (ho : Only F' wr w') (hF' : ∀ i, F' i → w.heap.size ≤ i) : RInv rs n w g (k + 1) (take t r).2 (L ++ (take t r).1) (sf t r S) w' := by
  have hlen := Rs.take_len hI.ok r
  have htk := hI.tk
  refine ⟨⟨F, hr', hF⟩, hI.only.then ho (fun i hi => .inr (hF' i hi)), take_ok hI.ok r, (take_N t r).trans hI.N, ?_, ?_, ?_, ?_⟩
  · have := take_taken t r
    rw [hd] at this
    simp at this
    omega
  · have := hI.next
    rw [List.length_append]
    omega
  · have := hI.few
    unfold sf
    split
    · simp; omega
    · omega
  · obtain ⟨hk, hg⟩ := List.getElem?_eq_some_iff.1 hr
    have := hI.go
    rw [List.drop_eq_getElem_cons hk, hg] at this
    rw [placeGo, if_neg (by rw [hd]; decide)] at this
    rw [← this]
    unfold sf
    rw [htk]
    congr 1
def lenAt (w : World) (g : Nat) : Nat := match w.cell? ⟨g, 1, none⟩ with | some (.slice _ n _) => n | _ => 0
theorem RT.lenAt {w : World} {F : Nat → Prop} {g : Nat} {t : Tr} {l : List Slot} {s : List Int} (h : RT w F g t l s) : lenAt w g = l.length := by
  obtain ⟨A, c, B, d, c0, c1, _⟩ := h.cells
  unfold Ct.lenAt
  rw [c1]
/-- what the reference's Place hands back -/
def RPlaceP (rs : List Int) (n : Int) (w : World) (e : Ending) (w' : World) : Prop :=
  ∃ v1 v2, e = .returned (.tuple #[v1, v2, .int .i64 (place rs n).2.2]) ∧ w'.ownsRow 0 48 2 v1 (place rs n).1.length (slC (place rs n).1) ∧
    w'.ownsRow 0 3 1 v2 (place rs n).2.1.length (inC (place rs n).2.1) ∧ Only No w w' ∧ (∀ i, v1.ownBlock = some i → w.heap.size ≤ i) ∧ (∀ i, v2.ownBlock = some i → w.heap.size ≤ i)
set_option maxHeartbeats 800000 in
theorem rplace_no (A : Option Addr) (m c : Nat) (rs : List Int) (n : Int) (w : World) (h : n < 0 ∨ 1048576 < n) : Calls Try.prog 23 #[.slice A m c, .int .i64 n] w (RPlaceP rs n w) := by
  have hp : place rs n = ([], [], 0) := by unfold place; rw [if_pos h]
  have HP := Lib.hid hp
  have HH := Lib.hid h
  clear hp h
  go_enter Try.func23, Try.ntmps23
  go_wp2_with (first | (go_at_call 12; refine (rnew_no n _ HH.out).mono ?_; rintro e w' ⟨rfl, rfl⟩))
  go_ret3
  unfold RPlaceP
  rw [HP.out]
  exact ⟨_, _, rfl, World.ownsRow_nil _ _ _ _, World.ownsRow_nil _ _ _ _, Only.refl _ _, by simp [Value.ownBlock], by simp [Value.ownBlock]⟩
set_option maxRecDepth 100000 in
set_option maxHeartbeats 3200000 in
theorem rplace_yes (A : Option Addr) (m c : Nat) (ps : List Piece) (n : Int) (w : World) (h0 : 0 ≤ n) (h1 : n ≤ 1048576) (hr : Rds w 4 A m (pcC ps)) (hl : ps.length = m) (hm : m * 32 ≤ 140737488355328) (hR : ∀ p ∈ ps, -128 ≤ p.r ∧ p.r ≤ 127) :
    Calls Try.prog 23 #[.slice A m c, .int .i64 n] w (RPlaceP (ps.map (·.r)) n w) := by
  obtain ⟨i0, hi0, hz0, hz1, hz2⟩ := info_parts info48
  have HR := Lib.hid hr
  have HL := Lib.hid hl
  have HQ := Lib.hid hR
  clear hr hl hR
  go_enter Try.func23, Try.ntmps23
  go_wp2_with (first | (go_at_call 12; refine (rnew_yes n _ h0 h1).mono ?_; rintro e w' ⟨rfl, hrt0, hon0, hsz0⟩; replace hrt0 := Lib.hid hrt0; replace hon0 := Lib.hid hon0))
  go_loopw [8] (fun v8 wr => ∃ (k : Nat) (t : Tr) (L : List Slot) (S : List Int), v8 = .int .i64 k ∧ k ≤ m ∧ Hid (RInv (ps.map (·.r)) n w w.heap.size k t L S wr)) (fun v8 _ => m - (intOf v8).toNat)
  case atStart =>
    exact ⟨0, new n, [], [], rfl, by omega, ⟨⟨_, hrt0.out, fun i hi => Nat.le_of_eq hi.symm⟩, hon0.out, new_ok h0, rfl, by simp [new], by simp [new], by simp, by simp⟩⟩
  case round =>
    obtain ⟨k, t, L, S, rfl, hk, hI⟩ := hrel
    obtain ⟨F, hrt, hF⟩ := hI.out.rt
    obtain ⟨A1, e1, B1, d1, c0, c1, c2, c3, c4, c5, fz, _, _⟩ := hrt.cells
    have lt := hrt.lt
    have HRT := Lib.hid hrt
    have HF := Lib.hid hF
    clear hrt hF
    by_cases hlt : k < m
    · obtain ⟨ad, rfl, p0, p1, p2, p3, pb⟩ := piece_cells (HR.out.no hI.out.only) HL.out k hlt
      obtain ⟨q, hq⟩ : ∃ q, q = ps[k]'(by have := HL.out; omega) := ⟨_, rfl⟩
      rw [← hq] at p0 p1 p2 p3
      have hrng := Lib.hid (HQ.out q (by rw [hq]; exact List.getElem_mem _))
      have hrs := Lib.hid (show (ps.map (·.r))[k]? = some q.r by rw [List.getElem?_map, List.getElem?_eq_getElem (by have := HL.out; omega), ← hq]; rfl)
      clear hq
      have hk0 : (0 : Int) ≤ k := by omega
      have hk1 : (k : Int) < m := by omega
      cases hd : t.done
      · have HD := Lib.hid hd
        rw [hd] at c4
        clear hd
        go_wp2_with fail
        refine (rtake_any F t L S q.a q.b q.r q.d w.heap.size _ HRT.out hI.out.next hI.out.ok (by have := hI.out.N; omega) (by have := hI.out.tk; omega) (by have := hI.out.tk; have := hI.out.few; omega) hrng.out.2).mono ?_
        rintro e w2 ⟨v, rfl, hv, hrt2, ho2⟩
        have hstep := Lib.hid (hI.out.step hrs.out HD.out (F := Fw F wr w2) (fun i hi => by
          rcases hi with h | h
          · exact HF.out i h
          · have := hI.out.only.size; omega) hrt2 ho2 HF.out)
        clear hv hrt2 ho2
        go_wp2_with fail
        go_roundw
        case rel => exact ⟨k + 1, _, _, _, by go_num, by omega, hstep⟩
        case measure => simp [intOf]; omega
      · rw [hd] at c4
        have hfin := Lib.hid (show (L, S, t) = placeGo (new n) 0 (ps.map (·.r)) [] [] by
          have := hI.out.go
          obtain ⟨hk', hg'⟩ := List.getElem?_eq_some_iff.1 hrs.out
          rw [List.drop_eq_getElem_cons hk', placeGo, if_pos hd] at this
          exact this)
        clear hd
        obtain ⟨hrt1, hon1, hok1, hN1, htk1, hnx1, hfew1, _⟩ := hI.out
        have HNX := Lib.hid hnx1
        obtain ⟨k0, k1, k2⟩ := hok1
        have hLn : (L.length : Int) ≤ n := by omega
        have htkm : t.taken ≤ 4398046511104 := by omega
        have htk0 : -1 ≤ t.taken - 1 := by omega
        have hRT := Lib.hid hrt1
        have hON := Lib.hid hon1
        have hNN := Lib.hid hN1
        have hNn : (n.toNat : Int) = n := by omega
        obtain ⟨nn, rfl⟩ : ∃ nn : Nat, n = nn := ⟨n.toNat, hNn.symm⟩
        clear hrt1 hon1 hnx1 hfew1 hNn hN1 k0 k1
        replace htk1 := Lib.hid htk1
        go_wp2_with fail
        go_loopw [32] (fun _ wq => ∃ j : Nat, L.length + j ≤ nn ∧ Hid (∃ F, RT wq F w.heap.size t (L ++ List.replicate j (t.taken - 1, 5)) S ∧ (∀ i, F i → w.heap.size ≤ i)) ∧ Hid (Only No w wq)) (fun _ wq => nn - lenAt wq w.heap.size)
        case atStart => exact ⟨0, by omega, Lib.hid (by simpa using hRT.out), hON⟩
        case round =>
          obtain ⟨j, hj, hR2, hO2⟩ := hrel
          obtain ⟨F, hrt, hF⟩ := hR2.out
          obtain ⟨vS, vR, hb, h1, h2, f0, f1, f2⟩ := hrt
          have hlen : (L ++ List.replicate j (t.taken - 1, 5)).length = L.length + j := by simp
          have hla : Hid (lenAt _ w.heap.size = L.length + j) := Lib.hid (hlen ▸ RT.lenAt ⟨vS, vR, hb, h1, h2, f0, f1, f2⟩)
          obtain ⟨B, d, rfl⟩ := own_slice h2
          obtain ⟨A, c, rfl⟩ := own_slice h1
          rw [hlen] at hb f1
          have HL1 : Hid (wr.ownsRow 0 48 2 (.slice A (L.length + j) c) (L ++ List.replicate j (t.taken - 1, 5)).length (slC (L ++ List.replicate j (t.taken - 1, 5)))) := Lib.hid (by rw [hlen] at h1 ⊢; exact h1)
          rw [hlen] at h1
          have c0 := hb.cell 0
          rw [hNN.out] at c0
          have c1 := hb.cell 1
          have c2 := hb.cell 2
          have c3 := hb.cell 3
          have ca := fun o n => ((hb.drewN n).alloc o).cell 1
          have fz := hb.frozen
          simp only [List.getElem?_toArray, List.getElem?_cons_zero, List.getElem?_cons_succ] at c0 c1 c2 c3 ca
          have lt := hb.lt
          have HB := Lib.hid hb
          have H1 := Lib.hid h1
          have H2 := Lib.hid h2
          have hw1 : IntKind.i64.wrap (t.taken - 1) = t.taken - 1 := by rw [IntKind.wrap_i64]; omega
          clear hb h1 h2 hlen
          by_cases hlt2 : L.length + j < nn
          · have hlt3 : ((L.length : Int) + j) < nn := by omega
            go_wp2_with fail
            go_quiet (fail)
            go_wp2_with fail
            go_region_law (refine step_append_any rfl (.tmp 46) (.tmp 53) _ rfl 0 48 i0 _ 2 16 Try.underlying28 hi0 hz0 hz1 hz2 rfl (by omega) (.slice A (L.length + j) c) (L.length + j) _ rfl (by first | exact own_only H1.out (((Only.refl No _).drewN _).alloc _).drew (fun _ _ => id) | exact own_only H1.out (((Only.refl No _).drewN _).alloc _) (fun _ _ => id)) (some ⟨wr.heap.size, 0, none⟩) 1 1 [.int .i64 (t.taken - 1), .int .i8 5] rfl (Rds.fresh (Blk.new _ _ _) rfl) (by simp [Value.oneCell']) (by simp only [maxLen]; omega) (by omega) (Nat.zero_le _) ?_; intro v' w1 hown1 hon1 hat1; obtain ⟨A1, c1', rfl⟩ := own_slice hown1; obtain ⟨hb1, hx1⟩ := slots_step (F := F) (w := wr) (l' := L ++ List.replicate (j + 1) (t.taken - 1, 5)) HB.out HL1.out H2.out (.inl f0) (fun k hk => .inl (f1 k hk)) (fun k hk => .inl (f2 k hk)) (Only.refl F wr) (by first | exact (((Only.refl No _).drewN _).alloc _).drew | exact ((Only.refl No _).drewN _).alloc _) (by rw [List.replicate_succ', ← List.append_assoc, slC_append]; simpa [Nat.add_assoc, slC] using hown1) hon1 hat1; have ce := hb1.cell 1; have fe := hb1.frozen 1; clear hown1 hon1 hat1 hb1)
            all_goals replace hx1 := Lib.hid hx1
            all_goals go_wp2
            all_goals go_roundw
            all_goals first | exact ⟨j + 1, by omega, Lib.hid ⟨_, hx1.out.1, fun i hi => by
              rcases hi with h | h
              · exact hF i h
              · have := hO2.out.size; omega⟩, Lib.hid (hO2.out.then hx1.out.2 fun i hi => .inr (hF i hi))⟩ | (have h1' := hx1.out.1.lenAt; have h2' := hla.out; rw [List.length_append, List.length_replicate] at h1'; rw [h1', h2']; omega)
          · obtain rfl : nn = L.length + j := by omega
            go_wp2_with fail
            go_quiet (fail)
            go_wp2_with fail
            go_quiet (fail)
            go_wp2
            go_ret3
            have hpl : place (ps.map (·.r)) ((L.length + j : Nat) : Int) = (L ++ List.replicate j (t.taken - 1, 5), S, t.taken) := by
              unfold place
              rw [if_neg (by omega), ← hfin.out]
              have h9 : (((L.length + j : Nat) : Int) - t.next).toNat = j := by have := HNX.out; omega
              simp only [h9]
            unfold RPlaceP
            rw [hpl]
            refine ⟨_, _, rfl, own_only HL1.out (((Only.refl No _).drewN _).drewN _) (fun _ _ => id), own_only H2.out (((Only.refl No _).drewN _).drewN _) (fun _ _ => id), (hO2.out.drewN _).drewN _, fun i hi => hF i (f1 i hi), fun i hi => hF i (f2 i hi)⟩
    · obtain rfl : k = m := by omega
      have hfin := Lib.hid (show (L, S, t) = placeGo (new n) 0 (ps.map (·.r)) [] [] by
        have := hI.out.go
        rw [List.drop_of_length_le (by rw [List.length_map, HL.out]; omega)] at this
        rw [← this]; rfl)
      obtain ⟨hrt1, hon1, hok1, hN1, htk1, hnx1, hfew1, _⟩ := hI.out
      have HNX := Lib.hid hnx1
      obtain ⟨k0, k1, k2⟩ := hok1
      have hLn : (L.length : Int) ≤ n := by omega
      have htkm : t.taken ≤ 4398046511104 := by omega
      have htk0 : -1 ≤ t.taken - 1 := by omega
      have hRT := Lib.hid hrt1
      have hON := Lib.hid hon1
      have hNN := Lib.hid hN1
      have hNn : (n.toNat : Int) = n := by omega
      obtain ⟨nn, rfl⟩ : ∃ nn : Nat, n = nn := ⟨n.toNat, hNn.symm⟩
      clear hrt1 hon1 hnx1 hfew1 hNn hN1 k0 k1
      replace htk1 := Lib.hid htk1
      go_wp2_with fail
      go_loopw [32] (fun _ wq => ∃ j : Nat, L.length + j ≤ nn ∧ Hid (∃ F, RT wq F w.heap.size t (L ++ List.replicate j (t.taken - 1, 5)) S ∧ (∀ i, F i → w.heap.size ≤ i)) ∧ Hid (Only No w wq)) (fun _ wq => nn - lenAt wq w.heap.size)
      case atStart => exact ⟨0, by omega, Lib.hid (by simpa using hRT.out), hON⟩
      case round =>
        obtain ⟨j, hj, hR2, hO2⟩ := hrel
        obtain ⟨F, hrt, hF⟩ := hR2.out
        obtain ⟨vS, vR, hb, h1, h2, f0, f1, f2⟩ := hrt
        have hlen : (L ++ List.replicate j (t.taken - 1, 5)).length = L.length + j := by simp
        have hla : Hid (lenAt _ w.heap.size = L.length + j) := Lib.hid (hlen ▸ RT.lenAt ⟨vS, vR, hb, h1, h2, f0, f1, f2⟩)
        obtain ⟨B, d, rfl⟩ := own_slice h2
        obtain ⟨A, c, rfl⟩ := own_slice h1
        rw [hlen] at hb f1
        have HL1 : Hid (wr.ownsRow 0 48 2 (.slice A (L.length + j) c) (L ++ List.replicate j (t.taken - 1, 5)).length (slC (L ++ List.replicate j (t.taken - 1, 5)))) := Lib.hid (by rw [hlen] at h1 ⊢; exact h1)
        rw [hlen] at h1
        have c0 := hb.cell 0
        rw [hNN.out] at c0
        have c1 := hb.cell 1
        have c2 := hb.cell 2
        have c3 := hb.cell 3
        have ca := fun o n => ((hb.drewN n).alloc o).cell 1
        have fz := hb.frozen
        simp only [List.getElem?_toArray, List.getElem?_cons_zero, List.getElem?_cons_succ] at c0 c1 c2 c3 ca
        have lt := hb.lt
        have HB := Lib.hid hb
        have H1 := Lib.hid h1
        have H2 := Lib.hid h2
        have hw1 : IntKind.i64.wrap (t.taken - 1) = t.taken - 1 := by rw [IntKind.wrap_i64]; omega
        clear hb h1 h2 hlen
        by_cases hlt2 : L.length + j < nn
        · have hlt3 : ((L.length : Int) + j) < nn := by omega
          go_wp2_with fail
          go_quiet (fail)
          go_wp2_with fail
          go_region_law (refine step_append_any rfl (.tmp 46) (.tmp 53) _ rfl 0 48 i0 _ 2 16 Try.underlying28 hi0 hz0 hz1 hz2 rfl (by omega) (.slice A (L.length + j) c) (L.length + j) _ rfl (by first | exact own_only H1.out (((Only.refl No _).drewN _).alloc _).drew (fun _ _ => id) | exact own_only H1.out (((Only.refl No _).drewN _).alloc _) (fun _ _ => id)) (some ⟨wr.heap.size, 0, none⟩) 1 1 [.int .i64 (t.taken - 1), .int .i8 5] rfl (Rds.fresh (Blk.new _ _ _) rfl) (by simp [Value.oneCell']) (by simp only [maxLen]; omega) (by omega) (Nat.zero_le _) ?_; intro v' w1 hown1 hon1 hat1; obtain ⟨A1, c1', rfl⟩ := own_slice hown1; obtain ⟨hb1, hx1⟩ := slots_step (F := F) (w := wr) (l' := L ++ List.replicate (j + 1) (t.taken - 1, 5)) HB.out HL1.out H2.out (.inl f0) (fun k hk => .inl (f1 k hk)) (fun k hk => .inl (f2 k hk)) (Only.refl F wr) (by first | exact (((Only.refl No _).drewN _).alloc _).drew | exact ((Only.refl No _).drewN _).alloc _) (by rw [List.replicate_succ', ← List.append_assoc, slC_append]; simpa [Nat.add_assoc, slC] using hown1) hon1 hat1; have ce := hb1.cell 1; have fe := hb1.frozen 1; clear hown1 hon1 hat1 hb1)
          all_goals replace hx1 := Lib.hid hx1
          all_goals go_wp2
          all_goals go_roundw
          all_goals first | exact ⟨j + 1, by omega, Lib.hid ⟨_, hx1.out.1, fun i hi => by
            rcases hi with h | h
            · exact hF i h
            · have := hO2.out.size; omega⟩, Lib.hid (hO2.out.then hx1.out.2 fun i hi => .inr (hF i hi))⟩ | (have h1' := hx1.out.1.lenAt; have h2' := hla.out; rw [List.length_append, List.length_replicate] at h1'; rw [h1', h2']; omega)
        · obtain rfl : nn = L.length + j := by omega
          go_wp2_with fail
          go_quiet (fail)
          go_wp2_with fail
          go_quiet (fail)
          go_wp2
          go_ret3
          have hpl : place (ps.map (·.r)) ((L.length + j : Nat) : Int) = (L ++ List.replicate j (t.taken - 1, 5), S, t.taken) := by
            unfold place
            rw [if_neg (by omega), ← hfin.out]
            have h9 : (((L.length + j : Nat) : Int) - t.next).toNat = j := by have := HNX.out; omega
            simp only [h9]
          unfold RPlaceP
          rw [hpl]
          refine ⟨_, _, rfl, own_only HL1.out (((Only.refl No _).drewN _).drewN _) (fun _ _ => id), own_only H2.out (((Only.refl No _).drewN _).drewN _) (fun _ _ => id), (hO2.out.drewN _).drewN _, fun i hi => hF i (f1 i hi), fun i hi => hF i (f2 i hi)⟩
end Go.Proofs.Ytdbidojncboalaa.Ct
