/- ResyncSplit. -/
import Derived.Test.YtdbidojncboalaaGroups
import Derived.Test.YtdbidojncboalaaSplitLaw
namespace Go.Proofs.Ytdbidojncboalaa.Ct
open Go.ChangeShapes Go.WideShapes Go.RowKit Mm Rs

theorem take_all {t : Tr} {a b r d : Int} {g : Nat} {w : World} (h : Blk w g 52 (trC t)) (ok : Ok t) (hN : t.N ≤ 1048576) (tk : t.taken ≤ 1000000000000000) (hr : -128 ≤ r) (hr2 : r ≤ 127) : Calls Try.prog 13 #[P g, .agg #[.int .i64 a, .int .i64 b, .int .i8 r, .int .i64 d]] w (Taken t r g w) := by
  cases hd : t.done
  · exact take_any t a b r d g w h hd ok hN tk hr hr2
  · exact take_done t a b r d g w h hd

structure SJ (w6 : World) (rs : List Int) (n : Int) (g : Nat) (k : Nat) (t : Tr) (L : List Slot) (wr : World) : Prop where
  si : SI rs n k t L
  blk : Blk wr g 52 (trC t)
  only : Only (One g) w6 wr

set_option maxRecDepth 100000 in
set_option maxHeartbeats 6400000 in
theorem split_any (A : Option Addr) (m c : Nat) (ps : List Piece) (a1 : Int) (w : World) (hr : Rds w 4 A m (pcC ps)) (hl : ps.length = m) (hm : m * 32 ≤ 140737488355328) (hR : ∀ p ∈ ps, -128 ≤ p.r ∧ p.r ≤ 127) :
    Calls Try.prog 9 #[.slice A m c, .int .i64 a1] w (fun e w' => e = .returned (.bool true) ∧ Below w.heap.size w w') := by
  obtain ⟨n, hn⟩ : ∃ n, Hid (n = a1 % 600) := ⟨_, Lib.hid rfl⟩
  have hn1 : 0 ≤ n := by have := hn.out; omega
  have hn2 : n ≤ 600 := by have := hn.out; omega
  have HR0 := Lib.hid hr
  have HL0 := Lib.hid hl
  have HQ := Lib.hid hR
  clear hr hl hR
  go_enter Try.func9, Try.ntmps9
  go_wp2_with (first | (go_at_call 22; refine (alive_any _).mono ?_; rintro e w1 ⟨rfl, o1⟩) | (go_at_call 26; refine (pick_any _ 600 _ (by omega) (by omega)).mono ?_; rintro e w2 ⟨rfl, rfl⟩))
  rw [← hn.out]
  refine (place_yes A m c ps n w1 (by omega) (by omega) (HR0.out.no o1) HL0.out hm HQ.out).mono ?_
  rintro e w5 ⟨a, s, rfl, ha, hs, ho⟩
  obtain ⟨rs, hrs⟩ : ∃ rs, Hid (rs = ps.map (·.r)) := ⟨_, Lib.hid rfl⟩
  rw [← hrs.out] at ha hs ⊢
  obtain ⟨e1, e2⟩ := place_seq rs n (by omega)
  obtain ⟨T, hT⟩ : ∃ T, Hid (T = (seq (new n) rs).2.taken) := ⟨_, Lib.hid rfl⟩
  rw [e2, ← hT.out]
  have hsl : (place rs n).1.length = n.toNat := by
    obtain ⟨q1, q2, q3⟩ := seq_ok (new_ok hn1) rs
    have q4 := q1.n1
    rw [q2] at q4
    have : (new n).next = 0 := rfl
    have : (new n).N = n := rfl
    rw [e1, List.length_append, List.length_replicate]
    omega
  obtain ⟨N, hN⟩ : ∃ N : Nat, (N : Int) = n := ⟨n.toNat, by omega⟩
  have hnN : n.toNat = N := by omega
  rw [hnN] at hsl
  rw [hsl] at ha
  obtain ⟨Aa, ca, rfl⟩ := own_slice ha
  obtain ⟨As, cs, rfl⟩ := own_slice hs
  have HA := Lib.hid (Rds.of_own ha)
  have HAL := Lib.hid hsl
  have HAB : Hid (∀ ad, Aa = some ad → 0 < N → ad.block < w5.heap.size) := Lib.hid (fun ad e h => by obtain ⟨ad', e', hb, _⟩ := (Rds.of_own ha).2 h; rw [e] at e'; injection e' with e'; subst e'; exact hb)
  have O5 := Lib.hid (o1.trans ho)
  have E1 := Lib.hid e1
  clear ha hs ho e1 e2 hsl o1 hnN
  go_wp2_with (first | (go_at_call 11; refine (new_yes n _ (by omega) (by omega)).mono ?_; rintro e w6 ⟨rfl, rfl⟩))
  obtain ⟨g, hg⟩ : ∃ g, g = w5.heap.size := ⟨_, rfl⟩
  obtain ⟨w6, hw6⟩ : ∃ w6, Hid (w6 = w5.alloc (.cells (trC (new n)) 52)) := ⟨_, Lib.hid rfl⟩
  have hb6 : Blk w6 w5.heap.size 52 (trC (new n)) := by rw [hw6.out]; exact Blk.new _ _ _
  have HB6 := Lib.hid hb6
  have O6 : Hid (Only No w w6) := Lib.hid (by rw [hw6.out]; exact O5.out.alloc _)
  have HA6 : Hid (Rds w6 2 Aa N (slC (place rs n).1)) := Lib.hid (by rw [hw6.out]; exact HA.out.no ((Only.refl No w5).alloc _))
  have HR6 : Hid (Rds w6 4 A m (pcC ps)) := Lib.hid (HR0.out.no O6.out)
  have HAR : Hid (∀ ad, A = some ad → 0 < m → ad.block < w.heap.size) := Lib.hid (fun ad e h => by obtain ⟨ad', e', hb, _⟩ := HR0.out.2 h; rw [e] at e'; injection e' with e'; subst e'; exact hb)
  clear hb6
  rw [← hw6.out]
  go_loopw [11, 12] (fun v11 v12 wr => ∃ (k : Nat) (t : Tr) (L : List Slot), v11 = .int .i64 (L.length : Nat) ∧ v12 = .int .i64 k ∧ k ≤ m ∧ Hid (SJ w6 rs n w5.heap.size k t L wr)) (fun _ v12 _ => m - (intOf v12).toNat)
  case atStart => exact ⟨0, new n, [], rfl, rfl, by omega, ⟨SI.new hn1, HB6.out, Only.refl _ _⟩⟩
  case round =>
    obtain ⟨k, t, L, rfl, rfl, hk, hI⟩ := hrel
    obtain ⟨wo, rfl⟩ : ∃ wo : World, wo = wr := ⟨_, rfl⟩
    by_cases hlt : k < m
    · have hlt' : (k : Int) < m := by omega
      have hfar : 0 < m → Far (One w5.heap.size) A := fun h ad e hh => by have := HAR.out ad e h; have := O5.out.size; have : ad.block = w5.heap.size := hh; omega
      obtain ⟨ad, rfl, p0, p1, p2, p3, pb⟩ := piece_cells (HR6.out.only hI.out.only hfar) HL0.out k hlt
      obtain ⟨q, hq⟩ : ∃ q, q = ps[k]'(by have := HL0.out; omega) := ⟨_, rfl⟩
      rw [← hq] at p0 p1 p2 p3
      have hrng := Lib.hid (HQ.out q (by rw [hq]; exact List.getElem_mem _))
      have hqr : Hid (rs[k]? = some q.r) := Lib.hid (by rw [hrs.out, List.getElem?_map, List.getElem?_eq_getElem (by have := HL0.out; omega), ← hq]; rfl)
      clear hq hfar
      have hdn := hI.out.si.done (show k < rs.length by rw [hrs.out, List.length_map, HL0.out]; exact hlt)
      rw [← hT.out] at hdn
      have hlen := Rs.take_len hI.out.si.ok q.r
      have hok2 := take_ok hI.out.si.ok q.r
      have hN2 := (take_N t q.r).trans hI.out.si.N
      have hLl : (L.length : Int) + (take t q.r).1.length ≤ N := by have := hok2.n1; have := hI.out.si.len; omega
      have htk : t.taken ≤ k := by
        cases hd : t.done
        · have := hI.out.si.tk0 hd; omega
        · exact hI.out.si.tk1 hd
      go_wp2_with fail
      refine (done_any t w5.heap.size _ hI.out.blk).mono ?_
      rintro e w7 ⟨rfl, rfl⟩
      go_wp2_with fail
      refine (take_all (a := q.a) (b := q.b) (r := q.r) (d := q.d) hI.out.blk hI.out.si.ok (by have := hI.out.si.N; omega) (by omega) hrng.out.1 hrng.out.2).mono ?_
      rintro e w2 ⟨v, rfl, hv, hb2, ho2⟩
      obtain ⟨A2, c2, rfl⟩ := own_slice hv
      have HV := Lib.hid (Rds.of_own hv)
      have HB2 := Lib.hid hb2
      have HO2 := Lib.hid (hI.out.only.trans ho2)
      have hslot : Hid (∀ j (hj : j < (take t q.r).1.length), (place rs n).1[L.length + j]? = some (take t q.r).1[j]) := Lib.hid (fun j hj => by rw [E1.out]; exact hI.out.si.slot hqr.out _ j hj)
      have hnx : Hid ((L.length : Int) + (take t q.r).1.length = (take t q.r).2.next) := Lib.hid (by have := hI.out.si.len; omega)
      clear hv hb2 ho2 hlen hok2 hN2
      have hnge : ¬ ((L.length : Int) + (take t q.r).1.length > N) := by omega
      have hnx2 : (take t q.r).2.next = (L.length : Int) + (take t q.r).1.length := hnx.out.symm
      cases hd : t.done
      · have hlt2 : ¬ (k : Int) ≥ T := by rw [hd] at hdn; exact of_decide_eq_false hdn.symm
        have hlt3 : (k : Int) < T := by omega
        clear hdn
        have HD := Lib.hid hd
        go_wp2
        go_loopw [15] (fun v15 wr => ∃ j : Nat, v15 = .int .i64 j ∧ j ≤ (take t q.r).1.length ∧ Hid (Only No w2 wr)) (fun v15 _ => (take t q.r).1.length - (intOf v15).toNat)
        case atStart => exact ⟨0, rfl, by omega, Only.refl _ _⟩
        case round =>
          obtain ⟨j, rfl, hj, hO⟩ := hrel
          by_cases hjl : j < (take t q.r).1.length
          · have hjl' : (j : Int) < (take t q.r).1.length := by omega
            obtain ⟨ad2, rfl, x0, x1⟩ := slot_cells (HV.out.no hO.out) rfl j hjl
            obtain ⟨z, hz⟩ : ∃ z : Nat, Hid (L.length + j = z) := ⟨_, Lib.hid rfl⟩
            have hzi : (L.length : Int) + j = z := by have := hz.out; omega
            have hzN : z < N := by have := hz.out; omega
            have hzN' : (z : Int) < N := by omega
            have hzw : IntKind.i64.wrap (z : Int) = z := wrap_small (by omega) (by omega)
            have hfa : 0 < N → Far (One w5.heap.size) Aa := fun h ad e hh => by have := HAB.out ad e h; have : ad.block = w5.heap.size := hh; omega
            obtain ⟨ad3, rfl, y0, y1⟩ := slot_cells ((HA6.out.only HO2.out hfa).no hO.out) HAL.out z hzN
            have hsame : (place rs n).1[z]'(by rw [HAL.out]; exact hzN) = (take t q.r).1[j] := by
              have := hslot.out j hjl
              rw [hz.out, List.getElem?_eq_getElem (by rw [HAL.out]; exact hzN)] at this
              exact Option.some.inj this
            rw [hsame] at y0 y1
            generalize (take t q.r).1[j] = u at x0 x1 y0 y1
            clear hsame hfa
            go_wp2_with fail
            go_quiet (fail)
            go_wp2
            go_roundw
            case rel => exact ⟨j + 1, by go_num, by omega, by first | exact hO.out | exact hO.out.drewN _⟩
            case measure => simp [intOf]; omega
          · have hjl' : ¬ (j : Int) < (take t q.r).1.length := by omega
            go_wp2_with fail
            refine (next_any (take t q.r).2 w5.heap.size _ (HB2.out.only hO.out id)).mono ?_
            rintro e w7 ⟨rfl, rfl⟩
            go_wp2
            go_roundw
            case rel => exact ⟨k + 1, (take t q.r).2, L ++ (take t q.r).1, by rw [List.length_append]; go_num, by go_num, by omega, ⟨hI.out.si.step hqr.out, HB2.out.only hO.out id, HO2.out.then hO.out (fun i hi => hi.elim)⟩⟩
            case measure => simp [intOf]; omega
      · have hge2 : (k : Int) ≥ T := by rw [hd] at hdn; exact of_decide_eq_true hdn.symm
        clear hdn
        have hl0 : (take t q.r).1.length = 0 := by rw [Rs.take_done hd]; rfl
        have HL00 := Lib.hid hl0
        have HSI := Lib.hid (show SI rs n (k + 1) (take t q.r).2 (L ++ (take t q.r).1) from hI.out.si.step hqr.out)
        have hLL : Hid ((L ++ (take t q.r).1).length = L.length) := Lib.hid (by rw [List.length_append, hl0]; rfl)
        have hnx3 : (take t q.r).2.next = (L.length : Int) := by rw [hnx2, hl0]; simp
        rw [hl0]
        clear hnx2 hl0 hslot hnx
        go_wp2
        go_loopw [15] (fun v15 wr => v15 = .int .i64 0 ∧ Hid (Only No w2 wr)) (fun v15 _ => (intOf v15).toNat)
        case atStart => exact ⟨rfl, Only.refl _ _⟩
        case round =>
          obtain ⟨rfl, hO⟩ := hrel
          go_wp2_with fail
          refine (next_any (take t q.r).2 w5.heap.size _ (HB2.out.only hO.out id)).mono ?_
          rintro e w7 ⟨rfl, rfl⟩
          go_wp2
          go_roundw
          case rel => exact ⟨k + 1, (take t q.r).2, L ++ (take t q.r).1, by rw [hLL.out], by go_num, by omega, ⟨HSI.out, HB2.out.only hO.out id, HO2.out.then hO.out (fun i hi => hi.elim)⟩⟩
          case measure => simp [intOf]; omega
    · have hlt' : ¬ (k : Int) < m := by omega
      cases hd : t.done
      · go_wp2_with fail
        refine (done_any t w5.heap.size _ hI.out.blk).mono ?_
        rintro e w7 ⟨rfl, rfl⟩
        go_wp2
        go_ret
        exact ⟨rfl, (O6.out.then hI.out.only (fun i hi => .inr (by rw [show i = w5.heap.size from hi]; exact O5.out.size))).below_no⟩
      · have hat : (L.length : Int) = N := by have := hI.out.si.len; have := hI.out.si.dn hd; have := hI.out.si.N; omega
        go_wp2_with fail
        refine (done_any t w5.heap.size _ hI.out.blk).mono ?_
        rintro e w7 ⟨rfl, rfl⟩
        go_wp2
        go_ret
        exact ⟨rfl, (O6.out.then hI.out.only (fun i hi => .inr (by rw [show i = w5.heap.size from hi]; exact O5.out.size))).below_no⟩
end Go.Proofs.Ytdbidojncboalaa.Ct
