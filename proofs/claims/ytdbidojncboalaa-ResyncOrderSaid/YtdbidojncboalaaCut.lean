/- ResyncCut. -/
import Derived.Test.YtdbidojncboalaaPieces
namespace Go.Proofs.Ytdbidojncboalaa.Ct
open Go.ChangeShapes Go.WideShapes Go.RowKit Mm Rs

theorem slot_cells {w : World} {A : Option Addr} {n : Nat} {l : List Slot} (h : Rds w 2 A n (slC l)) (hl : l.length = n) (k : Nat) (hk : k < n) :
    ∃ ad, A = some ad ∧ w.cell? (ad.add (k * 2)) = some (.int .i64 (l[k]'(by omega)).1) ∧ w.cell? ⟨(ad.add (k * 2)).block, (ad.add (k * 2)).off + 1, none⟩ = some (.int .i8 (l[k]'(by omega)).2) := by
  obtain ⟨ad, e, hb, hc⟩ := h.2 (by omega)
  obtain ⟨g0, g1⟩ := slC_get l k (by omega)
  exact ⟨ad, e, hc _ _ g0, by rw [add_field _ _ 1 (by omega)]; exact hc _ _ g1⟩

/-! ### what Place makes of it -/
def upTo (j : Int) : Nat → List Int
  | 0 => []
  | m + 1 => j % 8 :: upTo (j + 1) m
def own1 (j : Int) : Nat → List Slot
  | 0 => []
  | m + 1 => (j, 0) :: own1 (j + 1) m
theorem own1_len (j : Int) (m : Nat) : (own1 j m).length = m := by
  induction m generalizing j with
  | zero => rfl
  | succ m ih => simp [own1, ih]
theorem own1_get (j : Int) (m i : Nat) (h : i < m) : (own1 j m)[i]? = some (j + i, 0) := by
  induction m generalizing j i with
  | zero => omega
  | succ m ih =>
    cases i with
    | zero => simp [own1]
    | succ i =>
      simp only [own1, List.getElem?_cons_succ]
      rw [ih (j + 1) i (by omega)]
      congr 2
      omega
theorem placeGo_cut (n j : Int) (m : Nat) (L : List Slot) (h : j + m < n) (hj : 0 ≤ j) :
    placeGo ⟨n, j, j, false, false⟩ j (upTo j m ++ [-2]) L [] = (L ++ (own1 j m ++ List.replicate (n - (j + m)).toNat (j + m, 7)), [], ⟨n, n, j + m + 1, false, true⟩) := by
  induction m generalizing j L with
  | zero =>
    simp only [upTo, List.nil_append, own1, placeGo]
    have : take ⟨n, j, j, false, false⟩ (-2) = (List.replicate (n - j).toNat (j, 7), ⟨n, n, j + 1, false, true⟩) := by simp [take]
    rw [this]
    simp
  | succ m ih =>
    have ht : take ⟨n, j, j, false, false⟩ (j % 8) = ([(j, 0)], ⟨n, j + 1, j + 1, false, false⟩) := by
      unfold take
      rw [if_neg (by simp), if_neg (by omega)]
      simp only
      rw [if_neg (by omega), if_pos (by omega)]
      simp [placedI]
    simp only [upTo, List.cons_append, placeGo, ht]
    rw [if_neg (by simp), if_neg (by simp), ih (j + 1) (L ++ [(j, 0)]) (by omega) (by omega)]
    rw [show j + 1 + (m : Int) = j + ((m + 1 : Nat) : Int) by omega]
    simp [own1]
theorem place_cut (n : Int) (k : Nat) (h : (k : Int) < n) (hn : n ≤ 300) :
    place (upTo 0 k ++ [-2]) n = (own1 0 k ++ List.replicate (n - k).toNat ((k : Int), 7), [], (k : Int) + 1) := by
  unfold place
  rw [if_neg (by omega)]
  have := placeGo_cut n 0 k [] (by omega) (by omega)
  simp only [Int.zero_add, List.nil_append] at this
  unfold new
  rw [this]
  simp

theorem ones_eq (gs : List Int) (h : ∀ g ∈ gs, g = 1) : gs = List.replicate gs.length 1 := List.eq_replicate_iff.2 ⟨rfl, h⟩
theorem pcs_ones (n at_ : Int) (m k : Nat) (h : at_ + k < n) (hk : k ≤ m) : ((pcs n at_ (List.replicate m 1)).take k).map (·.r) = upTo at_ k := by
  induction k generalizing at_ m with
  | zero => simp [upTo]
  | succ k ih =>
    obtain ⟨m, rfl⟩ : ∃ m', m = m' + 1 := ⟨m - 1, by omega⟩
    simp only [List.replicate_succ, pcs, List.take_succ_cons, List.map_cons, upTo]
    rw [if_neg (by omega), ih (at_ + 1) m (by omega) (by omega), Int.add_sub_cancel]
theorem tot_ones (m : Nat) : tot (List.replicate m 1) = m := by
  induction m with
  | zero => rfl
  | succ m ih => simp only [List.replicate_succ, tot, ih]; omega
theorem pcs_r (n at_ : Int) (gs : List Int) : ∀ p ∈ pcs n at_ gs, -128 ≤ p.r ∧ p.r ≤ 127 := by
  induction gs generalizing at_ with
  | nil => simp [pcs]
  | cons g gs ih =>
    intro p hp
    simp only [pcs, List.mem_cons] at hp
    rcases hp with rfl | hp
    · simp only; split <;> omega
    · exact ih _ p hp
/-- the head of a slice is read as the slice is -/
theorem Rds_take {w : World} {size n k : Nat} {A : Option Addr} {xs : List Value} (h : Rds w size A n xs) (hk : k ≤ n) : Rds w size A k (xs.take (k * size)) := by
  refine ⟨by rw [List.length_take, h.1]; exact Nat.min_eq_left (Nat.mul_le_mul_right _ hk), fun hk0 => ?_⟩
  obtain ⟨ad, e, hb, hc⟩ := h.2 (by omega)
  refine ⟨ad, e, hb, fun j u hu => hc j u ?_⟩
  rw [List.getElem?_take] at hu
  split at hu
  · exact hu
  · cases hu
theorem pcC_take (ps : List Piece) (k : Nat) : (pcC ps).take (k * 4) = pcC (ps.take k) := by
  induction ps generalizing k with
  | nil => simp [pcC]
  | cons p ps ih =>
    cases k with
    | zero => simp [pcC]
    | succ k =>
      have := ih k
      simp only [pcC, List.flatMap_cons, List.take_succ_cons] at this ⊢
      rw [← this, show (k + 1) * 4 = k * 4 + 1 + 1 + 1 + 1 by omega]
      rfl

set_option maxRecDepth 100000 in
set_option maxHeartbeats 3200000 in
theorem cut_any (intervals cut : Int) (w : World) : Calls Try.prog 7 #[.int .i64 intervals, .int .i64 cut] w (fun e w' => e = .returned (.bool true) ∧ Below w.heap.size w w') := by
  obtain ⟨i0, hi0, hz0, hz1, hz2⟩ := info_parts info32
  obtain ⟨n, hn⟩ : ∃ n, Hid (n = 1 + intervals % 300) := ⟨_, Lib.hid rfl⟩
  have hn1 : 1 ≤ n := by have := hn.out; omega
  have hn2 : n ≤ 300 := by have := hn.out; omega
  have hx0 : 0 ≤ intervals % 300 := by omega
  have hx1 : intervals % 300 < 300 := by omega
  go_enter Try.func7, Try.ntmps7
  go_wp2_with (first | (go_at_call 22; refine (alive_any _).mono ?_; rintro e w1 ⟨rfl, o1⟩) | (go_at_call 26; refine (pick_any _ 300 _ (by omega) (by omega)).mono ?_; rintro e w2 ⟨rfl, rfl⟩))
  rw [← hn.out]
  refine (pieces_any none 0 0 [] n w1 hn1 hn2 Rds.nil rfl).mono ?_
  rintro e w2 ⟨gs, v1, v2, rfl, hP, ht⟩
  have hg1 := ones_eq gs (hP.ones rfl)
  have hgl : (gs.length : Int) = n := by rw [← ht]; conv => rhs; rw [hg1]
                                         rw [tot_ones]
  have hrow := hP.l
  rw [pcs_len] at hrow
  obtain ⟨g1, c1, rfl, hc1⟩ : ∃ g c, v1 = .slice (some ⟨g, 0, none⟩) gs.length c ∧ gs.length ≤ c := by
    rcases hrow.2 with ⟨_, h0⟩ | ⟨g, cap, cur, rfl, hb, hg, hnc, _⟩
    · omega
    · exact ⟨g, cap, rfl, hnc⟩
  obtain ⟨A2, c2, rfl⟩ := own_slice hP.of
  obtain ⟨kn, hkn⟩ : ∃ kn : Nat, Hid ((kn : Int) = cut % n) := ⟨(cut % n).toNat, Lib.hid (by have := Int.emod_nonneg cut (show n ≠ 0 by omega); omega)⟩
  have hkn1 : (kn : Int) < n := by have := hkn.out; have := Int.emod_lt_of_pos cut (show 0 < n by omega); omega
  have hkn2 : kn ≤ c1 := by omega
  have hkn3 : kn ≤ gs.length := by omega
  have hkn4 : (kn : Int) ≤ c1 := by omega
  have HP := Lib.hid hP
  have HG := Lib.hid hg1
  have HR := Lib.hid hrow
  have hgl' := Lib.hid hgl
  have O1 := Lib.hid (o1.trans hP.only)
  clear hP ht hg1 hrow hgl o1
  go_wp2_with fail
  refine (pick_any _ _ _ (by omega) (by omega)).mono ?_
  rintro e w3 ⟨rfl, rfl⟩
  rw [← hkn.out]
  have hown0 := Lib.hid (Rds_take (Rds.of_own HR.out) hkn3)
  go_wp2_with (first
    | (at_builtin; refine Mm.wpList_append_any _ rfl (.tmp 27) (.tmp 30) _ rfl w2.heap.size 32 i0 _ 4 32 Try.underlying22 hi0 hz0 hz1 hz2 rfl (by omega) _ 0 [] rfl (World.ownsRow_nil _ _ _ _) (some ⟨g1, 0, none⟩) kn _ (pcC ((pcs n 0 gs).take kn)) rfl (by rw [← pcC_take]; exact hown0.out) (pcC_one _) (by simp only [maxLen]; omega) (by omega) (by omega) ?_; intro v3 w3 hown3 hon3 hat3)
    | (at_builtin; refine Mm.wpList_append_any _ rfl (.tmp 32) (.tmp 34) _ rfl w2.heap.size 32 i0 _ 4 32 Try.underlying22 hi0 hz0 hz1 hz2 rfl (by omega) _ (0 + kn) ([] ++ pcC ((pcs n 0 gs).take kn)) rfl (hown3.alloc _) (some ⟨w3.heap.size, 0, none⟩) 1 1 (pcC [⟨0, 0, -2, 0⟩]) rfl (Rds.fresh (Blk.new _ _ _) rfl) (pcC_one _) (by simp only [maxLen]; omega) (by omega) (by have := hon3.size; simp; omega) ?_; intro v4 w4 hown4 hon4 hat4))
  have o4 : Only No w2 w4 := (((Only.refl No w2).then hon3 (fun i hi => .inr (own_ge (World.ownsRow_nil w2 w2.heap.size 32 4) i hi))).alloc _).then hon4 (fun i hi => .inr (own_ge hown3 i hi))
  obtain ⟨A4, c4, rfl⟩ := own_slice hown4
  rw [List.nil_append, ← pcC_append] at hown4
  have hlen : ((pcs n 0 gs).take kn ++ [(⟨0, 0, -2, 0⟩ : Piece)]).length = 0 + kn + 1 := by rw [List.length_append, List.length_take, pcs_len, Nat.min_eq_left hkn3]; simp
  have hrs : ((pcs n 0 gs).take kn ++ [(⟨0, 0, -2, 0⟩ : Piece)]).map (fun x : Piece => x.r) = upTo 0 kn ++ [-2] := by
    rw [List.map_append]
    congr 1
    conv => lhs; rw [HG.out]
    exact pcs_ones n 0 gs.length kn (by omega) hkn3
  refine (place_yes A4 (0 + kn + 1) c4 ((pcs n 0 gs).take kn ++ [(⟨0, 0, -2, 0⟩ : Piece)]) n w4 (by omega) (by omega) (Rds.of_own hown4) hlen (by omega) (by
    intro p hp
    rcases List.mem_append.1 hp with h | h
    · exact pcs_r n 0 gs p (List.mem_of_mem_take h)
    · simp at h; subst h; simp)).mono ?_
  rintro e w5 ⟨a, t, rfl, ha, hs, ho⟩
  rw [hrs, place_cut n kn hkn1 hn2] at ha hs ⊢
  have O5 := Lib.hid (O1.out.trans (o4.trans ho))
  have hal : (own1 0 kn ++ List.replicate (n - kn).toNat ((kn : Int), (7 : Int))).length = n.toNat := by rw [List.length_append, own1_len, List.length_replicate]; omega
  rw [hal] at ha
  obtain ⟨A5, c5, rfl⟩ := own_slice ha
  obtain ⟨A6, c6, rfl⟩ := own_slice hs
  have HA := Lib.hid (Rds.of_own ha)
  have HAL := Lib.hid hal
  clear hown3 hon3 hat3 hown4 hon4 hat4 o4 ha hs ho hlen hrs hal
  have hnn : (n.toNat : Int) = n := by omega
  go_wp2
  go_loop [14] (fun v14 => ∃ i : Nat, v14 = .int .i64 i ∧ i ≤ n.toNat) (fun v14 => n.toNat - (intOf v14).toNat)
  case atStart => exact ⟨0, rfl, by omega⟩
  case round =>
    obtain ⟨i, rfl, hi⟩ := hrel
    by_cases hlt : i < n.toNat
    · have hlt' : (i : Int) < n := by omega
      obtain ⟨ad, rfl, q0, q1⟩ := slot_cells HA.out HAL.out i hlt
      by_cases hik : i < kn
      · have hik' : (i : Int) < kn := by omega
        have he : ((own1 0 kn ++ List.replicate (n - kn).toNat ((kn : Int), (7 : Int)))[i]'(by rw [HAL.out]; exact hlt)) = ((i : Int), 0) := by
          rw [List.getElem_append_left (by rw [own1_len]; exact hik)]
          have := own1_get 0 kn i hik
          rw [List.getElem?_eq_getElem (by rw [own1_len]; exact hik)] at this
          simpa using this
        rw [he] at q0 q1
        clear he
        go_wp2
        go_round
        case rel => exact ⟨i + 1, by go_num, by omega⟩
        case measure => simp [intOf]; omega
      · have hik' : ¬ (i : Int) < kn := by omega
        have he : ((own1 0 kn ++ List.replicate (n - kn).toNat ((kn : Int), (7 : Int)))[i]'(by rw [HAL.out]; exact hlt)) = ((kn : Int), 7) := by
          rw [List.getElem_append_right (by rw [own1_len]; omega)]
          simp
        rw [he] at q0 q1
        clear he
        go_wp2
        go_round
        case rel => exact ⟨i + 1, by go_num, by omega⟩
        case measure => simp [intOf]; omega
    · have hlt' : ¬ (i : Int) < n := by omega
      go_wp2
      go_ret
      exact ⟨rfl, O5.out.below_no⟩
end Go.Proofs.Ytdbidojncboalaa.Ct
