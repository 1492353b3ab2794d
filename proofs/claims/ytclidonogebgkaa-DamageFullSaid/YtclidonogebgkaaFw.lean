/- DamageFull: the walk. -/
import Derived.Test.YtclidonogebgkaaFu
import Derived.Test.YtclidonogebgkaaStr
import Derived.Test.YtclidonogebgkaaOp
import Derived.Deep.DeepCutAuto
import Derived.Deep.RegionHeld3
namespace Go.Proofs.Ytclidonogebgkaa.Ct
open Go.ChangeShapes Go.WideShapes Go.RowKit Mm
/-- so many lines, as a string -/
def lnS (ls : List Ln) : ByteArray := ⟨(flat ls).toArray⟩
theorem lnS_snoc (ls : List Ln) (x : Ln) : lnS ls ++ ⟨(x.1 ++ [10]).toArray⟩ = lnS (ls ++ [x]) := by
  apply ByteArray.ext
  show (lnS ls ++ ⟨(x.1 ++ [10]).toArray⟩ : ByteArray).data = _
  rw [ByteArray.data_append]
  simp [lnS, flat]
theorem read_a (n : Nat) (hn : n < 8192) (w : World) : Calls Try.prog 10 #[.string (lnS (manyL (n + 1)))] w fun e w' => ∃ G A c, e = .returned (.tuple #[P G, .int .i64 0]) ∧ Only No w w' ∧ (∀ k, Sm G A k → w.heap.size ≤ k) ∧ MapAt w' G A c 1 (n + 1) (List.replicate (n + 1) true) := by
  have h := read10 (manyL (n + 1)) (many10 _) (by simp [manyL]; omega) w
  unfold ReadPost at h
  rw [read_many] at h
  refine h.mono fun e w' he => ?_
  dsimp only at he
  rw [if_pos (show n + 1 ≤ 8192 by omega)] at he
  exact he
theorem mem10 {ls : List Ln} (h : ∀ x ∈ ls, (10 : UInt8) ∉ x.1) (y : Ln) (hy : (10 : UInt8) ∉ y.1) : ∀ x ∈ ls ++ [y], (10 : UInt8) ∉ x.1 := by
  intro x hx
  rcases List.mem_append.1 hx with hx | hx
  · exact h x hx
  · rw [List.mem_singleton.1 hx]
    exact hy
theorem read_b (n : Nat) (hn : n = 8191) (w : World) : Calls Try.prog 10 #[.string (lnS (manyL (n + 1) ++ [lnD]))] w fun e w' => e = .returned (.tuple #[.pointer none, .int .i64 120]) ∧ Only No w w' := by
  have h := read10 (manyL (n + 1) ++ [lnD]) (mem10 (many10 _) lnD (by decide)) (by simp [manyL]; omega) w
  unfold ReadPost at h
  rw [read_dot] at h
  refine h.mono fun e w' he => ?_
  dsimp only at he
  rw [if_neg (show ¬ n + 2 ≤ 8192 by omega)] at he
  exact he
theorem read_c (n : Nat) (hn : n < 8192) (w : World) : Calls Try.prog 10 #[.string (lnS (manyL (n + 1) ++ [lnX]))] w fun e w' => e = .returned (.tuple #[.pointer none, .int .i64 310]) ∧ Only No w w' := by
  have h := read10 (manyL (n + 1) ++ [lnX]) (mem10 (many10 _) lnX (by decide)) (by simp [manyL]; omega) w
  unfold ReadPost at h
  rw [read_ex] at h
  exact h
/-- bytes as numbers -/
def byN (l : List UInt8) : List Int := l.map fun b => (b.toNat : Int)
theorem byN_app (a b : List UInt8) : byN (a ++ b) = byN a ++ byN b := List.map_append
theorem str_byN (l : List UInt8) : strOfNums (byN l) = ⟨l.toArray⟩ := by
  unfold strOfNums byN
  rw [List.map_map]
  congr 2
  conv => rhs; rw [← List.map_id l]
  exact List.map_congr_left fun b _ => by simp
theorem two_cells : byteCells ⟨#[35, 10]⟩ = (byN [35, 10]).map (Value.int .u8) := by rw [byteCells_nums]; rfl
theorem cnt_one {m i : Nat} (h : i < m) : cnt ((List.replicate m false).set i true) = 1 := by
  rw [cnt_set (by simpa using h) (by simp [h]), cnt_zero]
theorem cnt_all (m : Nat) : cnt (List.replicate m true) = m := by simp [cnt]
theorem rep_get (m i : Nat) : (List.replicate m false).getD i false = false := by
  rw [List.getD_eq_getElem?_getD, List.getElem?_replicate]
  split <;> simp
theorem new_a (m : Nat) (hm : m = 8192) (w : World) : Calls Try.prog 16 #[.int .i64 8192, .int .i64 1] w fun e w' => ∃ G A c, e = .returned (.tuple #[P G, .int .i64 0]) ∧ Only No w w' ∧ (∀ k, Sm G A k → w.heap.size ≤ k) ∧ MapAt w' G A c 8192 1 (List.replicate m false) := by
  have := new16 w 8192 1 (by omega) (by omega)
  rw [show 8192 * 1 = m by omega] at this
  exact this
set_option maxRecDepth 100000 in
set_option maxHeartbeats 2000000 in
theorem full5 (w : World) : Calls Try.prog 5 #[] w fun e w' => e = .returned (.bool true) ∧ Only No w w' := by
  have haw := Lib.hid awake7
  obtain ⟨n, hn⟩ : ∃ n, n = 8191 := ⟨_, rfl⟩
  have hra := Lib.hid (fun w => read_a n (by omega) w)
  have hrb := Lib.hid (fun w => read_b n hn w)
  have hrc := Lib.hid (fun w => read_c n (by omega) w)
  obtain ⟨m, hm⟩ : ∃ m, m = 8192 := ⟨_, rfl⟩
  have hna := Lib.hid (fun w => new_a m hm w)
  replace hm := Lib.hid hm
  have hnb := Lib.hid (fun w => new16_no w 1 8193 (by omega))
  have hnc := Lib.hid (fun w => new16_no w 4611686018427387904 4 (by omega))
  have hnd := Lib.hid (fun w => new16 w 8192 0 (by omega) (by omega))
  replace hn := Lib.hid hn
  obtain ⟨i0, hi0, hz0, hz1, hz2⟩ := info_parts info5
  go_enter Try.func5, Try.ntmps5
  go_wp2_with fail
  refine (haw.out _).mono ?_
  rintro e w1 ⟨rfl, o1⟩
  replace o1 := Lib.hid o1
  go_wp2_with fail
  refine (hna.out _).mono ?_
  rintro e w2 ⟨Ga, Aa, ca, rfl, o2, hge2, hma⟩
  replace o2 := Lib.hid o2
  replace hma := Lib.hid hma
  replace hge2 := Lib.hid hge2
  go_wp2_with fail
  refine (hnb.out _).mono ?_
  rintro e w3 ⟨rfl, rfl⟩
  go_wp2_with fail
  refine (hnc.out _).mono ?_
  rintro e w3 ⟨rfl, rfl⟩
  go_wp2_with fail
  refine (hnd.out _).mono ?_
  rintro e w3 ⟨Gd, Ad, cd, rfl, o3, hge3, hmd⟩
  replace o3 := Lib.hid o3
  clear hge3 hmd hnd hnc hnb hna haw
  go_wp2_with fail
  go_loopw [10, 11] (fun v10 v11 wr => ∃ i : Nat, v11 = .int .i64 i ∧ i ≤ n + 1 ∧ Hid (wr.ownsRow w3.heap.size 5 1 v10 (2 * i) ((byN (flat (manyL i))).map (Value.int .u8)) ∧ Only No w3 wr)) (fun _ v11 _ => n + 1 - (intOf v11).toNat)
  case atStart => exact ⟨0, rfl, by omega, Lib.hid ⟨World.ownsRow_nil _ _ _ _, Only.refl _ _⟩⟩
  case round =>
    obtain ⟨i, rfl, hi, hO⟩ := hrel
    obtain ⟨A9, c9, rfl⟩ := own_slice hO.out.1
    by_cases hlt : i < n + 1
    · have hlt' : (i : Int) < 8192 := by have := hn.out; omega
      have hsz := hO.out.2.size
      go_wp2_with (at_builtin; refine wpList_append_str _ rfl _ _ 43 9 rfl w3.heap.size 5 i0 (.int .u8 0) Try.underlying43 Try.underlying9 hi0 hz0 hz1 hz2 rfl _ _ _ rfl hO.out.1 _ rfl ?c1 ?c2 hsz ?_)
      case c1 => have := hn.out; simp [ByteArray.size, maxLen]; omega
      case c2 => have := hn.out; simp [ByteArray.size]; omega
      intro v' w' own' o' _
      have hO' : Hid (w'.ownsRow w3.heap.size 5 1 v' (2 * (i + 1)) ((byN (flat (manyL (i + 1)))).map (Value.int .u8)) ∧ Only No w3 w') := Lib.hid ⟨by
        rw [two_cells, ← List.map_append, ← byN_app, ← flat_many] at own'
        exact own', hO.out.2.then o' fun k hk => .inr (own_ge hO.out.1 k hk)⟩
      clear own' o' hO
      go_wp2_with fail
      go_roundw
      case rel => exact ⟨i + 1, by have := hn.out; go_num, by omega, hO'⟩
      case measure => simp [intOf]; omega
    · obtain rfl : i = n + 1 := by omega
      have e8 : ((n + 1 : Nat) : Int) = 8192 := by have := hn.out; omega
      rw [e8]
      clear e8 hlt
      have hS : Hid (lnS (manyL (n + 1)) = strOfNums (byN (flat (manyL (n + 1))))) := Lib.hid (by rw [str_byN]; rfl)
      have hcv : Hid (∀ w', Only No wr w' → (convert 43 9 (.slice A9 (2 * (n + 1)) c9)).run Try.prog w' = .ok (.string (lnS (manyL (n + 1)))) w') := Lib.hid fun w' o => by
        rw [hS.out]
        exact conv_own (own_only hO.out.1 o fun _ _ => id) (by simp [byN, flat_many_len])
      have hcat1 : lnS (manyL (n + 1)) ++ (⟨#[46, 10]⟩ : ByteArray) = lnS (manyL (n + 1) ++ [lnD]) := lnS_snoc _ lnD
      have hcat2 : lnS (manyL (n + 1)) ++ (⟨#[120, 10]⟩ : ByteArray) = lnS (manyL (n + 1) ++ [lnX]) := lnS_snoc _ lnX
      have hss : (lnS (manyL (n + 1))).size = 16384 := by
        show (flat (manyL (n + 1))).toArray.size = _
        rw [List.size_toArray, flat_many_len]
        have := hn.out
        omega
      generalize lnS (manyL (n + 1) ++ [lnD]) = SD at *
      generalize lnS (manyL (n + 1) ++ [lnX]) = SX at *
      generalize lnS (manyL (n + 1)) = SS at *
      have oA : Hid (Only No w wr) := Lib.hid (o1.out.trans (o2.out.trans (o3.out.trans hO.out.2)))
      have hmaR := Lib.hid (hma.out.no (o3.out.trans hO.out.2))
      have hltG : Hid (∀ k, Sm Ga Aa k → k < wr.heap.size) := Lib.hid hmaR.out.lt
      have hge : Hid (∀ k, Sm Ga Aa k → w.heap.size ≤ k) := Lib.hid fun k hk => Nat.le_trans o1.out.size (hge2.out k hk)
      have hc0 := hcv.out wr (Only.refl _ _)
      clear hO o1 o2 o3 hma hge2 hi hS
      go_wp2_with fail
      refine (hra.out _).mono ?_
      rintro e w5 ⟨Gx, Ax, cx, rfl, o5, hge5, hmx⟩
      have hc5 := hcv.out w5 o5
      clear hc0 hra
      replace hmx := Lib.hid hmx
      replace hge5 := Lib.hid hge5
      replace o5 := Lib.hid o5
      go_wp2_with fail
      refine (hrb.out _).mono ?_
      rintro e w6 ⟨rfl, o6⟩
      have hc6 := hcv.out w6 (o5.out.trans o6)
      clear hc5 hrb
      replace o6 := Lib.hid o6
      go_wp2_with fail
      refine (hrc.out _).mono ?_
      rintro e w7 ⟨rfl, o7⟩
      clear hc6 hrc hcv
      have hma7 := Lib.hid (hmaR.out.no (o5.out.trans (o6.out.trans o7)))
      have hmx7 := Lib.hid (hmx.out.no (o6.out.trans o7))
      have oA7 : Hid (Only No w w7) := Lib.hid (oA.out.trans (o5.out.trans (o6.out.trans o7)))
      have hfl := flag17 hma7.out 8191 0 (by omega) (by omega)
      unfold FlagPost at hfl
      rw [rep_get] at hfl
      replace hfl := Lib.hid hfl
      clear hmaR hmx oA o5 o6 o7
      go_wp2_with fail
      refine hfl.out.mono ?_
      rintro e w8 ⟨rfl, hma8, o8⟩
      have hmx8 := hmx7.out.only o8 fun k h1 h2 => by have := hge5.out k h1; have := hltG.out k h2; omega
      have hca := Lib.hid (fun w' (o : Only No w8 w') => count18 (hma8.no o))
      have hcx := Lib.hid (fun w' (o : Only No w8 w') => count18 (hmx8.no o))
      rw [cnt_one (by have := hm.out; omega)] at hca
      rw [cnt_all, show ((n + 1 : Nat) : Int) = 8192 by have := hn.out; omega] at hcx
      have hbx := boxes9 hmx8
      rw [one_box] at hbx
      have o8' : Hid (Only No w w8) := Lib.hid (oA7.out.then o8 fun k hk => .inr (hge.out k hk))
      replace hbx := Lib.hid hbx
      clear hma8 hmx8 o8 hfl hma7 hmx7
      go_wp2_with fail
      refine hbx.out.mono ?_
      rintro e w9 ⟨Lv, rfl, own9, o9⟩
      rcases own9.2 with ⟨_, h1⟩ | ⟨g9, cap, cur, rfl, _⟩
      · simp at h1
      have hc9 := own9.cellAt 3 (by simp)
      rw [show (bxC [(⟨0, 0, 1, n + 1⟩ : Bx)])[3]? = some (.int .i64 ((n + 1 : Nat) : Int)) from rfl, show ((n + 1 : Nat) : Int) = 8192 by have := hn.out; omega] at hc9
      have ofin := Lib.hid (o8'.out.trans o9)
      have hca9 := Lib.hid (hca.out w9 o9)
      have hcx9 := Lib.hid (hcx.out w9 o9)
      clear own9 hbx hca hcx o9 o8'
      go_wp2_with (first
        | (go_at_call 18; (with_reducible refine hca9.out.mono ?_); rintro e w10 ⟨rfl, rfl⟩)
        | (go_at_call 18; (with_reducible refine hcx9.out.mono ?_); rintro e w10 ⟨rfl, rfl⟩))
      go_ret
      exact ⟨rfl, ofin.out⟩
end Go.Proofs.Ytclidonogebgkaa.Ct
