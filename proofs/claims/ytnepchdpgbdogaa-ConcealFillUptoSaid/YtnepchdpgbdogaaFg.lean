/- bound and flags: a scene's flags. -/
import Derived.Test.YtnepchdpgbdogaaLd
namespace Go.Proofs.Ytnepchdpgbdogaa.Ct
open Go.ChangeShapes Go.WideShapes Go.RowKit Mm
def bnd (n : Int) : Nat := (n % 101).toNat
theorem bnd_le (n : Int) : bnd n ≤ 100 := by unfold bnd; omega
theorem bound22 (w : World) (n : Int) (hn : -9223372036854775808 ≤ n ∧ n ≤ 9223372036854775807) : Calls Try.prog 22 #[.int .i64 n] w fun e w' => e = .returned (.int .i64 (bnd n)) ∧ w' = w := by
  obtain ⟨r, hr⟩ : ∃ r, r = n.tmod 101 := ⟨_, rfl⟩
  have h1 : -100 ≤ r ∧ r ≤ 100 ∧ (r < 0 → ((bnd n : Nat) : Int) = r + 101) ∧ (¬ r < 0 → ((bnd n : Nat) : Int) = r) := by
    unfold bnd
    by_cases h0 : 0 ≤ n
    · rw [Int.tmod_eq_emod_of_nonneg h0] at hr
      omega
    · have : n.tmod 101 = -((-n) % 101) := by
        rw [← Int.tmod_eq_emod_of_nonneg (show 0 ≤ -n by omega), Int.neg_tmod]; omega
      rw [this] at hr
      omega
  have e1 : IntKind.i64.wrap (n.tmod 101) = r := by rw [← hr]; exact IntWalk.i64_in _ (by omega)
  have hr' := hr.symm
  clear hr
  by_cases hlt : r < 0
  · have d1 : decide (r < 0) = true := decide_eq_true hlt
    have e2 : IntKind.i64.wrap (r + 101) = ((bnd n : Nat) : Int) := by rw [h1.2.2.1 hlt]; exact IntWalk.i64_in _ (by omega)
    replace h1 := Lib.hid h1
    go_enter Try.func22, Try.ntmps22
    go_wp2_with fail
    go_ret
    exact ⟨by simp, rfl⟩
  · have d1 : decide (r < 0) = false := decide_eq_false hlt
    have e3 := h1.2.2.2 hlt
    replace h1 := Lib.hid h1
    rw [e3]
    clear e3
    go_enter Try.func22, Try.ntmps22
    go_wp2_with fail
    go_ret
    exact ⟨by simp, rfl⟩
/-- a scene's value -/
def sceneV (gw gh : Int) (A : Option Addr) (n c : Nat) (sw sh : Int) (F : Option Addr) (fn fc : Nat) : Value := .agg #[.int .i64 gw, .int .i64 gh, .slice A n c, .int .i64 sw, .int .i64 sh, .slice F fn fc]
def flg (fl : List Bool) (n : Nat) : List Bool := (List.range n).map fun i => fl.getD i false
theorem flg_len (fl : List Bool) (n : Nat) : (flg fl n).length = n := by simp [flg]
theorem flg_succ (fl : List Bool) (n : Nat) : flg fl (n + 1) = flg fl n ++ [fl.getD n false] := by simp [flg, List.range_succ]
set_option maxHeartbeats 800000 in
theorem flags9 (w : World) (gw gh : Int) (A : Option Addr) (n c : Nat) (sw sh : Int) (F : Option Addr) (fc : Nat) (fl : List Bool) (hF : Rds w 1 F fl.length (boC fl)) (hsw : -9223372036854775808 ≤ sw ∧ sw ≤ 9223372036854775807) (hsh : -9223372036854775808 ≤ sh ∧ sh ≤ 9223372036854775807) :
    Calls Try.prog 9 #[sceneV gw gh A n c sw sh F fl.length fc] w fun e w' => ∃ v, e = .returned (.tuple #[.int .i64 (bnd sw), .int .i64 (bnd sh), v]) ∧ w'.ownsRow w.heap.size 4 1 v (bnd sw * bnd sh) (boC (flg fl (bnd sw * bnd sh))) ∧ Only No w w' := by
  obtain ⟨i0, hi0, hz0, hz1, hz2⟩ := info_parts info4
  have hW := bnd_le sw
  have hH := bnd_le sh
  have hmul : bnd sw * bnd sh ≤ 100 * 100 := Nat.mul_le_mul hW hH
  have e1 : IntKind.i64.wrap ((bnd sw : Int) * (bnd sh : Int)) = ((bnd sw * bnd sh : Nat) : Int) := by
    rw [IntWalk.i64_in _ (by rw [← Int.natCast_mul]; omega), ← Int.natCast_mul]
  obtain ⟨N, hN⟩ : ∃ N, N = bnd sw * bnd sh := ⟨_, rfl⟩
  rw [← hN] at e1 hmul ⊢
  replace hN := Lib.hid hN
  replace hF := Lib.hid hF
  unfold sceneV
  go_enter Try.func9, Try.ntmps9
  go_wp2_with (first
    | (go_at_call 22; refine (bound22 _ _ (by assumption)).mono ?_; rintro e w7 ⟨rfl, rfl⟩))
  generalize hw1 : (w.alloc (Obj.cells #[.int .i64 gw, .int .i64 gh, .slice A n c, .int .i64 sw, .int .i64 sh, .slice F fl.length fc] 27)) = w1
  have b1 : Hid (Blk w1 w.heap.size 27 #[.int .i64 gw, .int .i64 gh, .slice A n c, .int .i64 sw, .int .i64 sh, .slice F fl.length fc]) := Lib.hid (by rw [← hw1]; exact Blk.new _ _ _)
  have o1 : Hid (Only No w w1) := Lib.hid (by rw [← hw1]; exact (Only.refl No w).alloc _)
  clear hw1
  go_loopw [7, 8] (fun v7 v8 wr => ∃ i : Nat, v8 = .int .i64 i ∧ i ≤ N ∧ Hid (wr.ownsRow w.heap.size 4 1 v7 i (boC (flg fl i)) ∧ Only No w wr ∧ Blk wr w.heap.size 27 #[.int .i64 gw, .int .i64 gh, .slice A n c, .int .i64 sw, .int .i64 sh, .slice F fl.length fc])) (fun _ v8 _ => N - (intOf v8).toNat)
  case atStart => exact ⟨0, rfl, by omega, Lib.hid ⟨World.ownsRow_nil _ _ _ _, o1.out, b1.out⟩⟩
  case round =>
    obtain ⟨i, rfl, hi, hI⟩ := hrel
    have hb := hI.out.2.2
    have c5 := hb.cell 5
    simp only [List.getElem?_toArray, List.getElem?_cons_zero, List.getElem?_cons_succ] at c5
    by_cases hlt : i < N
    · have hlt' : (i : Int) < N := by omega
      have hbl := hb.lt
      have hsucc := flg_succ fl i
      by_cases hfl : i < fl.length
      · have hfl' : (i : Int) < fl.length := by omega
        obtain ⟨ad, rfl, hcl⟩ := (hF.out.no hI.out.2.1).at_ (i := i) (u := .bool (fl.getD i false)) (by omega) (by simp [boC, hfl])
        generalize fl.getD i false = bb at hcl hsucc
        replace hsucc := Lib.hid hsucc
        replace hb := Lib.hid hb
        have hhs : Hid (w.heap.size ≤ wr.heap.size) := Lib.hid hI.out.2.1.size
        go_wp2_with (first | (at_builtin; (refine Mm.wpList_append_any _ rfl (.tmp 22) (.tmp 35) _ rfl w.heap.size 4 i0 _ 1 1 Try.underlying25 hi0 hz0 hz1 hz2 rfl (by omega) u7 i (boC (flg fl i)) rfl (hI.out.1.alloc _) (some ⟨wr.heap.size, 0, none⟩) 1 1 [.bool bb] rfl (Rds.fresh (Blk.new _ _ _) rfl) (by simp [Value.oneCell']) (by simp only [maxLen]; omega) (by omega) (by have := hhs.out; simp; omega) ?_); intro v4 w4 hown4 hon4 hat4))
        have hne : ¬ (u7.ownBlock = some w.heap.size) := own_blk (hI.out.1.alloc (.cells #[.bool bb] 4)) (hb.out.alloc _) (by decide)
        have hnew : Hid (w4.ownsRow w.heap.size 4 1 v4 (i + 1) (boC (flg fl (i + 1))) ∧ Only No w w4 ∧ Blk w4 w.heap.size 27 #[.int .i64 gw, .int .i64 gh, .slice A n c, .int .i64 sw, .int .i64 sh, .slice (some ad) fl.length fc]) := Lib.hid ⟨by rw [hsucc.out]; simpa [boC] using hown4, (hI.out.2.1.alloc _).then hon4 (fun b h => .inr (own_ge hI.out.1 b h)), (hb.out.alloc _).only hon4 hne⟩
        clear hown4 hon4 hat4
        go_roundw
        case rel => exact ⟨i + 1, by go_num, by omega, hnew⟩
        case measure => simp [intOf]; omega
      · have hfl' : ¬ (i : Int) < fl.length := by omega
        have hgd : fl.getD i false = false := by simp [List.getD, List.getElem?_eq_none (Nat.le_of_not_lt hfl)]
        rw [hgd] at hsucc
        replace hsucc := Lib.hid hsucc
        replace hb := Lib.hid hb
        have hhs : Hid (w.heap.size ≤ wr.heap.size) := Lib.hid hI.out.2.1.size
        go_wp2_with (first | (at_builtin; (refine Mm.wpList_append_any _ rfl (.tmp 22) (.tmp 35) _ rfl w.heap.size 4 i0 _ 1 1 Try.underlying25 hi0 hz0 hz1 hz2 rfl (by omega) u7 i (boC (flg fl i)) rfl (hI.out.1.alloc _) (some ⟨wr.heap.size, 0, none⟩) 1 1 [.bool false] rfl (Rds.fresh (Blk.new _ _ _) rfl) (by simp [Value.oneCell']) (by simp only [maxLen]; omega) (by omega) (by have := hhs.out; simp; omega) ?_); intro v4 w4 hown4 hon4 hat4))
        have hne : ¬ (u7.ownBlock = some w.heap.size) := own_blk (hI.out.1.alloc (.cells #[.bool false] 4)) (hb.out.alloc _) (by decide)
        have hnew : Hid (w4.ownsRow w.heap.size 4 1 v4 (i + 1) (boC (flg fl (i + 1))) ∧ Only No w w4 ∧ Blk w4 w.heap.size 27 #[.int .i64 gw, .int .i64 gh, .slice A n c, .int .i64 sw, .int .i64 sh, .slice F fl.length fc]) := Lib.hid ⟨by rw [hsucc.out]; simpa [boC] using hown4, (hI.out.2.1.alloc _).then hon4 (fun b h => .inr (own_ge hI.out.1 b h)), (hb.out.alloc _).only hon4 hne⟩
        clear hown4 hon4 hat4
        go_roundw
        case rel => exact ⟨i + 1, by go_num, by omega, hnew⟩
        case measure => simp [intOf]; omega
    · have hlt' : ¬ (i : Int) < N := by omega
      obtain rfl : i = N := by omega
      go_wp2_with fail
      go_ret3
      exact ⟨_, rfl, hI.out.1, hI.out.2.1⟩
end Go.Proofs.Ytnepchdpgbdogaa.Ct
