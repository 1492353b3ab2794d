/- Comments of a list as long as a list can be. -/
import Derived.Test.YtehnahikfemodaaCm
namespace Go.Proofs.Ytehnahikfemodaa.Ct
open Go.ChangeShapes Go.WideShapes Go.RowKit Mm
set_option maxRecDepth 100000 in
set_option maxHeartbeats 1600000 in
theorem comm_b (A : Option Addr) (m c : Nat) (l : List Ex) (w : World) (hr : Rds w 2 A m (exC l)) (hl : l.length = m) (hm : m * 24 ≤ 140737488355328) : Calls Try.prog 12 #[.slice A m c] w (Comm l w) := by
  obtain ⟨i0, hi0, hz0, hz1, hz2⟩ := info_parts info9
  have HR := Lib.hid hr
  have HL := Lib.hid hl
  clear hr hl
  go_enter Try.func12, Try.ntmps12
  go_wp2
  go_loopw [3, 8] (fun v3 v8 wr => ∃ k : Nat, v8 = .int .i64 k ∧ k ≤ m ∧ Hid (CI l w k v3 wr)) (fun _ v8 _ => m - (intOf v8).toNat)
  case atStart => exact ⟨0, rfl, by omega, Lib.hid ⟨by simpa [cms, stC] using World.ownsRow_nil _ _ _ _, Only.refl _ _⟩⟩
  case round =>
    obtain ⟨k, rfl, hk, hI⟩ := hrel
    by_cases hlt : k < m
    · have hlt' : (k : Int) < m := by omega
      obtain ⟨ad, rfl, p0, p1, pb⟩ := ex_cells (HR.out.no hI.out.2) HL.out k hlt
      have hkl : Hid (k < l.length) := Lib.hid (by rw [HL.out]; exact hlt)
      obtain ⟨u, hu⟩ : ∃ u, Hid (u = l[k]'(by rw [HL.out]; exact hlt)) := ⟨_, Lib.hid rfl⟩
      rw [← hu.out] at p0 p1
      have hcl : Hid ((cms (l.take k)).length ≤ k) := Lib.hid (Nat.le_trans (cms_le _) (by rw [List.length_take]; omega))
      cases hc : (u.1 == 254)
      · have hst := Lib.hid (fun w' (h : Only No wr w') => hI.out.skip hkl.out (by rw [← hu.out]; exact hc) h)
        go_wp2
        go_roundw
        case rel => exact ⟨k + 1, by go_num, by omega, Lib.hid (hst.out _ ((Only.refl _ _).alloc _))⟩
        case measure => simp [intOf]; omega
      · have hst := Lib.hid (fun w1 w' v' (h1 : Only No wr w1) h2 (h3 : Only (fun i => u3.ownBlock = some i) w1 w') => hI.out.add (v' := v') hkl.out (by rw [← hu.out]; exact hc) h1 h2 h3)
        go_wp2_with (at_builtin; go_loud (refine Mm.wpList_append_any _ rfl (.tmp 15) (.tmp 18) _ rfl w.heap.size 9 i0 _ 1 16 Try.underlying23 hi0 hz0 hz1 hz2 rfl (by omega) u3 (cms (l.take k)).length (stC (cms (l.take k))) rfl ((hI.out.1.alloc _).alloc _) (some ⟨wr.heap.size + 1, 0, none⟩) 1 1 [.string u.2] rfl (Rds.fresh (blk_new2 _ _ _ _) rfl) (by simp [Value.oneCell']) (by have := hcl.out; simp only [maxLen]; omega) (by have := hcl.out; omega) (by have := hI.out.2.size; simp; omega) ?_); intro v4 w4 hown4 hon4 hat4)
        have hnew := Lib.hid (hst.out _ _ _ (((Only.refl _ _).alloc _).alloc _) (by rw [← hu.out]; exact hown4) hon4)
        clear hown4 hon4 hat4
        go_roundw
        case rel => exact ⟨k + 1, by go_num, by omega, hnew⟩
        case measure => simp [intOf]; omega
    · have hlt' : ¬ (k : Int) < m := by omega
      obtain rfl : k = m := by omega
      go_wp2
      go_ret
      have := hI.out
      unfold CI at this
      rw [List.take_of_length_le (by rw [HL.out]; omega)] at this
      exact ⟨_, rfl, this.1, this.2⟩
end Go.Proofs.Ytehnahikfemodaa.Ct
