/- twin: a grid in memory of its own, with marked room behind its blocks. -/
import Derived.Test.YtnepchdpgbdogaaFt
import Derived.Test.YtnepchdpgbdogaaDc
import Derived.StillTailTactics
import Derived.Deep.DeepCutAuto
namespace Go.Proofs.Ytnepchdpgbdogaa.Ct
open Go.ChangeShapes Go.WideShapes Go.RowKit Mm
def markB : List Int := 77 :: List.replicate 63 0
def marks (n : Nat) : List (List Int) := List.replicate n markB
theorem marks_succ (n : Nat) : marks (n + 1) = marks n ++ [markB] := List.replicate_succ'
set_option maxHeartbeats 1600000 in
theorem twin11 (w : World) (gw gh : Int) (A : Option Addr) (c : Nat) (bs : List (List Int)) (hA : Rds w 64 A bs.length (bsC bs)) (hn : bs.length ≤ 1048576) :
    Calls Try.prog 11 #[gridI gw gh A bs.length c] w fun e w' => ∃ G c', e = .returned (gridI gw gh (some ⟨G, 0, none⟩) bs.length c') ∧ Only No w w' ∧ bs.length + 8 ≤ c' ∧
      w'.ownsRow w.heap.size 48 64 (.slice (some ⟨G, 0, none⟩) (bs.length + 8) c') (bs.length + 8) (bsC (bs ++ marks 8)) := by
  obtain ⟨j0, y0, hj0, hy0, hyz, hy1, hy2⟩ := info48c
  have hone : ∀ u ∈ bsC bs, u.oneCell' = true := by
    intro u hu
    obtain ⟨b, _, h⟩ := List.mem_flatMap.1 hu
    exact blC_one b u h
  have h64 : (blC markB).length = 64 := rfl
  replace hA := Lib.hid hA
  unfold gridI
  go_enter Try.func11, Try.ntmps11
  go_upto_region 2 with (fail)
  generalize hw1 : ((w.alloc (Obj.cells #[.int .i64 gw, .int .i64 gh, .slice A bs.length c] 24)).alloc (Obj.cells #[.int .i64 0, .int .i64 0, .slice none 0 0] 24)) = w1
  have o1 : Hid (Only No w w1) := Lib.hid (by rw [← hw1]; exact ((Only.refl No w).alloc _).alloc _)
  have b1 : Blk w1 w.heap.size 24 #[.int .i64 gw, .int .i64 gh, .slice A bs.length c] := by rw [← hw1]; exact (Blk.new _ _ _).alloc _
  have b2 : Blk w1 (w.heap.size + 1) 24 #[.int .i64 0, .int .i64 0, .slice none 0 0] := by rw [← hw1]; exact blk_new1' _ _ _ _
  clear hw1
  have c2 := b1.cell 2
  simp only [List.getElem?_toArray, List.getElem?_cons_zero, List.getElem?_cons_succ] at c2
  replace b1 := Lib.hid b1
  replace b2 := Lib.hid b2
  go_wp2_with (first
    | (at_builtin
       (refine Mm.wpList_append_any _ rfl (.tmp 5) (.tmp 7) _ rfl w1.heap.size 48 j0 _ 64 128 Try.underlying22 hj0 hy0 hy1 hy2 hyz (by omega) (.slice none 0 0) 0 [] rfl (World.ownsRow_nil _ _ _ _) A bs.length c (bsC bs) rfl (hA.out.no o1.out) hone (by simp only [maxLen]; omega) (by omega) (by omega) ?_)
       intro v2 w2 hown2 hon2 hat2
       have O2 : Hid (Only No w1 w2) := Lib.hid (hon2.mono (fun i h => by simp [Value.ownBlock] at h))
       have W2 : Hid (w2.ownsRow w1.heap.size 48 64 v2 bs.length (bsC bs)) := Lib.hid (by simpa using hown2)
       clear hown2 hon2 hat2))
  go_loopw [3, 4] (fun v3 v4 wr => ∃ i : Nat, v4 = .int .i64 i ∧ i ≤ 8 ∧ Hid (wr.ownsRow w1.heap.size 48 64 v3 (bs.length + i) (bsC (bs ++ marks i)) ∧ Only No w1 wr)) (fun _ v4 _ => 8 - (intOf v4).toNat)
  case atStart => exact ⟨0, rfl, by omega, Lib.hid ⟨by simpa [marks] using W2.out, O2.out⟩⟩
  case round =>
    obtain ⟨i, rfl, hi, hI⟩ := hrel
    by_cases hlt : i < 8
    · have hlt' : (i : Int) < 8 := by omega
      have hs := Lib.hid (marks_succ i)
      go_wp2_with (first
        | ((with_reducible refine wl_build1 (blC markB) ?_ h64 ?_)
           · rfl)
        | (at_builtin
           (refine Mm.wpList_append_any _ rfl (.tmp 13) (.tmp 15) _ rfl w1.heap.size 48 j0 _ 64 128 Try.underlying22 hj0 hy0 hy1 hy2 hyz (by omega) u3 (bs.length + i) (bsC (bs ++ marks i)) rfl (hI.out.1.alloc _) (some ⟨wr.heap.size, 0, none⟩) 1 1 (blC markB) rfl (by have := Rds.fresh (n := 1) (size := 64) (Blk.new wr 48 (blC markB).toArray) (by simp [h64]); simpa using this) (blC_one _) (by simp only [maxLen]; omega) (by omega) (by have := hI.out.2.size; simp; omega) ?_)
           intro v6 w6 hown6 hon6 hat6
           have N6 : Hid (w6.ownsRow w1.heap.size 48 64 v6 (bs.length + (i + 1)) (bsC (bs ++ marks (i + 1))) ∧ Only No w1 w6) := Lib.hid ⟨by rw [hs.out, ← List.append_assoc, bsC, List.flatMap_append]; simpa [bsC, Nat.add_assoc] using hown6, (hI.out.2.alloc _).then hon6 (fun j h => .inr (own_ge hI.out.1 j h))⟩
           clear hown6 hon6 hat6))
      go_roundw
      case rel => exact ⟨i + 1, by go_num, by omega, N6⟩
      case measure => simp [intOf]; omega
    · have hlt' : ¬ (i : Int) < 8 := by omega
      obtain rfl : i = 8 := by omega
      obtain ⟨G, c', rfl, hcap⟩ : ∃ G c', u3 = .slice (some ⟨G, 0, none⟩) (bs.length + 8) c' ∧ bs.length + 8 ≤ c' := by
        rcases hI.out.1.2 with ⟨_, h0⟩ | ⟨G, cap, cur, e, _, _, hc, _⟩
        · omega
        · exact ⟨G, cap, e, hc⟩
      have X1 := b1.out.only hI.out.2 id
      have X2 := b2.out.only hI.out.2 id
      have d0 := X1.cell 0
      have d1 := X1.cell 1
      have d2 := X1.cell 2
      have f0 := X2.cell 0
      have f1 := X2.cell 1
      have f2 := X2.cell 2
      have r0 := X2.frozen 0
      have r1 := X2.frozen 1
      have r2 := X2.frozen 2
      simp only [List.getElem?_toArray, List.getElem?_cons_zero, List.getElem?_cons_succ] at d0 d1 d2 f0 f1 f2
      have hcc : (bs.length : Int) ≤ (c' : Int) := by omega
      replace X2 := Lib.hid X2
      clear X1
      go_wp2_with fail
      go_still_tail 10, (by kernel_rfl)
      change wpList _ _ _ _ _ wr.drew
      have HO := Lib.hid (own_only hI.out.1 (Only.refl No wr).drew (fun _ _ => id))
      have HO2 := Lib.hid ((o1.out.trans hI.out.2).drew)
      replace X2 : Hid (Blk wr.drew (w.heap.size + 1) 24 #[.int .i64 0, .int .i64 0, .slice none 0 0]) := X2
      replace f0 : wr.drew.cell? ⟨w.heap.size + 1, 0, none⟩ = some (.int .i64 0) := f0
      replace f1 : wr.drew.cell? ⟨w.heap.size + 1, 1, none⟩ = some (.int .i64 0) := f1
      replace f2 : wr.drew.cell? ⟨w.heap.size + 1, 2, none⟩ = some (.slice none 0 0) := f2
      replace r0 : wr.drew.frozen? ⟨w.heap.size + 1, 0, none⟩ = false := r0
      replace r1 : wr.drew.frozen? ⟨w.heap.size + 1, 1, none⟩ = false := r1
      replace r2 : wr.drew.frozen? ⟨w.heap.size + 1, 2, none⟩ = false := r2
      have hsz := o1.out.size
      clear hI d0 d1 d2
      generalize wr.drew = wz at *
      go_wp2_with fail
      (try simp only [Exit.inBlock, Exit.then])
      refine bodyPost_ret (v := .agg #[.int .i64 gw, .int .i64 gh, .slice (some ⟨G, 0, none⟩) bs.length c']) ?_ rfl ⟨G, c', rfl, ?_, hcap, ?_⟩
      · simp only [results, show Try.f11.results = #[ResultVar.cell 2 24] from rfl]
        go_simp
      · exact ((HO2.out.setCell (p := ⟨w.heap.size + 1, 0, none⟩) (.inr (by simp)) _).setCell (p := ⟨w.heap.size + 1, 1, none⟩) (.inr (by simp)) _).setCell (p := ⟨w.heap.size + 1, 2, none⟩) (.inr (by simp)) _
      · refine own_only (own_base HO.out (fun k hk => by have := own_ge HO.out k hk; omega)) (((Only.refl (One (w.heap.size + 1)) wz).setCell (p := ⟨w.heap.size + 1, 0, none⟩) (.inl rfl) _).setCell (p := ⟨w.heap.size + 1, 1, none⟩) (.inl rfl) _ |>.setCell (p := ⟨w.heap.size + 1, 2, none⟩) (.inl rfl) _) (fun k hk h => own_blk HO.out X2.out (by decide) (by have h : k = w.heap.size + 1 := h; rw [← h]; exact hk))
end Go.Proofs.Ytnepchdpgbdogaa.Ct
