/- alive: a block between two others is filled. -/
import Derived.Test.YtnepchdpgbdogaaFw
import Derived.Test.YtnepchdpgbdogaaLd
import Derived.Great.Walk
import Derived.Test.YtnepchdpgbdogaaEq
namespace Go.Proofs.Ytnepchdpgbdogaa.Ct
open Go.ChangeShapes Go.WideShapes Go.RowKit Mm
def avB : List (List Int) := [10 :: 3 :: List.replicate 62 0, 7 :: 7 :: List.replicate 62 0, List.replicate 64 0, 40 :: List.replicate 63 0]
def avL : List Bool := [false, true, true, false]
def avF : List (List Int) := [10 :: 3 :: List.replicate 62 0, 20 :: List.replicate 63 0, 30 :: List.replicate 63 0, 40 :: List.replicate 63 0]
theorem av_fill : flL 4 1 avL avB = avF := by decide +kernel
theorem av_dc : dcP 4 1 avL (dcs avB) 1 0 = 20 := by decide +kernel
theorem av_bls : Bls avB := by
  intro b h
  simp only [avB, List.mem_cons, List.not_mem_nil, or_false] at h
  rcases h with rfl | rfl | rfl | rfl <;> exact ⟨rfl, by decide⟩
theorem guard48 : Try.prog.eqGuardType Try.prog.depth 48 = false := by kernel_rfl
section
variable {ops : Array Oper} {rest : List Oper} {a : Act} {w : World} {Q : Exit → Act → World → Prop} {d : Option Tmp} {x y : Operand} {ty : TypeId} {p : String} {af : Array Edge}
theorem wl_build22 (parts : Array (Nat × Operand)) (cells : Array Value) (hf : Try.prog.builtSlice 48 4 (parts.map fun (i, x) => (i, a.eval x)).toList = some cells)
    (h : wpList Try.prog ops Q rest (a.put d (.slice (some ⟨w.heap.size, 0, none⟩) 4 4)) (w.alloc (.cells cells 48))) : wpList Try.prog ops Q (⟨d, .buildSlice 22 4 parts, ty, p, af, none⟩ :: rest) a w :=
  Great.wpList_buildSliceTo rfl 22 48 4 parts rfl w.heap.size rfl d rfl Try.underlying22 cells hf h
theorem wl_load48g (g : Nat × Bool) (ad : Addr) (cs : List Value) (hw : Region.wanted ⟨d, .load 48 x, ty, p, af, some g⟩ (yielded ops a.tmps) = true) (hx : a.eval x = .pointer (some ad)) (hl : cs.length = 64) (hc : ∀ j v, cs[j]? = some v → w.cell? (ad.add j) = some v)
    (h : wpList Try.prog ops Q rest (a.put d (.agg cs.toArray)) w) : wpList Try.prog ops Q (⟨d, .load 48 x, ty, p, af, some g⟩ :: rest) a w := by
  unfold wpList
  rw [if_pos hw]
  left
  unfold Oper.wp execOp
  simp only [hx, Instr.loadAt, Instr.sureAddr, Sem.run_bind, Sem.run_pure, Result.andThen_ok, run_load48 w ad cs hl hc]
  exact h
theorem wl_eql48g (g : Nat × Bool) (la lb : List Int) (hw : Region.wanted ⟨d, .binOp .eql 48 x y 48, ty, p, af, some g⟩ (yielded ops a.tmps) = true) (hx : a.eval x = .agg (blC la).toArray) (hy : a.eval y = .agg (blC lb).toArray) (h1 : la.length = 64) (h2 : lb.length = 64)
    (h : wpList Try.prog ops Q rest (a.put d (.bool (decide (la = lb)))) w) : wpList Try.prog ops Q (⟨d, .binOp .eql 48 x y 48, ty, p, af, some g⟩ :: rest) a w := by
  unfold wpList
  rw [if_pos hw]
  left
  unfold Oper.wp execOp
  simp only [hx, hy, Sem.run_bind, run_eqGuard_agg w .eql 48 x y _ _ guard48, eql48 w la lb h1 h2, Result.andThen_ok]
  exact h
end
set_option maxRecDepth 100000 in
set_option maxHeartbeats 3200000 in
theorem alive19 (w : World) : Calls Try.prog 19 #[] w fun e w' => e = .returned (.bool true) ∧ Only No w w' := by
  go_enter Try.func19, Try.ntmps19
  go_wp2_with (first
    | ((with_reducible refine wl_build22 _ (bsC avB).toArray ?_ ?_)
       · kernel_rfl))
  generalize hw3 : (((w.alloc (Obj.cells (bsC avB).toArray 48)).alloc (Obj.cells #[.int .i64 4, .int .i64 1, .slice (some ⟨w.heap.size, 0, none⟩) 4 4] 24)).alloc (Obj.cells #[.bool false, .bool true, .bool true, .bool false] 4)) = w3
  have b0 : Blk w3 w.heap.size 48 (bsC avB).toArray := by rw [← hw3]; exact ((Blk.new w 48 _).alloc _).alloc _
  have b1 : Blk w3 (w.heap.size + 1) 24 #[.int .i64 4, .int .i64 1, .slice (some ⟨w.heap.size, 0, none⟩) 4 4] := by rw [← hw3]; exact (blk_new1 w _ 24 _).alloc _
  have b2 : Blk w3 (w.heap.size + 1 + 1) 4 #[.bool false, .bool true, .bool true, .bool false] := by rw [← hw3]; exact blk_new2 w _ _ 4 _
  have o3 : Only No w w3 := by rw [← hw3]; exact (((Only.refl No w).alloc _).alloc _).alloc _
  clear hw3
  obtain ⟨n0, hn0⟩ : ∃ n0, n0 = w.heap.size := ⟨_, rfl⟩
  rw [← hn0] at b0 b1 b2 ⊢
  refine (laid10 w3 4 1 (some ⟨n0 + 1 + 1, 0, none⟩) 4 avL (Rds.fresh b2 rfl) (by omega) (by omega) rfl).mono ?_
  rintro e w4 ⟨g, rfl, o4, hg, hM⟩
  have b0' := b0.only o4 id
  have hG : GridAt w4 w4.heap.size 4 1 (some ⟨n0, 0, none⟩) avB := ⟨by have := Rds.fresh (n := 4) (size := 64) b0' (by rw [List.size_toArray, bsC_length av_bls]; rfl); rw [List.toList_toArray] at this; exact this, fun ad e => by cases e; exact b0'.lt, rfl, av_bls⟩
  replace hG := Lib.hid hG
  replace hM := Lib.hid hM
  have B1 := b1.only o4 id
  have c0 := B1.cell 0
  have c1 := B1.cell 1
  have c2 := B1.cell 2
  simp only [List.getElem?_toArray, List.getElem?_cons_zero, List.getElem?_cons_succ] at c0 c1 c2
  replace B1 := Lib.hid B1
  have O4 := Lib.hid (o3.trans o4)
  replace hn0 := Lib.hid hn0
  clear b0 b1 b2 o3 o4 b0' hg
  go_wp2_with fail
  refine (fill17_yes w4 w4.heap.size 4 1 avL avB (some ⟨n0, 0, none⟩) 4 g hG.out hM.out (Nat.le_refl _)).mono ?_
  rintro e w5 ⟨G, rfl, o5, hGw, bG⟩
  rw [av_fill] at bG
  have B5 := B1.out.only o5 id
  have c0 := B5.cell 0
  have c1 := B5.cell 1
  have c2 := B5.cell 2
  simp only [List.getElem?_toArray, List.getElem?_cons_zero, List.getElem?_cons_succ] at c0 c1 c2
  have O5 := Lib.hid (O4.out.trans o5)
  have hM5 := Lib.hid (hM.out.no o5)
  have hG5 := Lib.hid (hG.out.no o5)
  have h45 := Lib.hid o5.size
  replace bG := Lib.hid bG
  replace hGw := Lib.hid hGw
  have B5' := Lib.hid B5
  clear o5 B1 hM hG B5
  unfold gridI
  go_upto_region 6 with (fail)
  generalize hw6 : w5.alloc (Obj.cells #[.int .i64 4, .int .i64 1, .slice (some ⟨G, 0, none⟩) avB.length avB.length] 24) = w6
  have B6 : Blk w6 w5.heap.size 24 #[.int .i64 4, .int .i64 1, .slice (some ⟨G, 0, none⟩) avB.length avB.length] := by rw [← hw6]; exact Blk.new _ _ _
  have o6 : Only No w5 w6 := by rw [← hw6]; exact (Only.refl _ _).alloc _
  clear hw6
  have bG6 := bG.out.only o6 id
  have hR : Rds w6 64 (some ⟨G, 0, none⟩) avF.length (bsC avF) := by have := Rds.fresh (n := 4) (size := 64) bG6 (by rw [List.size_toArray, bsC_length (show Bls avF by rw [← av_fill]; exact flL_bls (by omega) (by omega) av_bls rfl)]; rfl); rw [List.toList_toArray] at this; exact this
  have avf : Bls avF := by rw [← av_fill]; exact flL_bls (by omega) (by omega) av_bls rfl
  have hcs : ∀ i, i < 4 → ∀ j v, (blC (avF.getD i []))[j]? = some v → w6.cell? ((⟨G, i * 64, none⟩ : Addr).add j) = some v := fun i hi j v hv => by
    obtain ⟨ad, had, hc⟩ := bl_cells avf hR i hi
    cases had
    have := hc j v hv
    rw [Mm.add_plain] at this
    exact this
  have hls : ∀ i, i < 4 → (blC (avF.getD i [])).length = 64 := fun i hi => bl_len avf i hi
  obtain ⟨q0, hq0⟩ : ∃ q, q = avF.getD 0 [] := ⟨_, rfl⟩
  obtain ⟨q1, hq1⟩ : ∃ q, q = avF.getD 1 [] := ⟨_, rfl⟩
  obtain ⟨q2, hq2⟩ : ∃ q, q = avF.getD 2 [] := ⟨_, rfl⟩
  obtain ⟨q3, hq3⟩ : ∃ q, q = avF.getD 3 [] := ⟨_, rfl⟩
  have s0 := Lib.hid (hcs 0 (by omega))
  have s1 := Lib.hid (hcs 1 (by omega))
  have s2 := Lib.hid (hcs 2 (by omega))
  have s3 := Lib.hid (hcs 3 (by omega))
  have l0 := Lib.hid (hls 0 (by omega))
  have l1 := Lib.hid (hls 1 (by omega))
  have l2 := Lib.hid (hls 2 (by omega))
  have l3 := Lib.hid (hls 3 (by omega))
  rw [← hq0] at s0 l0
  rw [← hq1] at s1 l1
  rw [← hq2] at s2 l2
  rw [← hq3] at s3 l3
  clear hcs hls hR bG6
  have hbl : avB.length = 4 := rfl
  have d0 := B6.cell 0
  have d1 := B6.cell 1
  have d2 := B6.cell 2
  have E6 := ((B5'.out).only o6 id)
  have c0 := E6.cell 0
  have c1 := E6.cell 1
  have c2 := E6.cell 2
  simp only [List.getElem?_toArray, List.getElem?_cons_zero, List.getElem?_cons_succ] at d0 d1 d2 c0 c1 c2
  have O6 := Lib.hid (O5.out.trans o6)
  have hM6 := Lib.hid (hM5.out.no o6)
  have hG6 := Lib.hid (hG5.out.no o6)
  have h46 := Lib.hid (Nat.le_trans h45.out o6.size)
  replace hq0 := Lib.hid hq0
  replace hq1 := Lib.hid hq1
  replace hq2 := Lib.hid hq2
  replace hq3 := Lib.hid hq3
  clear B6 E6 o6 B5' hM5 hG5 h45 bG O5 avf
  go_wp2_with (first
    | ((with_reducible refine wl_load48g _ ⟨G, 0, none⟩ (blC q0) ?_ ?_ l0.out (by simpa using s0.out) ?_)
       · rfl
       · rfl)
    | ((with_reducible refine wl_eql48g _ q0 q0 ?_ ?_ ?_ (by have := l0.out; rwa [blC_length] at this) (by have := l0.out; rwa [blC_length] at this) ?_)
       · rfl
       · rfl
       · rw [hq0.out]; rfl)
    | ((with_reducible refine wl_load48g _ ⟨G, 64, none⟩ (blC q1) ?_ ?_ l1.out (by simpa using s1.out) ?_)
       · rfl
       · rfl)
    | ((with_reducible refine wl_eql48g _ q1 q1 ?_ ?_ ?_ (by have := l1.out; rwa [blC_length] at this) (by have := l1.out; rwa [blC_length] at this) ?_)
       · rfl
       · rfl
       · rw [hq1.out]; rfl)
    | ((with_reducible refine wl_load48g _ ⟨G, 128, none⟩ (blC q2) ?_ ?_ l2.out (by simpa using s2.out) ?_)
       · rfl
       · rfl)
    | ((with_reducible refine wl_eql48g _ q2 q2 ?_ ?_ ?_ (by have := l2.out; rwa [blC_length] at this) (by have := l2.out; rwa [blC_length] at this) ?_)
       · rfl
       · rfl
       · rw [hq2.out]; rfl)
    | ((with_reducible refine wl_load48g _ ⟨G, 192, none⟩ (blC q3) ?_ ?_ l3.out (by simpa using s3.out) ?_)
       · rfl
       · rfl)
    | ((with_reducible refine wl_eql48g _ q3 q3 ?_ ?_ ?_ (by have := l3.out; rwa [blC_length] at this) (by have := l3.out; rwa [blC_length] at this) ?_)
       · rfl
       · rfl
       · rw [hq3.out]; rfl)
    | (go_at_call 12; refine (dc12_in w6 w4.heap.size 4 1 avL avB (some ⟨n0, 0, none⟩) 4 g hG6.out hM6.out h46.out 1 0 rfl).mono ?_; rintro e w7 ⟨rfl, o7⟩; rw [av_dc]; have O7 := Lib.hid (O6.out.trans o7); clear o7))
  go_ret
  exact ⟨by simp, O7.out⟩
end Go.Proofs.Ytnepchdpgbdogaa.Ct
