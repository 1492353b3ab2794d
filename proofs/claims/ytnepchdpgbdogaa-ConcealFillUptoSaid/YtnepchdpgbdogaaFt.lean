/- fit: a scene whose grid fits its map. -/
import Derived.Test.YtnepchdpgbdogaaFg
import Derived.Test.YtnepchdpgbdogaaFl
import Derived.Great.Walk
import Derived.Deep.DeepCutAuto
namespace Go.Proofs.Ytnepchdpgbdogaa.Ct
open Go.ChangeShapes Go.WideShapes Go.RowKit Mm
section
variable {ops : Array Oper} {rest : List Oper} {a : Act} {w : World} {Q : Exit → Act → World → Prop} {d : Option Tmp} {x y : Operand} {ty : TypeId} {p : String} {af : Array Edge}
/-- a slice literal of one block -/
theorem wl_build1 (cs : List Value) (hx : a.eval x = .agg cs.toArray) (hl : cs.length = 64) (h : wpList Try.prog ops Q rest (a.put d (.slice (some ⟨w.heap.size, 0, none⟩) 1 1)) (w.alloc (.cells cs.toArray 48))) :
    wpList Try.prog ops Q (⟨d, .buildSlice 22 1 #[(0, x)], ty, p, af, none⟩ :: rest) a w := by
  obtain ⟨i0, hi0, ⟨z0, hz0⟩, hz1, hz2⟩ := info48z
  refine wpList_buildSlice rfl 22 48 1 #[(0, x)] rfl cs.toArray i0 z0 Try.underlying22 hi0 hz0 (by rw [hz1]; decide) (by rw [hz1]; decide) ?_ h
  have := Great.fill_whole (s := 64) (by decide) [Value.agg cs.toArray] ((Array.range (1 * 64)).map (z0.cells[· % z0.cells.size]!)) (by simp [Value.cells, hl]) (by simp)
  rw [hz1]
  simp only [List.map_toArray, List.map_cons, List.map_nil, hx]
  simpa [Value.cells] using this
end
theorem info48c : ∃ i z, Try.prog.info? 48 = some i ∧ i.zero = some z ∧ z.cells.size = 64 ∧ i.size = 64 ∧ i.bytes = 128 := by
  have h : (Try.prog.info? 48).map (fun i => (i.zero.map (·.cells.size), i.size, i.bytes)) = some (some 64, 64, 128) := by kernel_rfl
  cases hq : Try.prog.info? 48 with
  | none => simp [hq] at h
  | some i =>
    simp only [hq, Option.map_some, Option.some.injEq, Prod.mk.injEq] at h
    obtain ⟨h1, h2, h3⟩ := h
    cases hz : i.zero with
    | none => simp [hz] at h1
    | some z => exact ⟨i, z, rfl, hz, by simpa [hz] using h1, h2, h3⟩
def fitL (bs : List (List Int)) (n : Nat) : List (List Int) := (List.range n).map fun i => bs.getD i (List.replicate 64 0)
theorem fitL_len (bs : List (List Int)) (n : Nat) : (fitL bs n).length = n := by simp [fitL]
theorem fitL_succ (bs : List (List Int)) (n : Nat) : fitL bs (n + 1) = fitL bs n ++ [bs.getD n (List.replicate 64 0)] := by simp [fitL, List.range_succ]
theorem fitL_bls {bs : List (List Int)} (h : Bls bs) (n : Nat) : Bls (fitL bs n) := by
  intro b hb
  unfold fitL at hb
  obtain ⟨i, _, rfl⟩ := List.mem_map.1 hb
  by_cases hi : i < bs.length
  · rw [show bs.getD i (List.replicate 64 0) = bs[i] by simp [hi]]
    exact h _ (List.getElem_mem hi)
  · rw [show bs.getD i (List.replicate 64 0) = List.replicate 64 0 by simp [List.getD, List.getElem?_eq_none (Nat.le_of_not_lt hi)]]
    exact ⟨by simp, fun v hv => by have := (List.mem_replicate.1 hv).2; subst this; omega⟩
def fitN (n : Int) : Nat := bnd n % 41
theorem fitN_le (n : Int) : fitN n ≤ 40 := by unfold fitN; omega
theorem bnd_fit (n : Int) : bnd ((bnd n % 41 : Nat) : Int) = fitN n := by unfold fitN bnd; omega
theorem blk_new1' (w : World) (o : Obj) (t : TypeId) (cs : Array Value) : Blk ((w.alloc o).alloc (.cells cs t)) (w.heap.size + 1) t cs := by
  have := Blk.new (w.alloc o) t cs
  simpa using this
set_option maxHeartbeats 1600000 in
theorem fit20 (w : World) (gw gh : Int) (A : Option Addr) (c : Nat) (sw sh : Int) (F : Option Addr) (fc : Nat) (fl : List Bool) (bs : List (List Int)) (hF : Rds w 1 F fl.length (boC fl)) (hA : Rds w 64 A bs.length (bsC bs)) (hb : Bls bs) (hsw : -9223372036854775808 ≤ sw ∧ sw ≤ 9223372036854775807) (hsh : -9223372036854775808 ≤ sh ∧ sh ≤ 9223372036854775807) :
    Calls Try.prog 20 #[sceneV gw gh A bs.length c sw sh F fl.length fc] w fun e w' => ∃ vg vf, e = .returned (.tuple #[.agg #[.int .i64 (fitN sw), .int .i64 (fitN sh), vg], .int .i64 (fitN sw), .int .i64 (fitN sh), vf]) ∧ Only No w w' ∧
      w'.ownsRow w.heap.size 48 64 vg (fitN sw * fitN sh) (bsC (fitL bs (fitN sw * fitN sh))) ∧ w'.ownsRow w.heap.size 4 1 vf (fitN sw * fitN sh) (boC (flg fl (fitN sw * fitN sh))) := by
  have hbw := bnd_le sw
  have hbh := bnd_le sh
  have e1 : ((bnd sw : Nat) : Int).tmod 41 = ((bnd sw % 41 : Nat) : Int) := by rw [Int.tmod_eq_emod_of_nonneg (by omega)]; rfl
  have e2 : ((bnd sh : Nat) : Int).tmod 41 = ((bnd sh % 41 : Nat) : Int) := by rw [Int.tmod_eq_emod_of_nonneg (by omega)]; rfl
  replace hF := Lib.hid hF
  replace hA := Lib.hid hA
  replace hb := Lib.hid hb
  unfold sceneV
  go_enter Try.func20, Try.ntmps20
  go_wp2_with (first
    | (go_at_call 22; refine (bound22 _ _ (by assumption)).mono ?_; rintro e w7 ⟨rfl, rfl⟩))
  have q1 : ((bnd sw : Nat) : Int) % 41 = ((fitN sw : Nat) : Int) := by unfold fitN; omega
  have q2 : ((bnd sh : Nat) : Int) % 41 = ((fitN sh : Nat) : Int) := by unfold fitN; omega
  rw [q1, q2]
  have q3 : bnd ((fitN sw : Nat) : Int) = fitN sw := by unfold fitN bnd; omega
  have q4 : bnd ((fitN sh : Nat) : Int) = fitN sh := by unfold fitN bnd; omega
  have hW := fitN_le sw
  have hH := fitN_le sh
  replace e1 := Lib.hid e1
  replace e2 := Lib.hid e2
  clear q1 q2 e1 e2 hbw hbh
  generalize hww : fitN sw = W at *
  generalize hhh : fitN sh = H at *
  have hmul : W * H ≤ 40 * 40 := Nat.mul_le_mul hW hH
  have em : IntKind.i64.wrap ((W : Int) * (H : Int)) = ((W * H : Nat) : Int) := by
    rw [IntWalk.i64_in _ (by rw [← Int.natCast_mul]; omega), ← Int.natCast_mul]
  generalize hw1 : ((w.alloc (Obj.cells #[.int .i64 gw, .int .i64 gh, .slice A bs.length c, .int .i64 W, .int .i64 H, .slice F fl.length fc] 27)).alloc (Obj.cells #[.int .i64 0, .int .i64 0, .slice none 0 0] 24)) = w1
  have o1 : Only No w w1 := by rw [← hw1]; exact ((Only.refl No w).alloc _).alloc _
  have b1 : Blk w1 w.heap.size 27 #[.int .i64 gw, .int .i64 gh, .slice A bs.length c, .int .i64 W, .int .i64 H, .slice F fl.length fc] := by rw [← hw1]; exact (Blk.new _ _ _).alloc _
  have b2 : Blk w1 (w.heap.size + 1) 24 #[.int .i64 0, .int .i64 0, .slice none 0 0] := by rw [← hw1]; exact blk_new1' _ _ _ _
  have hfl := flags9 w1 gw gh A bs.length c W H F fc fl (hF.out.no o1) (by omega) (by omega)
  rw [q3, q4] at hfl
  refine hfl.mono ?_
  rintro e w2 ⟨vf, rfl, hof, o2⟩
  have O2 := Lib.hid (o1.trans o2)
  have B1 := Lib.hid (b1.only o2 id)
  have B2 := Lib.hid (b2.only o2 id)
  have OF := Lib.hid (own_base hof (b' := w.heap.size) (fun i h => by have := own_ge hof i h; have := o1.size; omega))
  clear hw1 o1 b1 b2 hof o2 hfl q3 q4
  obtain ⟨N, hN⟩ : ∃ N, N = W * H := ⟨_, rfl⟩
  rw [← hN] at em hmul OF
  replace hN := Lib.hid hN
  go_wp2_with fail
  generalize hw3 : w2.alloc (Obj.cells #[.int .i64 W, .int .i64 H, .slice none 0 0] 24) = w3
  have b3 : Hid (Blk w3 w2.heap.size 24 #[.int .i64 W, .int .i64 H, .slice none 0 0]) := Lib.hid (by rw [← hw3]; exact Blk.new _ _ _)
  have o3 : Hid (Only No w2 w3) := Lib.hid (by rw [← hw3]; exact (Only.refl No w2).alloc _)
  have s3 : w2.heap.size < w3.heap.size := b3.out.lt
  clear hw3
  obtain ⟨g, hg⟩ : ∃ g, g = w2.heap.size := ⟨_, rfl⟩
  rw [← hg] at b3 s3 ⊢
  have hg2 : w.heap.size + 1 < g := by rw [hg]; exact B2.out.lt
  replace hg := Lib.hid hg
  obtain ⟨j0, y0, hj0, hy0, hyz, hy1, hy2⟩ := info48c
  go_loopw [10] (fun v10 wr => ∃ i : Nat, v10 = .int .i64 i ∧ i ≤ N ∧ Hid (∃ v, Blk wr g 24 #[.int .i64 W, .int .i64 H, v] ∧ wr.ownsRow w3.heap.size 48 64 v i (bsC (fitL bs i)) ∧ Only (One g) w3 wr)) (fun v10 _ => N - (intOf v10).toNat)
  case atStart => exact ⟨0, rfl, by omega, Lib.hid ⟨_, b3.out, World.ownsRow_nil _ _ _ _, Only.refl _ _⟩⟩
  case round =>
    obtain ⟨i, rfl, hi, hI⟩ := hrel
    obtain ⟨v, hv1, hv2, hv3⟩ := hI.out
    by_cases hlt : i < N
    · have hlt' : (i : Int) < N := by omega
      have hgw : g < wr.heap.size := hv1.lt
      have hsc := (B1.out.only o3.out id).only hv3 (fun h => by have h : w.heap.size = g := h; omega)
      have hall : Hid (Only No w wr) := Lib.hid ((O2.out.trans o3.out).then hv3 (fun j h => .inr (by have h : j = g := h; omega)))
      have hsucc := fitL_succ bs i
      replace hI := Lib.hid (hI.out)
      obtain ⟨A1, c1, rfl⟩ := own_slice hv2
      go_upto_region 9 with (fail)
      generalize hw4 : wr.alloc (Obj.cells #[.int .i16 0, .int .i16 0, .int .i16 0, .int .i16 0, .int .i16 0, .int .i16 0, .int .i16 0, .int .i16 0, .int .i16 0, .int .i16 0, .int .i16 0, .int .i16 0, .int .i16 0, .int .i16 0, .int .i16 0, .int .i16 0, .int .i16 0, .int .i16 0, .int .i16 0, .int .i16 0, .int .i16 0, .int .i16 0, .int .i16 0, .int .i16 0, .int .i16 0, .int .i16 0, .int .i16 0, .int .i16 0, .int .i16 0, .int .i16 0, .int .i16 0, .int .i16 0, .int .i16 0, .int .i16 0, .int .i16 0, .int .i16 0, .int .i16 0, .int .i16 0, .int .i16 0, .int .i16 0, .int .i16 0, .int .i16 0, .int .i16 0, .int .i16 0, .int .i16 0, .int .i16 0, .int .i16 0, .int .i16 0, .int .i16 0, .int .i16 0, .int .i16 0, .int .i16 0, .int .i16 0, .int .i16 0, .int .i16 0, .int .i16 0, .int .i16 0, .int .i16 0, .int .i16 0, .int .i16 0, .int .i16 0, .int .i16 0, .int .i16 0, .int .i16 0] 48) = w4
      have b4 : Blk w4 wr.heap.size 48 (blC (List.replicate 64 0)).toArray := by rw [← hw4]; exact Blk.new wr 48 (blC (List.replicate 64 0)).toArray
      have o4 : Only No wr w4 := by rw [← hw4]; exact (Only.refl No wr).alloc _
      clear hw4
      have hG4 := b4.lt
      obtain ⟨G, hG⟩ : ∃ G, G = wr.heap.size := ⟨_, rfl⟩
      rw [← hG] at b4 hG4 ⊢
      have hgG : g < G := by omega
      have hc4 := (hsc.only o4 id).cell 2
      have hg4 := (hv1.only o4 id).cell 2
      have hf4 := (hv1.only o4 id).frozen 2
      simp only [List.getElem?_toArray, List.getElem?_cons_zero, List.getElem?_cons_succ] at hc4 hg4
      have hv3s : Hid (w3.heap.size ≤ G) := Lib.hid (by have := hv3.size; omega)
      have own_ng : ¬ (Value.slice A1 i c1).ownBlock = some g := own_blk hv2 hv1 (by decide)
      have own_nG : ∀ k, (Value.slice A1 i c1).ownBlock = some k → ¬ k = G := fun k hk => by have := own_lt hv2 k hk; omega
      replace hG := Lib.hid hG
      by_cases hib : i < bs.length
      · have hib' : (i : Int) < bs.length := by omega
        obtain ⟨ad, rfl, hcs⟩ := bl_cells hb.out (hA.out.no (hall.out.trans o4)) i hib
        have h64 := bl_len hb.out i hib
        have hgd : bs.getD i (List.replicate 64 0) = bs.getD i [] := by simp [hib]
        rw [hgd] at hsucc
        generalize bs.getD i [] = b at hcs h64 hsucc
        have X4 := Lib.hid b4
        have Y4 := Lib.hid (hv1.only o4 id)
        have Z4 := Lib.hid (own_only hv2 o4 (fun _ _ => id))
        have O4 := Lib.hid o4
        clear b4 o4 hgd
        go_wp2_with (first
            | ((with_reducible refine wl_load48 (ad.add (i * 64)) (blC b) ?_ h64 hcs ?_)
               · rfl)
            | ((with_reducible refine wl_store48 G _ (blC b) ?_ ?_ X4.out ?_ h64 (blC_one b) ?_)
               · rfl
               · rfl
               · simp [blC]
               intro w5 b5 o5
               have X5 := Lib.hid b5
               have Y5 := Lib.hid (Y4.out.only o5 (fun h => by have h : g = G := h; omega))
               have hg5 := (Y4.out.only o5 (fun h => by have h : g = G := h; omega)).cell 2
               simp only [List.getElem?_toArray, List.getElem?_cons_zero, List.getElem?_cons_succ] at hg5
               have Z5 := Lib.hid (own_only Z4.out o5 (fun k hk => own_nG k hk))
               have O5 : Hid (Only (One G) wr w5) := Lib.hid ((O4.out.mono (fun _ h => h.elim)).trans o5)
               clear b5 o5)
            | ((with_reducible refine wl_load48 ⟨G, 0, none⟩ (blC b) ?_ h64 (fun j v hv => ?_) ?_)
               · rfl
               · rw [Mm.add_plain]
                 exact (X5.out.cell j).trans (by simpa using hv))
            | ((with_reducible refine wl_build1 (blC b) ?_ h64 ?_)
               · rfl)
            | (at_builtin
               (refine Mm.wpList_append_any _ rfl (.tmp 51) (.tmp 53) _ rfl w3.heap.size 48 j0 _ 64 128 Try.underlying22 hj0 hy0 hy1 hy2 hyz (by omega) (.slice A1 i c1) i (bsC (fitL bs i)) rfl (Z5.out.alloc _) (some ⟨w5.heap.size, 0, none⟩) 1 1 (blC b) rfl (by have := Rds.fresh (n := 1) (size := 64) (Blk.new w5 48 (blC b).toArray) (by simp [h64]); simpa using this) (blC_one _) (by simp only [maxLen]; omega) (by omega) (by have := O5.out.size; have := hv3.size; simp; omega) ?_)
               intro v6 w6 hown6 hon6 hat6
               obtain ⟨A6, c6, rfl⟩ := own_slice hown6
               have hg6 := ((Y5.out.alloc (.cells (blC b).toArray 48)).only hon6 own_ng).cell 2
               have hf6 : w6.frozen? ⟨g, 2, none⟩ = false := ((Y5.out.alloc (.cells (blC b).toArray 48)).only hon6 own_ng).frozen 2
               simp only [List.getElem?_toArray, List.getElem?_cons_zero, List.getElem?_cons_succ] at hg6
               have BG6 := Lib.hid ((Y5.out.alloc (.cells (blC b).toArray 48)).only hon6 own_ng)
               have OW6 := Lib.hid hown6
               have ON6 := Lib.hid hon6
               clear hown6 hon6 hat6))
        go_roundw
        case rel =>
          refine ⟨i + 1, by go_num, by omega, Lib.hid ⟨_, BG6.out.set 2 _, ?_, ?_⟩⟩
          · rw [hsucc, bsC, List.flatMap_append]
            have := own_only OW6.out ((Only.refl (One g) w6).setCell (p := ⟨g, 2, none⟩) (.inl rfl) (.slice A6 (i + 1) c6)) (fun j hj h => own_blk OW6.out BG6.out (by decide) (by have h : j = g := h; rw [← h]; exact hj))
            simpa [bsC] using this
          · have h1 : Only (fun k => (Value.slice A1 i c1).ownBlock = some k ∨ k = G) wr w6 := ((O5.out.alloc (.cells (blC b).toArray 48)).mono (fun j h => .inr h)).trans (ON6.out.mono (fun j h => .inl h))
            have h2 : Only (One g) w3 w6 := hv3.then h1 (fun j h => .inr (h.elim (fun h => own_ge hv2 j h) (fun h => by have := hv3s.out; omega)))
            exact h2.setCell (p := ⟨g, 2, none⟩) (.inl rfl) _
        case measure => simp [intOf]; omega
      · have hib' : ¬ (i : Int) < bs.length := by omega
        have hgd : bs.getD i (List.replicate 64 0) = List.replicate 64 0 := by simp [List.getD, List.getElem?_eq_none (Nat.le_of_not_lt hib)]
        rw [hgd] at hsucc
        have h64 : (blC (List.replicate 64 0)).length = 64 := by simp [blC]
        generalize hzz : List.replicate 64 (0 : Int) = b at b4 h64 hsucc
        have X4 := Lib.hid b4
        have Y4 := Lib.hid (hv1.only o4 id)
        have Z4 := Lib.hid (own_only hv2 o4 (fun _ _ => id))
        have O4 : Hid (Only (One G) wr w4) := Lib.hid (o4.mono (fun _ h => h.elim))
        clear b4 o4 hgd hzz
        go_wp2_with (first
            | ((with_reducible refine wl_load48 ⟨G, 0, none⟩ (blC b) ?_ h64 (fun j v hv => ?_) ?_)
               · rfl
               · rw [Mm.add_plain]
                 exact (X4.out.cell j).trans (by simpa using hv))
            | ((with_reducible refine wl_build1 (blC b) ?_ h64 ?_)
               · rfl)
            | (at_builtin
               (refine Mm.wpList_append_any _ rfl (.tmp 51) (.tmp 53) _ rfl w3.heap.size 48 j0 _ 64 128 Try.underlying22 hj0 hy0 hy1 hy2 hyz (by omega) (.slice A1 i c1) i (bsC (fitL bs i)) rfl (Z4.out.alloc _) (some ⟨w4.heap.size, 0, none⟩) 1 1 (blC b) rfl (by have := Rds.fresh (n := 1) (size := 64) (Blk.new w4 48 (blC b).toArray) (by simp [h64]); simpa using this) (blC_one _) (by simp only [maxLen]; omega) (by omega) (by have := O4.out.size; have := hv3.size; simp; omega) ?_)
               intro v6 w6 hown6 hon6 hat6
               obtain ⟨A6, c6, rfl⟩ := own_slice hown6
               have hg6 := ((Y4.out.alloc (.cells (blC b).toArray 48)).only hon6 own_ng).cell 2
               have hf6 : w6.frozen? ⟨g, 2, none⟩ = false := ((Y4.out.alloc (.cells (blC b).toArray 48)).only hon6 own_ng).frozen 2
               simp only [List.getElem?_toArray, List.getElem?_cons_zero, List.getElem?_cons_succ] at hg6
               have BG6 := Lib.hid ((Y4.out.alloc (.cells (blC b).toArray 48)).only hon6 own_ng)
               have OW6 := Lib.hid hown6
               have ON6 := Lib.hid hon6
               clear hown6 hon6 hat6))
        go_roundw
        case rel =>
          refine ⟨i + 1, by go_num, by omega, Lib.hid ⟨_, BG6.out.set 2 _, ?_, ?_⟩⟩
          · rw [hsucc, bsC, List.flatMap_append]
            have := own_only OW6.out ((Only.refl (One g) w6).setCell (p := ⟨g, 2, none⟩) (.inl rfl) (.slice A6 (i + 1) c6)) (fun j hj h => own_blk OW6.out BG6.out (by decide) (by have h : j = g := h; rw [← h]; exact hj))
            simpa [bsC] using this
          · have h1 : Only (fun k => (Value.slice A1 i c1).ownBlock = some k ∨ k = G) wr w6 := ((O4.out.alloc (.cells (blC b).toArray 48)).mono (fun j h => .inr h)).trans (ON6.out.mono (fun j h => .inl h))
            have h2 : Only (One g) w3 w6 := hv3.then h1 (fun j h => .inr (h.elim (fun h => own_ge hv2 j h) (fun h => by have := hv3s.out; omega)))
            exact h2.setCell (p := ⟨g, 2, none⟩) (.inl rfl) _
        case measure => simp [intOf]; omega
    · have hlt' : ¬ (i : Int) < N := by omega
      obtain rfl : i = N := by omega
      obtain ⟨A1, c1, rfl⟩ := own_slice hv2
      have y3 := (B2.out.only o3.out id).only hv3 (fun h => by have h : w.heap.size + 1 = g := h; omega)
      have hofF := own_only (own_only OF.out o3.out (fun _ _ => id)) hv3 (fun k hk h => own_blk (own_only OF.out o3.out (fun _ _ => id)) b3.out (by decide) (by have h : k = g := h; rw [← h]; exact hk))
      have d0 := hv1.cell 0
      have d1 := hv1.cell 1
      have d2 := hv1.cell 2
      have f0 := y3.cell 0
      have f1 := y3.cell 1
      have f2 := y3.cell 2
      have r0 := y3.frozen 0
      have r1 := y3.frozen 1
      have r2 := y3.frozen 2
      simp only [List.getElem?_toArray, List.getElem?_cons_zero, List.getElem?_cons_succ] at d0 d1 d2 f0 f1 f2
      have hfin : Hid (Only No w wr) := Lib.hid ((O2.out.trans o3.out).then hv3 (fun j h => .inr (by have h : j = g := h; omega)))
      have hv3s : w.heap.size ≤ w3.heap.size := (O2.out.trans o3.out).size
      have Y3 := Lib.hid y3
      have V2 := Lib.hid hv2
      have V4 := Lib.hid hofF
      clear hI y3 hv1 hv2 hv3 hofF
      go_wp2_with fail
      (try simp only [Exit.inBlock, Exit.then])
      refine bodyPost_ret (v := .tuple #[.agg #[.int .i64 W, .int .i64 H, .slice A1 i c1], .int .i64 W, .int .i64 H, vf]) ?_ rfl ⟨.slice A1 i c1, vf, rfl, ?_, ?_, ?_⟩
      · simp only [results, show Try.f20.results = #[ResultVar.cell 2 24, ResultVar.tmp 3, ResultVar.tmp 4, ResultVar.tmp 5] from rfl]
        go_simp
      · exact ((hfin.out.setCell (p := ⟨w.heap.size + 1, 0, none⟩) (.inr (by simp)) _).setCell (p := ⟨w.heap.size + 1, 1, none⟩) (.inr (by simp)) _).setCell (p := ⟨w.heap.size + 1, 2, none⟩) (.inr (by simp)) _
      · rw [← hN.out]
        refine own_only (own_base V2.out (fun k hk => by have := own_ge V2.out k hk; omega)) (((Only.refl (One (w.heap.size + 1)) wr).setCell (p := ⟨w.heap.size + 1, 0, none⟩) (.inl rfl) _).setCell (p := ⟨w.heap.size + 1, 1, none⟩) (.inl rfl) _ |>.setCell (p := ⟨w.heap.size + 1, 2, none⟩) (.inl rfl) _) (fun k hk h => own_blk V2.out Y3.out (by decide) (by have h : k = w.heap.size + 1 := h; rw [← h]; exact hk))
      · rw [← hN.out]
        refine own_only V4.out (((Only.refl (One (w.heap.size + 1)) wr).setCell (p := ⟨w.heap.size + 1, 0, none⟩) (.inl rfl) _).setCell (p := ⟨w.heap.size + 1, 1, none⟩) (.inl rfl) _ |>.setCell (p := ⟨w.heap.size + 1, 2, none⟩) (.inl rfl) _) (fun k hk h => own_blk V4.out Y3.out (by decide) (by have h : k = w.heap.size + 1 := h; rw [← h]; exact hk))
end Go.Proofs.Ytnepchdpgbdogaa.Ct
