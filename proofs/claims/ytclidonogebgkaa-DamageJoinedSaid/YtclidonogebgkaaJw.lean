/- DamageJoined: the walk. -/
import Derived.Test.YtclidonogebgkaaBw
import Derived.Test.YtclidonogebgkaaOp
import Derived.Deep.RegionWith
import Derived.Deep.RegionHeld3
import Derived.Deep.DeepCutAuto
import Derived.Deep.CutRange
namespace Go.Proofs.Ytclidonogebgkaa.Ct
open Go.ChangeShapes Go.WideShapes Go.RowKit Mm
attribute [local go_sem] Oper.semAt_some
/-- the first elements of a list that is read -/
theorem rds_take {w : World} {A : Option Addr} {l : List Bool} (h : Rds w 1 A l.length (boC l)) {n : Nat} (hn : n ≤ l.length) : Rds w 1 A (l.take n).length (boC (l.take n)) := by
  refine ⟨by rw [boC_length, Nat.mul_one], fun h0 => ?_⟩
  rw [List.length_take] at h0
  obtain ⟨ad, e, hb, hc⟩ := h.2 (by omega)
  refine ⟨ad, e, hb, fun j u hu => hc j u ?_⟩
  have hj := (List.getElem?_eq_some_iff.1 hu).1
  rw [boC_length, List.length_take] at hj
  unfold boC at hu ⊢
  rw [List.map_take, List.getElem?_take, if_pos (by omega)] at hu
  exact hu
theorem orL_comm (a b : List Bool) : orL a b = orL b a := by
  unfold orL
  rw [List.zipWith_comm]
  exact congrArg (fun f => List.zipWith f b a) (funext fun x => funext fun y => Bool.or_comm y x)
theorem orL_self (a : List Bool) : orL a a = a := by
  unfold orL
  apply List.ext_getElem
  · simp
  intro i h1 h2
  simp
theorem orL_get {a b : List Bool} (h : a.length = b.length) {i : Nat} (hi : i < a.length) : (orL a b).getD i false = (a.getD i false || b.getD i false) := by
  unfold orL
  have hb : i < b.length := by omega
  simp [List.getElem?_zipWith, hi, hb]
theorem upF_cnt (l : List Bool) (k : Nat) (hk : k ≤ l.length) : (upF l k).length = cnt (l.take k) := by
  induction k with
  | zero => rfl
  | succ k ih =>
    rw [upF_succ l (show k < l.length by omega), cnt_snoc (show k < l.length by omega), ← ih (by omega)]
    split
    · simp
    · simp
theorem upF_mem (l : List Bool) (k : Nat) : ∀ x ∈ upF l k, l.getD x.1 false = true := by
  induction k with
  | zero => intro x hx; simp [upF] at hx
  | succ k ih =>
    intro x hx
    unfold upF at hx
    split at hx
    · split at hx
      · rename_i h
        rcases List.mem_append.1 hx with hx | hx
        · exact ih x hx
        · obtain rfl := List.mem_singleton.1 hx
          exact h
      · exact ih x hx
    · exact ih x hx
theorem hasB_repl (W H n : Nat) (x y : Int) : hasB W H (List.replicate n false) x y = false := by
  unfold hasB
  rw [List.getD_eq_getElem?_getD, List.getElem?_replicate]
  split <;> simp
/-- what has been counted, inside the loop over the flagged blocks -/
def SI (w0 : World) (S : Nat) {n : Nat} (ys : List { i : Nat // i < n }) (V : World) : Prop := Hid (Only (One S) w0 V ∧ Blk V S 3 #[.int .i64 (ys.length : Nat)])
theorem SI.own {w0 : World} {S n : Nat} (hS : S < w0.heap.size) : OwnFrom w0.heap.size (SI w0 S (n := n)) := by
  rintro ys V V' row ⟨ho, hb⟩ hg hr
  have o := Only.of_grown hg
  exact ⟨ho.then o fun i hi => .inr (hr i hi).1, hb.only o fun e => by have := (hr S e).1; omega⟩
set_option maxRecDepth 100000 in
set_option maxHeartbeats 2000000 in
theorem joined6 (w : World) (wide : Int) (A : Option Addr) (c : Nat) (la : List Bool) (A' : Option Addr) (c' : Nat) (lb : List Bool) (h : Rds w 1 A la.length (boC la)) (hc : la.length ≤ c) (hl : la.length ≤ 140737488351232) (hA : A = none → la.length = 0)
    (h' : Rds w 1 A' lb.length (boC lb)) (hc' : lb.length ≤ c') (hl' : lb.length ≤ 140737488351232) (hA' : A' = none → lb.length = 0) :
    Calls Try.prog 6 #[.int .i64 wide, .slice A la.length c, .slice A' lb.length c'] w fun e w' => e = .returned (.bool true) ∧ Only No w w' := by
  obtain ⟨n, hn⟩ : ∃ n, n = min la.length lb.length := ⟨_, rfl⟩
  have hna : n ≤ la.length := by omega
  have hnb : n ≤ lb.length := by omega
  have la1 : (la.take n).length = n := by rw [List.length_take]; omega
  have lb1 : (lb.take n).length = n := by rw [List.length_take]; omega
  obtain ⟨W, H, hW, hH, hW1, hW40, hH8, hWH⟩ := shape_nums wide (la.take n)
  rw [la1] at hWH hH
  have hWHs : W * H ≤ 327680 := by
    have := Nat.mul_le_mul hW40 hH8
    omega
  have hsa : Hid (∀ w', Only No w w' → Calls Try.prog 8 #[.int .i64 wide, .slice A n c] w' fun e w'' => ∃ G A' c', e = .returned (.tuple #[P G, .int .i64 W, .int .i64 H]) ∧ Only No w' w'' ∧ (∀ k, Sm G A' k → w'.heap.size ≤ k) ∧ MapAt w'' G A' c' W H (la.take (W * H))) := Lib.hid fun w' o => by
    have := shape8 w' wide A c (la.take n) (rds_take (h.no o) hna) (by omega) (by omega) (fun e => by have := hA e; omega) W H hW (by rw [la1]; exact hH)
    rw [la1, List.take_take, Nat.min_eq_left hWH] at this
    exact this
  have hsb : Hid (∀ w', Only No w w' → Calls Try.prog 8 #[.int .i64 wide, .slice A' n c'] w' fun e w'' => ∃ G A' c', e = .returned (.tuple #[P G, .int .i64 W, .int .i64 H]) ∧ Only No w' w'' ∧ (∀ k, Sm G A' k → w'.heap.size ≤ k) ∧ MapAt w'' G A' c' W H (lb.take (W * H))) := Lib.hid fun w' o => by
    have := shape8 w' wide A' c' (lb.take n) (rds_take (h'.no o) hnb) (by omega) (by omega) (fun e => by have := hA' e; omega) W H hW (by rw [lb1]; exact hH)
    rw [lb1, List.take_take, Nat.min_eq_left hWH] at this
    exact this
  have hfa : (la.take (W * H)).length = W * H := by rw [List.length_take]; omega
  have hfb : (lb.take (W * H)).length = W * H := by rw [List.length_take]; omega
  have hga : Hid (∀ i, i < W * H → (la.take (W * H)).getD i false = la.getD i false) := Lib.hid fun i hi => by simp [hi]
  have hgb : Hid (∀ i, i < W * H → (lb.take (W * H)).getD i false = lb.getD i false) := Lib.hid fun i hi => by simp [hi]
  generalize hFA : la.take (W * H) = FA at *
  generalize hFB : lb.take (W * H) = FB at *
  have haw := Lib.hid awake7
  have h0 := Lib.hid h
  have h0' := Lib.hid h'
  replace hFA := Lib.hid hFA
  replace hFB := Lib.hid hFB
  replace hfa := Lib.hid hfa
  replace hfb := Lib.hid hfb
  replace hWHs := Lib.hid hWHs
  replace hWH := Lib.hid hWH
  have hcn : n ≤ c := by omega
  have hcn' : n ≤ c' := by omega
  clear h h' hH hW la1 lb1
  refine (callsIn_wide (n := 3)).1 ?_
  refine callsIn_of_wp_marks Try.func6 rfl trivial ?_ rfl
  simp only [Try.ntmps6, List.size_toArray, List.length_cons, List.length_nil, Nat.reduceAdd, Nat.reduceSub, Array.replicate_succ, Array.replicate_zero, List.push_toArray, List.append_toArray, List.nil_append, List.cons_append]
  refine wpIn_wide.2 ?_
  have q0 : Only No w (w.alloc (.cells #[.bool false] 4)) := (Only.refl No w).alloc _
  go_wp2_with fail
  refine (haw.out _).mono ?_
  rintro e w1 ⟨rfl, o1⟩
  have hR1 := (Blk.new w 4 #[.bool false]).only o1 id
  have hmin : min (la.length : Int) (lb.length : Int) = (n : Int) := by omega
  replace hn := Lib.hid hn
  replace o1 := Lib.hid (q0.trans o1)
  replace hR1 := Lib.hid hR1
  have ha1 := Lib.hid (hsa.out w1 o1.out)
  go_wp2_with fail
  refine ha1.out.mono ?_
  rintro e w2 ⟨G1, A1, c1, rfl, o2, hge1, hm1⟩
  clear ha1 q0
  obtain ⟨w2b, hw2b⟩ : ∃ x, x = w2.alloc (.cells #[P G1] 24) := ⟨_, rfl⟩
  have hB : Hid (Blk w2b w2.heap.size 24 #[P G1]) := Lib.hid (by rw [hw2b]; exact Blk.new w2 24 _)
  have o2b : Only No w2 w2b := by rw [hw2b]; exact (Only.refl No w2).alloc _
  have hlt1 := hm1.lt
  have hm1b := Lib.hid (hm1.no o2b)
  have o2c := Lib.hid (o2.trans o2b)
  have hb1 := Lib.hid (hsb.out w2b (o1.out.trans o2c.out))
  have hs2 : w2.heap.size < w2b.heap.size := hB.out.lt
  replace hm1 := Lib.hid hm1
  replace hge1 := Lib.hid hge1
  replace hlt1 := Lib.hid hlt1
  replace o2 := Lib.hid o2
  go_wp2_with (fail)
  rw [← hw2b]
  clear hw2b
  refine hb1.out.mono ?_
  rintro e w3 ⟨G2, A2, c2, rfl, o3, hge2, hm2⟩
  clear hb1
  have ha3 := Lib.hid (hsa.out w3 ((o1.out.trans o2c.out).trans o3))
  replace o3 := Lib.hid o3
  replace hm2 := Lib.hid hm2
  replace hge2 := Lib.hid hge2
  go_wp2_with fail
  refine ha3.out.mono ?_
  rintro e w4 ⟨G3, A3, c3, rfl, o4, hge3, hm3⟩
  have hM1 := Lib.hid (hm1b.out.no (o3.out.trans o4))
  have hM2 := Lib.hid (hm2.out.no o4)
  have hM3 := Lib.hid hm3
  have hlt2 := Lib.hid (hm2.out.lt)
  have hR4 := Lib.hid (hR1.out.only (o2c.out.trans (o3.out.trans o4)) id)
  have oA4 : Hid (Only No w w4) := Lib.hid (o1.out.trans (o2c.out.trans (o3.out.trans o4)))
  have hB4 := Lib.hid (hB.out.only (o3.out.trans o4) id)
  have hRs : w.heap.size < w1.heap.size := hR1.out.lt
  have hs12 := o2.out.size
  have hs23 := o3.out.size
  have hs34 := o4.size
  have s1 : Hid (∀ k, Sm G1 A1 k → w1.heap.size ≤ k ∧ k < w2.heap.size) := Lib.hid fun k hk => ⟨hge1.out k hk, hlt1.out k hk⟩
  have s2 : Hid (∀ k, Sm G2 A2 k → w2b.heap.size ≤ k ∧ k < w3.heap.size) := Lib.hid fun k hk => ⟨hge2.out k hk, hlt2.out k hk⟩
  have s3 : Hid (∀ k, Sm G3 A3 k → w3.heap.size ≤ k) := Lib.hid hge3
  have hc4 := hB4.out.cell 0
  simp only [List.getElem?_toArray, List.getElem?_cons_zero] at hc4
  have hj1 := Lib.hid (join19 hM1.out hM2.out)
  clear hge1 hge2 hge3 hlt1 hlt2 hm1 hm2 hm3 hm1b hB hR1 o2 o2b o2c o3 o4 o1 ha3 haw hsa hsb
  go_wp2_with fail
  refine hj1.out.mono ?_
  rintro e w5 ⟨rfl, hM5, o5⟩
  clear hj1
  have hM2b := Lib.hid (hM2.out.only o5 fun k h1 h2 => by have := s1.out k h2; have := s2.out k h1; omega)
  have hM3b := Lib.hid (hM3.out.only o5 fun k h1 h2 => by have := s1.out k h2; have := s3.out k h1; omega)
  have hB5 := Lib.hid (hB4.out.only o5 fun h2 => by have := s1.out _ h2; omega)
  have hR5 := Lib.hid (hR4.out.only o5 fun h2 => by have := s1.out _ h2; omega)
  have oA5 : Hid (Only No w w5) := Lib.hid (oA4.out.then o5 fun k hk => .inr (by have := s1.out k hk; omega))
  have hj2 := Lib.hid (join19 hM2b.out hM3b.out)
  replace hM5 := Lib.hid hM5
  clear hM1 hM2 hM3 hB4 hR4 oA4 hc4 o5
  go_wp2_with fail
  refine hj2.out.mono ?_
  rintro e w6 ⟨rfl, hM6, o6⟩
  clear hj2
  have hM1c := Lib.hid (hM5.out.only o6 fun k h1 h2 => by have := s1.out k h1; have := s2.out k h2; omega)
  have hM3c := Lib.hid (hM3b.out.only o6 fun k h1 h2 => by have := s2.out k h2; have := s3.out k h1; omega)
  have hB6 := Lib.hid (hB5.out.only o6 fun h2 => by have := s2.out _ h2; omega)
  have hR6 := Lib.hid (hR5.out.only o6 fun h2 => by have := s2.out _ h2; omega)
  have oA6 : Hid (Only No w w6) := Lib.hid (oA5.out.then o6 fun k hk => .inr (by have := s2.out k hk; omega))
  have hj3 := Lib.hid (join19 hM1c.out hM1c.out)
  have hc6 := hB6.out.cell 0
  simp only [List.getElem?_toArray, List.getElem?_cons_zero] at hc6
  replace hM6 := Lib.hid hM6
  clear hM2b hM3b hM5 hB5 hR5 oA5 o6
  go_wp2_with fail
  refine hj3.out.mono ?_
  rintro e w7 ⟨rfl, hM7, o7⟩
  clear hj3
  rw [orL_self] at hM7
  have hM2d := hM6.out.only o7 fun k h1 h2 => by have := s1.out k h2; have := s2.out k h1; omega
  rw [orL_comm] at hM2d
  have hM3d := hM3c.out.only o7 fun k h1 h2 => by have := s1.out k h2; have := s3.out k h1; omega
  have hB7 := Lib.hid (hB6.out.only o7 fun h2 => by have := s1.out _ h2; omega)
  have hR7 := Lib.hid (hR6.out.only o7 fun h2 => by have := s1.out _ h2; omega)
  have oA7 : Hid (Only No w w7) := Lib.hid (oA6.out.then o7 fun k hk => .inr (by have := s1.out k hk; omega))
  have hul : Hid ((orL FA FB).length = W * H) := Lib.hid (by rw [orL_len _ _ (by rw [hfa.out, hfb.out]), hfa.out])
  have hug : Hid (∀ i, i < W * H → (orL FA FB).getD i false = (la.getD i false || lb.getD i false)) := Lib.hid fun i hi => by rw [orL_get (by rw [hfa.out, hfb.out]) (by rw [hfa.out]; exact hi), hga.out i hi, hgb.out i hi]
  generalize orL FA FB = FU at *
  replace hM7 := Lib.hid hM7
  replace hM2d := Lib.hid hM2d
  replace hM3d := Lib.hid hM3d
  clear hM1c hM3c hM6 hB6 hR6 oA6 hc6 o7 hga hgb
  have hwR : w.heap.size < w2.heap.size := by omega
  clear hs12 hs23 hs34
  go_wp2_with fail
  have hf1 := Lib.hid (fun w' (o : Only No w7 w') => flags13 (hM7.out.no o))
  have hf2 := Lib.hid (fun w' (o : Only No w7 w') => flags13 (hM2d.out.no o))
  have hf3 := Lib.hid (fun w' (o : Only No w7 w') => flags13 (hM3d.out.no o))
  have hcS : Hid (∀ w', Only No w7 w' → w'.cell? ⟨w2.heap.size, 0, none⟩ = some (P G1)) := Lib.hid fun w' o => by
    have := (hB7.out.only o id).cell 0
    simpa using this
  have hsu : Hid (∀ w' A9 c9 A10 c10, Rds w' 1 A9 FU.length (boC FU) → Rds w' 1 A10 FU.length (boC FU) → Calls Try.prog 15 #[.slice A9 FU.length c9, .slice A10 FU.length c10] w' fun e w'' => e = .returned (.bool true) ∧ ∃ d, w'' = w'.drewN d) := Lib.hid fun w' A9 c9 A10 c10 r9 r10 => by
    have := same15 w' A9 c9 FU A10 c10 FU r9 r10 (by rw [hul.out]; have := hWHs.out; omega)
    rw [decide_eq_true rfl] at this
    exact this
  have hsame : Hid (∀ w' A9 c9, Only No w7 w' → Rds w' 1 A9 FA.length (boC FA) → Calls Try.prog 15 #[.slice A9 FA.length c9, .slice A (W * H) c] w' fun e w'' => e = .returned (.bool true) ∧ ∃ d, w'' = w'.drewN d) := Lib.hid fun w' A9 c9 o r9 => by
    have h0' := rds_take (h0.out.no (oA7.out.trans o)) (n := W * H) (by have := hWH.out; omega)
    rw [hFA.out] at h0'
    have := same15 w' A9 c9 FA A c FA r9 h0' (by rw [hfa.out]; have := hWHs.out; omega)
    rw [decide_eq_true rfl, hfa.out] at this
    rw [hfa.out]
    exact this
  have e1 : IntKind.i64.wrap ((W : Int) * (H : Int)) = ((W * H : Nat) : Int) := by rw [IntWalk.i64_in _ (by rw [← Int.natCast_mul]; have := hWHs.out; omega), ← Int.natCast_mul]
  have hMc : W * H ≤ c := by have := hWH.out; omega
  have hMa : W * H ≤ la.length := by have := hWH.out; omega
  have hMb : W * H ≤ lb.length := by have := hWH.out; omega
  generalize hMM : W * H = M at *
  replace hMM := Lib.hid hMM
  have q7 : Only No w7 w7 := Only.refl No w7
  clear hmin
  go_cut [113] from 85 to 112 (fun s113 wx => s113 = .bool false ∧ Hid (Only No w7 wx))
  case first =>
    go_region_held3 (fun w' => Only No w7 w' ∧ w'.cell? ⟨w2.heap.size, 0, none⟩ = some (P G1))
      (first
        | (with_reducible refine ⟨?_, hcS.out _ ?_⟩ <;> (repeat (first | exact q12 | exact q11 | exact q10 | exact q9b | exact q8b | exact q9 | exact q8 | exact q7 | refine Only.drew ?_ | refine Only.drewN ?_ _))))
      (first
        | (go_at_call 13; (with_reducible refine (hf1.out _ ?_).mono ?_); (repeat (first | exact q12 | exact q11 | exact q10 | exact q9b | exact q8b | exact q9 | exact q8 | exact q7 | refine Only.drew ?_ | refine Only.drewN ?_ _)); clear hf1; rintro e w8 ⟨A8, c8, rfl, own8, o8⟩; have q8 : Only No w7 w8 := Only.trans (by (repeat (first | exact q12 | exact q11 | exact q10 | exact q9b | exact q8b | exact q9 | exact q8 | exact q7 | refine Only.drew ?_ | refine Only.drewN ?_ _))) o8; first | (have r9 : Only No w9 w8 := Only.trans (by (repeat (first | exact r8 | exact r9 | exact Only.refl _ _ | refine Only.drew ?_ | refine Only.drewN ?_ _))) o8) | skip; first | (have q8b : Only No w7 w8 := q8) | skip)
        | (go_at_call 13; (with_reducible refine (hf2.out _ ?_).mono ?_); (repeat (first | exact q12 | exact q11 | exact q10 | exact q9b | exact q8b | exact q9 | exact q8 | exact q7 | refine Only.drew ?_ | refine Only.drewN ?_ _)); clear hf2; rintro e w9 ⟨A9, c9, rfl, own9, o9⟩; have q9 : Only No w7 w9 := Only.trans (by (repeat (first | exact q12 | exact q11 | exact q10 | exact q9b | exact q8b | exact q9 | exact q8 | exact q7 | refine Only.drew ?_ | refine Only.drewN ?_ _))) o9; first | (have r8 : Only No w8 w9 := Only.trans (by (repeat (first | exact r8 | exact r9 | exact Only.refl _ _ | refine Only.drew ?_ | refine Only.drewN ?_ _))) o9; have q9b : Only No w7 w9 := q9) | skip)
        | (go_at_call 13; (with_reducible refine (hf3.out _ ?_).mono ?_); (repeat (first | exact q12 | exact q11 | exact q10 | exact q9b | exact q8b | exact q9 | exact q8 | exact q7 | refine Only.drew ?_ | refine Only.drewN ?_ _)); clear hf3; rintro e w11 ⟨A11, c11, rfl, own11, o11⟩; have q11 : Only No w7 w11 := Only.trans (by (repeat (first | exact q12 | exact q11 | exact q10 | exact q9b | exact q8b | exact q9 | exact q8 | exact q7 | refine Only.drew ?_ | refine Only.drewN ?_ _))) o11)
        | (go_at_call 15; (with_reducible refine (hsu.out _ _ _ _ _ ((Rds.of_own own8).no ?_) ((Rds.of_own own9).no ?_)).mono ?_); (repeat (first | exact r8 | exact r9 | exact Only.refl _ _ | refine Only.drew ?_ | refine Only.drewN ?_ _)); (repeat (first | exact r8 | exact r9 | exact Only.refl _ _ | refine Only.drew ?_ | refine Only.drewN ?_ _)); clear hsu; rintro e w10 ⟨rfl, d10⟩; have q10 : Only No w7 w10 := only_drewN (by (repeat (first | exact q12 | exact q11 | exact q10 | exact q9b | exact q8b | exact q9 | exact q8 | exact q7 | refine Only.drew ?_ | refine Only.drewN ?_ _))) d10)
        | (go_at_call 15; (with_reducible refine (hsame.out _ _ _ ?_ ((Rds.of_own own11).no ?_)).mono ?_); (repeat (first | exact q12 | exact q11 | exact q10 | exact q9b | exact q8b | exact q9 | exact q8 | exact q7 | refine Only.drew ?_ | refine Only.drewN ?_ _)); (repeat (first | exact r8 | exact r9 | exact Only.refl _ _ | refine Only.drew ?_ | refine Only.drewN ?_ _)); clear hsame; rintro e w12 ⟨rfl, d12⟩; have q12 : Only No w7 w12 := only_drewN (by (repeat (first | exact q12 | exact q11 | exact q10 | exact q9b | exact q8b | exact q9 | exact q8 | exact q7 | refine Only.drew ?_ | refine Only.drewN ?_ _))) d12))
    all_goals go_wp2_with fail
    all_goals go_meet
    all_goals exact ⟨rfl, Lib.hid (by (repeat (first | exact q12 | exact q11 | exact q10 | exact q9b | exact q8b | exact q9 | exact q8 | exact q7 | refine Only.drew ?_ | refine Only.drewN ?_ _)))⟩
  case rest =>
    obtain ⟨rfl, hq⟩ := hcut
    have hcw := hcS.out wc hq.out
    have hfg := Lib.hid (hf1.out wc hq.out)
    have hB8 := Lib.hid (hB7.out.only hq.out id)
    have hR8 := Lib.hid (hR7.out.only hq.out id)
    have hM1e := Lib.hid (hM7.out.no hq.out)
    have hM2e := Lib.hid (hM2d.out.no hq.out)
    have oA8 : Hid (Only No w wc) := Lib.hid (oA7.out.trans hq.out)
    clear hf1 hf2 hf3 hcS hsu hsame hM7 hM2d hM3d hB7 hR7 hq oA7 q7
    go_wp2_with fail
    refine hfg.out.mono ?_
    rintro e w13 ⟨A13, c13, rfl, own13, o13⟩
    have hM1 := Lib.hid (hM1e.out.no o13)
    have hM2 := Lib.hid (hM2e.out.no o13)
    have hB9 := Lib.hid (hB8.out.only o13 id)
    have hR9 := Lib.hid (hR8.out.only o13 id)
    have oA9 : Hid (Only No w w13) := Lib.hid (oA8.out.trans o13)
    have hr13 := Lib.hid (Rds.of_own own13)
    clear hfg hB8 hR8 hM1e hM2e oA8 own13 o13 hcw
    go_wp2_with fail
    go_loopw [21, 23] (fun v21 v23 wr => ∃ i : Nat, v23 = .int .i64 i ∧ i ≤ M ∧ v21 = .int .i64 (cnt (FU.take i) : Nat) ∧ Hid (Only No w13 wr)) (fun _ v23 _ => M - (intOf v23).toNat)
    case atStart => exact ⟨0, rfl, by omega, rfl, Lib.hid (Only.refl _ _)⟩
    case round =>
      obtain ⟨i, rfl, hi, rfl, hO⟩ := hrel
      have hcntl := cnt_le (FU.take i)
      rw [List.length_take, hul.out] at hcntl
      by_cases hlt : i < M
      · have hlt' : (i : Int) < M := by omega
        have hxW : i % W < W := Nat.mod_lt _ (by omega)
        have hyH : i / W < H := Nat.div_lt_of_lt_mul (by rw [hMM.out]; exact hlt)
        have hh := Lib.hid (fun d => has20 (hM1.out.no (hO.out.drewN d)) ((i % W : Nat) : Int) ((i / W : Nat) : Int))
        rw [hasB_nat hxW hyH, show i / W * W + i % W = i by rw [Nat.mul_comm]; exact Nat.div_add_mod i W] at hh
        have hcell := (hB9.out.only hO.out id).cell 0
        simp only [List.getElem?_toArray, List.getElem?_cons_zero] at hcell
        obtain ⟨ad, rfl, ha0⟩ := (hr13.out.no hO.out).at_ (i := i) (by rw [hul.out]; omega) (boC_get (by rw [hul.out]; exact hlt))
        obtain ⟨ad1, rfl, ha1⟩ := (h0.out.no (oA9.out.trans hO.out)).at_ (i := i) (by omega) (boC_get (show i < la.length by omega))
        obtain ⟨ad2, rfl, ha2⟩ := (h0'.out.no (oA9.out.trans hO.out)).at_ (i := i) (by omega) (boC_get (show i < lb.length by omega))
        have hX : (i : Int).tmod (W : Int) = ((i % W : Nat) : Int) := by rw [Int.tmod_eq_emod_of_nonneg (by omega)]; push_cast; rfl
        have hD : (i : Int).tdiv (W : Int) = ((i / W : Nat) : Int) := by rw [Int.tdiv_eq_ediv_of_nonneg (by omega)]; push_cast; rfl
        have hdl := Nat.div_le_self i W
        have hz3 : ¬ W = 0 := by omega
        have hz : ¬ (W : Int) = 0 := by omega
        have hz2 : ((W : Int) == 0) = false := by simp; omega
        have hcs := Lib.hid (cnt_snoc (l := FU) (k := i) (by rw [hul.out]; exact hlt))
        have huu := hug.out i hlt
        have hia : i < la.length := by omega
        have hib : i < lb.length := by omega
        have hiu : i < FU.length := by rw [hul.out]; exact hlt
        generalize cnt (FU.take i) = cn at *
        generalize i % W = X at *
        generalize i / W = D at *
        have hDw : IntKind.i64.wrap (D : Int) = (D : Int) := IntWalk.i64_in _ (by have := hWHs.out; omega)
        generalize FU.getD i false = bu at *
        generalize la.getD i false = ba at *
        generalize lb.getD i false = bb at *
        cases ba
        · cases bb
          · subst huu
            go_wp2_with fail
            go_quiet ((go_at_call 20; exact Calls.quiet_of (hh.out _)))
            go_wp2_with fail
            go_roundw
            case rel => exact ⟨i + 1, by go_num, by omega, by rw [hcs.out]; simp, Lib.hid (hO.out.drewN _)⟩
            case measure => simp [intOf]; omega
          · subst huu
            go_wp2_with fail
            go_quiet ((go_at_call 20; exact Calls.quiet_of (hh.out _)))
            go_wp2_with fail
            go_roundw
            case rel => exact ⟨i + 1, by go_num, by omega, by rw [hcs.out]; simp, Lib.hid (hO.out.drewN _)⟩
            case measure => simp [intOf]; omega
        · subst huu
          go_wp2_with fail
          go_quiet ((go_at_call 20; exact Calls.quiet_of (hh.out _)))
          go_wp2_with fail
          go_roundw
          case rel => exact ⟨i + 1, by go_num, by omega, by rw [hcs.out]; simp, Lib.hid (hO.out.drewN _)⟩
          case measure => simp [intOf]; omega
      · obtain rfl : i = M := by omega
        have htk : FU.take i = FU := List.take_of_length_le (by rw [hul.out]; exact Nat.le_refl _)
        rw [htk] at hcntl ⊢
        clear htk
        have hcell := (hB9.out.only hO.out id).cell 0
        simp only [List.getElem?_toArray, List.getElem?_cons_zero] at hcell
        have hM1f := Lib.hid (hM1.out.no hO.out)
        have hM2f := Lib.hid (hM2.out.no hO.out)
        have hBf := Lib.hid (hB9.out.only hO.out id)
        have hRf := Lib.hid (hR9.out.only hO.out id)
        have oAf : Hid (Only No w wr) := Lib.hid (oA9.out.trans hO.out)
        have hSlt : w2.heap.size < wr.heap.size := hBf.out.lt
        clear hM1 hM2 hB9 hR9 oA9 hO hr13 hug
        obtain ⟨wx, hwx⟩ : ∃ x, x = wr.alloc (.cells #[.int .i64 0] 3) := ⟨_, rfl⟩
        have ox : Only No wr wx := by rw [hwx]; exact (Only.refl No wr).alloc _
        have hSx := Lib.hid (show Blk wx wr.heap.size 3 #[.int .i64 0] by rw [hwx]; exact Blk.new _ _ _)
        have hcx := (hBf.out.only ox id).cell 0
        simp only [List.getElem?_toArray, List.getElem?_cons_zero] at hcx
        have hal := Lib.hid (all21 (hM1f.out.no ox))
        replace ox := Lib.hid ox
        rw [hwx] at hal
        go_wp2_with fail
        refine hal.out.mono ?_
        rintro e w14 ⟨g3, g4, A14, c14, rfl, hb2⟩
        rw [← hwx] at hb2
        replace hb2 := Lib.hid hb2
        clear hal hwx hcell hcx
        have hrun : Sem.run Try.prog (binOp BinOp.eql 48 (.func (.func 34) #[] #[P g4, P g3]) .nilFunc) w14 = .ok (.bool false) w14 := by kernel_rfl
        go_wp2_with fail
        obtain ⟨y3, y4, yown, yg3, yg4, yo⟩ := hb2.out
        have o14 : Only No wr w14 := ox.out.trans yo
        have hSx14 := Lib.hid (hSx.out.only yo id)
        have hM1g := Lib.hid (hM1f.out.no o14)
        have hM2g := Lib.hid (hM2f.out.no o14)
        have hBg := Lib.hid (hBf.out.only o14 id)
        have hRg := Lib.hid (hRf.out.only o14 id)
        have oAg : Hid (Only No w w14) := Lib.hid (oAf.out.trans o14)
        have hSs : wr.heap.size < w14.heap.size := hSx14.out.lt
        have hSlo : w.heap.size ≤ wr.heap.size := oAf.out.size
        have hmS : ∀ k, Sm G1 A1 k → k ≠ wr.heap.size := fun k hk => by have := s1.out k hk; omega
        have hoS : ∀ k, Sm G2 A2 k → k ≠ wr.heap.size := fun k hk => by have := hM2f.out.lt k hk; omega
        have hTq : ∀ k, Tq g3 g4 A14 k → wx.heap.size ≤ k ∧ k < w14.heap.size := by
          rintro k (rfl | rfl | ⟨ad, rfl, rfl⟩)
          · exact ⟨yg3, y3.lt⟩
          · exact ⟨yg4, y4.lt⟩
          · have hbb : (Value.slice (some ad) FU.length c14).ownBlock = some ad.block := by
              rcases yown.2 with ⟨hv, _⟩ | ⟨g', cap, cur, hv, _⟩
              · simp at hv
              · injection hv with hv
                injection hv with hv
                subst hv
                rfl
            exact ⟨own_ge yown _ hbb, own_lt yown _ hbb⟩
        have hSwx : wr.heap.size < wx.heap.size := hSx.out.lt
        have hst := all34_stops 2 (by omega) g3 g4 A14 c14 W FU hM1f.out.le (fun _ => by omega) hM1f.out.w8 w14 y3 y4 (Rds.of_own yown)
        refine (wpIn_wide (n := 3)).1 ?_
        clear y3 y4 yown yg3 yg4 hb2 hrun hSx hM1f hM2f hBf hRf oAf ox yo o14
        refine wpIn_rangeFunc_ownG rfl (by omega) (gf := 34) (lb := #[P g4, P g3]) rfl trivial (enters_of Try.func34 (by kernel_rfl) rfl)
          hst (fun h k => KpB.trans h k) (KpB.book (w := w14) fun k hk => (hTq k hk).2) (Below.refl _ _) (fun _ => rfl)
          (SI w14 wr.heap.size) (fun _ pre _ => ∃ x ∈ pre, FU.getD x.1 false = false) (SI.own hSs) (fun _ _ _ _ _ hs _ _ => hs)
          ⟨Only.refl _ _, hSx14.out⟩
          (fun x => { tmps := #[Value.int IntKind.i64 wide, Value.slice A la.length c, Value.slice A' lb.length c', undef, undef, undef, P w.heap.size, Value.bool true, Value.int IntKind.i64 ↑n, P w2.heap.size, Value.int IntKind.i64 ↑W, Value.int IntKind.i64 ↑H, P G2, Value.int IntKind.i64 ↑W, Value.int IntKind.i64 ↑H, P G3, Value.int IntKind.i64 ↑W, Value.int IntKind.i64 ↑H, Value.bool true, Value.bool true, Value.bool true, Value.int IntKind.i64 ((cnt FU : Nat) : Int), Value.slice A13 FU.length c13, Value.int IntKind.i64 ↑i, P wr.heap.size, Value.func (Fn.func 34) #[] #[P g4, P g3], .int .i64 ((x.1 % W : Nat) : Int), .int .i64 ((x.1 / W : Nat) : Int), undef, Value.bool true, Value.slice A la.length c, Value.int IntKind.i64 ↑la.length, Value.slice A' lb.length c', Value.int IntKind.i64 ↑lb.length, Value.int IntKind.i64 ↑n, Value.tuple #[P G1, Value.int IntKind.i64 ↑W, Value.int IntKind.i64 ↑H], Value.int IntKind.i64 wide, Value.slice A la.length c, Value.int IntKind.i64 ↑n, Value.slice A n c, Value.tuple #[P G1, Value.int IntKind.i64 ↑W, Value.int IntKind.i64 ↑H], P G1, Value.int IntKind.i64 ↑W, Value.int IntKind.i64 ↑H, Value.tuple #[P G2, Value.int IntKind.i64 ↑W, Value.int IntKind.i64 ↑H], Value.int IntKind.i64 wide, Value.slice A' lb.length c', Value.int IntKind.i64 ↑n, Value.slice A' n c', Value.tuple #[P G2, Value.int IntKind.i64 ↑W, Value.int IntKind.i64 ↑H], P G2, Value.int IntKind.i64 ↑W, Value.int IntKind.i64 ↑H, Value.tuple #[P G3, Value.int IntKind.i64 ↑W, Value.int IntKind.i64 ↑H], Value.int IntKind.i64 wide, Value.slice A la.length c, Value.int IntKind.i64 ↑n, Value.slice A n c, Value.tuple #[P G3, Value.int IntKind.i64 ↑W, Value.int IntKind.i64 ↑H], P G3, Value.int IntKind.i64 ↑W, Value.int IntKind.i64 ↑H, Value.bool true, Value.bool false, Value.bool false, P G1, Value.bool false, Value.bool false, Value.bool false, P G2, Value.bool false, Value.bool false, Value.bool false, P G3, Value.bool false, Value.bool false, P G1, P G2, Value.bool true, P G2, P G3, Value.bool true, P G1, P G1, Value.bool true, u85, u86, u87, u88, u89, u90, u91, u92, u93, u94, u95, u96, u97, u98, u99, u100, u101, u102, u103, u104, u105, u106, u107, u108, u109, u110, u111, u112, Value.bool false, P G1, Value.slice A13 FU.length c13, Value.int IntKind.i64 ↑i, Value.int IntKind.i64 ↑W, Value.int IntKind.i64 ↑H, Value.int IntKind.i64 ↑i, Value.bool false, u121, u122, u123, u124, u125, u126, u127, u128, u129, u130, u131, u132, u133, u134, u135, u136, u137, u138, u139, u140, u141, u142, u143, u144, u145, u146, u147, u148, u149, u150, u151, u152, u153, u154, u155, u156, u157, u158, P G1, Value.func (Fn.func 34) #[] #[P g4, P g3], Value.func (Fn.func 34) #[] #[P g4, P g3], Value.bool false, Value.func (Fn.func 34) #[] #[P g4, P g3], .int .i64 ((x.1 % W : Nat) : Int), .int .i64 ((x.1 / W : Nat) : Int), undef, undef, undef, undef, undef, undef, undef, undef, undef, undef, undef, undef, undef, undef, undef, undef, undef, undef, undef, undef, undef, undef, undef, undef, undef, undef, undef, undef, undef], defers := [] }) ?assign ?body ?done ?stop
        case assign =>
          intro y x V K hK
          unfold encP
          dsimp only at hK ⊢
          generalize x.1 % W = X at hK ⊢
          generalize x.1 / W = Y at hK ⊢
          gi_wp2
          exact hK
        case body =>
          rintro y pre x V hJ hlt
          obtain ⟨ho, hb⟩ := hJ.out
          have hc := (hBg.out.only ho (show ¬ One wr.heap.size w2.heap.size from fun e => by have : w2.heap.size = wr.heap.size := e; omega)).cell 0
          simp only [List.getElem?_toArray, List.getElem?_cons_zero] at hc
          have hcR := hRg.out.only ho (show ¬ One wr.heap.size w.heap.size from fun e => by have : w.heap.size = wr.heap.size := e; omega)
          have hx := x.2
          have hW0 : 0 < W := by omega
          have hxW : x.1 % W < W := Nat.mod_lt _ hW0
          have hyH : x.1 / W < H := Nat.div_lt_of_lt_mul (by have := hul.out; rw [hMM.out]; omega)
          have hh := Lib.hid (has20 (hM1g.out.only ho fun k hk e => hmS k hk e) ((x.1 % W : Nat) : Int) ((x.1 / W : Nat) : Int))
          rw [hasB_nat hxW hyH, show x.1 / W * W + x.1 % W = x.1 by rw [Nat.mul_comm]; exact Nat.div_add_mod x.1 W] at hh
          have hcs := hb.cell 0
          simp only [List.getElem?_toArray, List.getElem?_cons_zero] at hcs
          have hcf := hb.frozen 0
          have hRc := hcR.cell 0
          simp only [List.getElem?_toArray, List.getElem?_cons_zero] at hRc
          have hRf := hcR.frozen 0
          have hlen9 : pre.length ≤ 327680 := by have h1 := hul.out; have h2 := hWHs.out; omega
          generalize hp : x.1 % W = p at *
          generalize hq : x.1 / W = q at *
          by_cases hfl : FU.getD x.1 false = true
          · rw [hfl] at hh
            gi_wp2_with (refine ⟨trivial, ?_⟩; gi_at_call 20; refine (CallsIn.inRound y (callsIn_wide.2 hh.out)).mono ?_; rintro e V' ⟨rfl, d9, rfl⟩)
            have oN : Only (One wr.heap.size) V ((V.drewN d9).setCell { block := wr.heap.size, off := 0 } (.int .i64 ((pre.length : Nat) + 1))) := ((Only.refl (One wr.heap.size) V).drewN d9).setCell (p := ⟨wr.heap.size, 0, none⟩) (.inl rfl) _
            refine ⟨⟨oN.size, fun k o hk h1 _ => (oN.block k (Array.getElem?_eq_some_iff.1 h1).1 fun hs => ?_).trans h1⟩, KpB.only oN fun k hk => ⟨?_, fun hs => ?_⟩, Lib.hid ⟨ho.trans oN, ?_⟩⟩
            · have : k = wr.heap.size := hs
              omega
            · exact Nat.lt_of_lt_of_le (hTq k hk).2 ho.size
            · have h1 : k = wr.heap.size := hs
              have h2 := (hTq k hk).1
              omega
            · have h1 := (hb.drewN d9).set 0 (.int .i64 ((pre.length : Nat) + 1))
              rw [List.length_append]
              simpa using h1
          · rw [show FU.getD x.1 false = false by simpa using hfl] at hh
            gi_wp2_with (refine ⟨trivial, ?_⟩; gi_at_call 20; refine (CallsIn.inRound y (callsIn_wide.2 hh.out)).mono ?_; rintro e V' ⟨rfl, d9, rfl⟩)
            have oN : Only (One w.heap.size) V ((V.drewN d9).setCell { block := w.heap.size, off := 0 } (.bool false)) := ((Only.refl (One w.heap.size) V).drewN d9).setCell (p := ⟨w.heap.size, 0, none⟩) (.inl rfl) _
            refine ⟨⟨oN.size, fun k o hk h1 _ => (oN.block k (Array.getElem?_eq_some_iff.1 h1).1 fun hs => ?_).trans h1⟩, x, by simp, by simpa using hfl⟩
            have : k = w.heap.size := hs
            omega
        case done =>
          rintro D ys V hD rfl hJ hK
          obtain ⟨ho, hb⟩ := hJ.out
          rw [upF_cnt FU FU.length (Nat.le_refl _), List.take_length] at hb
          have hD2 : V.heap[D]? = some (.deferred (some [])) := hK
          have hM1v := hM1g.out.only ho fun k hk e => hmS k hk e
          have hM2v := hM2g.out.only ho fun k hk e => hoS k hk e
          have hBv := hBg.out.only ho (show ¬ One wr.heap.size w2.heap.size from fun e => by have : w2.heap.size = wr.heap.size := e; omega)
          have hRv := hRg.out.only ho (show ¬ One wr.heap.size w.heap.size from fun e => by have : w.heap.size = wr.heap.size := e; omega)
          have hc := hBv.cell 0
          simp only [List.getElem?_toArray, List.getElem?_cons_zero] at hc
          have hcl := Lib.hid (clear22 hM1v)
          have oV : Only No w V := oAg.out.then ho fun i hi => .inr (by have : i = wr.heap.size := hi; omega)
          have hVD := ho.size
          clear hJ hst hTq hM1v hM1g hM2g hBg hRg oAg hSx14
          replace hM2v := Lib.hid hM2v
          replace hBv := Lib.hid hBv
          replace hRv := Lib.hid hRv
          replace oV := Lib.hid oV
          replace hb := Lib.hid hb
          replace ho := Lib.hid ho
          replace hD2 := Lib.hid hD2
          clear hK
          go_wp2_with fail
          refine hcl.out.mono ?_
          rintro e w15 ⟨rfl, hM1x, o15⟩
          have hM2x := hM2v.out.only o15 fun k h1 h2 => by have := s1.out k h2; have := s2.out k h1; omega
          have hBx := hBv.out.only o15 fun h2 => by have := s1.out _ h2; omega
          have hSy := hb.out.only o15 fun h2 => by have := s1.out _ h2; omega
          have hRx := hRv.out.only o15 fun h2 => by have := s1.out _ h2; omega
          have hDx : w15.heap[D]? = some (.deferred (some [])) := (o15.block D (Array.getElem?_eq_some_iff.1 hD2.out).1 fun h2 => by have := s1.out _ h2; omega).trans hD2.out
          have ofin : Only No w w15 := oV.out.then o15 fun k hk => .inr (by have := s1.out k hk; omega)
          have hc2 := Lib.hid (count18 hM2x)
          have hc1 := Lib.hid (count18 hM1x)
          rw [cnt_zero] at hc1
          have hh := Lib.hid (has20 hM1x 0 0)
          rw [hasB_repl] at hh
          have y1 := hBx.cell 0
          have y2 := hSy.cell 0
          simp only [List.getElem?_toArray, List.getElem?_cons_zero] at y1 y2
          have y3 := hRx.frozen 0
          have y4 := hRx.cell 0
          simp only [List.getElem?_toArray, List.getElem?_cons_zero] at y4
          clear hcl hM1x hM2x hBx hSy hb hBv hRv hM2v hc
          replace ofin := Lib.hid ofin
          replace hDx := Lib.hid hDx
          replace hRx := Lib.hid hRx
          go_wp2_with (first
            | (go_at_call 18; (with_reducible refine hc2.out.mono ?_); rintro e w16 ⟨rfl, rfl⟩)
            | (go_at_call 18; (with_reducible refine hc1.out.mono ?_); rintro e w16 ⟨rfl, rfl⟩)
            | (go_at_call 20; (with_reducible refine hh.out.mono ?_); rintro e w17 ⟨rfl, d17, rfl⟩))
          have hRz : Blk ((w15.drewN d17).setCell { block := w.heap.size, off := 0 } (.bool true)) w.heap.size 4 #[.bool true] := by
            have := (hRx.out.drewN d17).set 0 (.bool true)
            simpa using this
          have hDw : D ≠ w.heap.size := by omega
          have hKz : ((w15.drewN d17).setCell { block := w.heap.size, off := 0 } (.bool true)).heap[D]? = some (.deferred (some [])) := (Below.heap_setCell _ _ _ D hDw).trans hDx.out
          have of2 : Only No w ((w15.drewN d17).setCell { block := w.heap.size, off := 0 } (.bool true)) := (ofin.out.drewN d17).setCell (p := ⟨w.heap.size, 0, none⟩) (.inr (Nat.le_refl _)) _
          generalize (w15.drewN d17).setCell { block := w.heap.size, off := 0 } (.bool true) = wf at *
          have o9 : Only (fun k => k = D) wf (wf.putObj D (.deferred none)) := (Only.of_grown (grownBy_putObj' wf D (.deferred none))).mono fun k e => by cases e; rfl
          have hRzz := hRz.only o9 (fun e => hDw e.symm)
          have hcz := hRzz.cell 0
          simp only [List.getElem?_toArray, List.getElem?_cons_zero] at hcz
          refine ⟨by simp, .inl ⟨_, _, rfl, run_takeDeferred hKz, ?_⟩⟩
          refine ⟨.bool true, ?_, rfl, of2.then o9 fun i hi => .inr (by omega)⟩
          simp only [results, show Try.f6.results = #[.cell 6 4] from rfl]
          go_simp
        case stop =>
          rintro D c pre V _ hp hx _
          obtain ⟨k, _, rfl⟩ := hp
          obtain ⟨x, hx, e⟩ := hx
          rw [upF_mem FU k x hx] at e
          cases e
end Go.Proofs.Ytclidonogebgkaa.Ct
