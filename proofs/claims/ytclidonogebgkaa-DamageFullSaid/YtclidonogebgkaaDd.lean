/- Maps of damage: Clear, New; the shape of a law. -/
import Derived.Test.YtclidonogebgkaaDc
import Derived.Lib.SliceRun
namespace Go.Proofs.Ytclidonogebgkaa.Ct
open Go.ChangeShapes Go.WideShapes Go.RowKit Mm
def putL (xs : List Value) (o : Nat) : List Value → List Value
  | [] => xs
  | v :: vs => putL (xs.set o v) (o + 1) vs
theorem own_setCells {base c n : Nat} {e : TypeId} {g : Nat} (vs : List Value) : ∀ (o : Nat) (w : World) (xs : List Value), w.ownsRow base e 1 (.slice (some ⟨g, 0, none⟩) n c) n xs →
    (w.setCells g o vs).ownsRow base e 1 (.slice (some ⟨g, 0, none⟩) n c) n (putL xs o vs) ∧ Only (One g) w (w.setCells g o vs) := by
  induction vs with
  | nil => intro o w xs h; exact ⟨h, Only.refl _ _⟩
  | cons v vs ih =>
    intro o w xs h
    have h1 := (h.stored o v).1
    have h2 := ih (o + 1) _ _ h1
    refine ⟨h2.1, ((Only.refl (One g) w).setCell (p := ⟨g, o, none⟩) (.inl rfl) v).trans h2.2⟩
theorem putL_all (l : List Bool) (b : Bool) : ∀ (k : Nat), k ≤ l.length → putL (boC l) k (List.replicate (l.length - k) (.bool b)) = boC (l.take k ++ List.replicate (l.length - k) b) := by
  have key : ∀ (m k : Nat) (l : List Bool), k + m = l.length → putL (boC l) k (List.replicate m (.bool b)) = boC (l.take k ++ List.replicate m b) := by
    intro m
    induction m with
    | zero => intro k l h; simp only [List.replicate_zero, putL, List.append_nil]; rw [List.take_of_length_le (by omega)]
    | succ m ih =>
      intro k l h
      rw [List.replicate_succ]
      show putL ((boC l).set k (.bool b)) (k + 1) _ = _
      rw [← boC_set, ih (k + 1) (l.set k b) (by simp; omega)]
      congr 1
      rw [List.take_succ_eq_append_getElem (by simp; omega), List.take_set_of_le (by omega)]
      simp [List.replicate_succ]
  intro k hk
  exact key (l.length - k) k l (by omega)
theorem cnt_zero (n : Nat) : cnt (List.replicate n false) = 0 := by unfold cnt; simp [List.count_replicate]
theorem zero4 (w : World) : (zeroValue 4).run Try.prog w = .ok (.bool false) w := by kernel_rfl
/-- the builtin clear, on the whole of a row of the call's own -/
theorem run_clear_own {w : World} {A : Option Addr} {c : Nat} {l : List Bool} (h : w.ownsRow 0 4 1 (.slice A l.length c) l.length (boC l)) (ty : TypeId) :
    ∃ w', (Builtin.clear_ #[22] ty #[.slice A l.length c]).run Try.prog w = .ok (.tuple #[]) w' ∧ w'.ownsRow 0 4 1 (.slice A l.length c) l.length (boC (List.replicate l.length false)) ∧ Only (fun k => ∃ ad, A = some ad ∧ ad.block = k) w w' := by
  by_cases h0 : l.length = 0
  · obtain rfl : l = [] := List.eq_nil_of_length_eq_zero h0
    refine ⟨w, ?_, h, Only.refl _ _⟩
    cases A with
    | none => simp [Builtin.clear_, run_underlying Try.underlying22]
    | some ad => simp [Builtin.clear_, run_underlying Try.underlying22]
  · obtain ⟨g, rfl⟩ : ∃ g, A = some ⟨g, 0, none⟩ := by
      rcases h.2 with ⟨_, h1⟩ | ⟨g', cap, cur, hv, _⟩
      · exact absurd h1 h0
      · injection hv with hA; exact ⟨g', hA⟩
    have hc : ∀ j, j < l.length → (w.cell? ⟨g, 0 + j, none⟩).isSome = true := fun j hj => by
      have := h.cells rfl j _ (boC_get hj)
      rw [Mm.add_plain] at this
      rw [Nat.zero_add, this]; rfl
    have hf : ∀ j, j < l.length → w.frozen? ⟨g, 0 + j, none⟩ = false := fun j _ => by rw [Nat.zero_add]; exact h.frozenAt j
    have hr := Lib.run_clear_slice (P := Try.prog) w 22 4 ty (.bool false) Try.underlying22 zero4 rfl rfl g 0 l.length c (by omega) hc hf
    have ho := own_setCells (g := g) (List.replicate l.length (.bool false)) 0 w (boC l) h
    have hp := putL_all l false 0 (Nat.zero_le _)
    rw [Nat.sub_zero] at hp
    rw [hp, List.take_zero, List.nil_append] at ho
    exact ⟨_, hr, ho.1, ho.2.mono (fun i (hi : i = g) => ⟨_, rfl, hi.symm⟩)⟩
set_option maxHeartbeats 1000000 in
theorem clear22 {w : World} {g : Nat} {A : Option Addr} {c W H : Nat} {l : List Bool} (h : MapAt w g A c W H l) :
    Calls Try.prog 22 #[P g] w fun e w' => e = .returned (.tuple #[]) ∧ MapAt w' g A c W H (List.replicate l.length false) ∧ Only (Sm g A) w w' := by
  obtain ⟨c0, c1, c2, c3⟩ := h.cells
  obtain ⟨w1, hrun, own1, o1⟩ := run_clear_own h.own 0
  have hne := h.ne
  have B1 := h.blk.only o1 (fun ⟨ad, e, k⟩ => hne ad e k)
  have d3 := B1.cell 3
  unfold mapC at d3
  simp only [List.getElem?_toArray, List.getElem?_cons_zero, List.getElem?_cons_succ] at d3
  have f3 := B1.frozen 3
  have H0 := Lib.hid h
  replace B1 := Lib.hid B1
  replace own1 := Lib.hid own1
  replace o1 := Lib.hid o1
  clear h hne
  go_enter Try.func22, Try.ntmps22
  go_wp2_with fail
  refine bodyPost_end (results_none rfl _ _ _) rfl ⟨rfl, ⟨?_, ?_, by rw [List.length_replicate]; exact H0.out.len, H0.out.w8, H0.out.h8⟩, ((o1.out.mono (T := Sm g A) (fun i h => .inr h)).setCell (p := ⟨g, 3, none⟩) (.inl (.inl rfl)) _)⟩
  · have := B1.out.set 3 (.int .i64 0)
    unfold mapC at this ⊢
    rw [cnt_zero, List.length_replicate]
    exact this
  · rw [List.length_replicate]
    refine own_only own1.out ((Only.refl (One g) w1).setCell (p := ⟨g, 3, none⟩) (.inl rfl) _) (fun i hi k => ?_)
    have k : i = g := k
    exact own_blk own1.out B1.out (by decide) (by rw [hi, k])
set_option maxHeartbeats 1000000 in
theorem shape8 (w : World) (wide : Int) (A : Option Addr) (c : Nat) (l : List Bool) (h : Rds w 1 A l.length (boC l)) (hc : l.length ≤ c) (hl : l.length ≤ 140737488351232) (hA : A = none → l.length = 0) (W H : Nat) (hW : (W : Int) = 1 + roundP wide 40) (hH : H = min (l.length / W) 8192) :
    Calls Try.prog 8 #[.int .i64 wide, .slice A l.length c] w fun e w' => ∃ G A' c', e = .returned (.tuple #[P G, .int .i64 W, .int .i64 H]) ∧ Only No w w' ∧ (∀ k, Sm G A' k → w.heap.size ≤ k) ∧ MapAt w' G A' c' W H (l.take (W * H)) := by
  have r1 := roundP_bounds wide (n := 40) (by omega)
  have ha := fun w => at24 w wide 40 (by omega) (by omega)
  generalize roundP wide 40 = r at *
  have hr1 : (1 : Int) + r = (W : Int) := hW.symm
  have hW1 : 1 ≤ W ∧ W ≤ 40 := by omega
  have hH1 : H ≤ 8192 := by omega
  have hWH : W * H ≤ l.length := by
    have h1 : W * (l.length / W) ≤ l.length := Nat.mul_div_le _ _
    have h2 : W * H ≤ W * (l.length / W) := Nat.mul_le_mul_left _ (by omega)
    omega
  have hm : W * H ≤ 40 * 8192 := Nat.mul_le_mul hW1.2 hH1
  have HR := Lib.hid (show Rds w 1 A (l.take (W * H)).length (boC (l.take (W * H))) from ⟨by rw [boC_length]; omega, fun h0 => by
    have hlen : (l.take (W * H)).length = W * H := by rw [List.length_take]; omega
    obtain ⟨ad, e, hb, hcc⟩ := h.2 (by omega)
    refine ⟨ad, e, hb, fun j u hu => hcc j u ?_⟩
    have hj : j < W * H := by
      have := (List.getElem?_eq_some_iff.1 hu).1
      rw [boC_length, hlen] at this
      exact this
    unfold boC at hu ⊢
    rw [List.map_take, List.getElem?_take, if_pos hj] at hu
    exact hu⟩)
  have hlen : (l.take (W * H)).length = W * H := by rw [List.length_take]; omega
  have hof := Lib.hid (fun w' (ho : Only No w w') => of12 w' W H A c (l.take (W * H)) (HR.out.no ho) (fun e => by have := hA e; omega) (by omega) hH1 hlen)
  rw [hlen] at hof
  have hMul : wrap64 ((W : Int) * (H : Int)) = ((W * H : Nat) : Int) := by rw [← Int.natCast_mul]; exact IntWalk.wrap64_in _ (by omega)
  have hcap : W * H ≤ c := by omega
  replace ha := Lib.hid ha
  have hq := Nat.div_le_self l.length W
  have hdq : ((l.length : Int) / (W : Int)) = ((l.length / W : Nat) : Int) := (Int.natCast_ediv _ _).symm
  generalize hqq : l.length / W = q at *
  have hWz : ¬ (W : Int) = 0 := by omega
  have hMi : ((W * H : Nat) : Int) ≤ (c : Int) := by omega
  have hp1 : (0 : Int) < (W : Int) := by omega
  generalize hM : W * H = M at *
  clear HR hlen hWH h hA hW r1 hqq
  replace hM := Lib.hid hM
  replace hof := Lib.hid (hof.out w (Only.refl _ _))
  by_cases h8 : 8192 < q
  · obtain rfl : H = 8192 := by omega
    have d2 : (8192 : Int) < (q : Int) := by omega
    have hMul' : (W : Int) * 8192 = (M : Int) := by have := hM.out; omega
    clear hH hH1 hMul
    go_enter Try.func8, Try.ntmps8
    go_wp2_with fail
    refine (ha.out _).mono ?_
    rintro e w1 ⟨rfl, rfl⟩
    go_wp2_with fail
    refine hof.out.mono ?_
    rintro e w2 ⟨G, A', c', rfl, o, hs, hm⟩
    replace o := Lib.hid o
    replace hs := Lib.hid hs
    replace hm := Lib.hid hm
    go_wp2_with fail
    go_ret3
    exact ⟨_, _, _, rfl, o.out, hs.out, hm.out⟩
  · obtain rfl : H = q := by omega
    have d2 : ¬ (8192 : Int) < (H : Int) := by omega
    clear hH hH1
    go_enter Try.func8, Try.ntmps8
    go_wp2_with fail
    refine (ha.out _).mono ?_
    rintro e w1 ⟨rfl, rfl⟩
    go_wp2_with fail
    refine hof.out.mono ?_
    rintro e w2 ⟨G, A', c', rfl, o, hs, hm⟩
    replace o := Lib.hid o
    replace hs := Lib.hid hs
    replace hm := Lib.hid hm
    go_wp2_with fail
    go_ret3
    exact ⟨_, _, _, rfl, o.out, hs.out, hm.out⟩
theorem new16_no (w : World) (a b : Int) (h : ¬ (0 ≤ a ∧ 0 ≤ b ∧ a ≤ 8192 ∧ b ≤ 8192)) : Calls Try.prog 16 #[.int .i64 a, .int .i64 b] w fun e w' => e = .returned (.tuple #[.pointer none, .int .i64 120]) ∧ w = w' := by
  have hf : ∀ w, Calls Try.prog 29 #[.int .i64 a, .int .i64 b] w fun e w' => e = .returned (.bool false) ∧ w = w' := by
    intro w
    by_cases h1 : 0 ≤ a
    · by_cases h2 : 0 ≤ b
      · by_cases h3 : a ≤ 8192
        · have h4 : ¬ b ≤ 8192 := fun k => h ⟨h1, h2, h3, k⟩
          clear h
          go_enter Try.func29, Try.ntmps29
          go_wp2_with fail
          go_ret
          exact ⟨rfl, rfl⟩
        · clear h
          have e3 : decide (a ≤ 8192) = false := decide_eq_false h3
          go_enter Try.func29, Try.ntmps29
          go_wp2_with fail
          go_ret
          exact ⟨rfl, rfl⟩
      · clear h
        have e3 : decide (0 ≤ b) = false := decide_eq_false h2
        go_enter Try.func29, Try.ntmps29
        go_wp2_with fail
        go_ret
        exact ⟨rfl, rfl⟩
    · clear h
      have e3 : decide (0 ≤ a) = false := decide_eq_false h1
      go_enter Try.func29, Try.ntmps29
      go_wp2_with fail
      go_ret
      exact ⟨rfl, rfl⟩
  clear h
  go_enter Try.func16, Try.ntmps16
  go_wp2_with fail
  refine (hf _).mono ?_
  rintro e w1 ⟨rfl, rfl⟩
  go_wp2_with fail
  go_ret2
  exact ⟨rfl, rfl⟩
theorem madeB (n : Nat) : (madeCells (Value.bool false).cells (n * 1)).toList = boC (List.replicate n false) := by
  rw [Nat.mul_one, show (Value.bool false).cells = #[Value.bool false] from rfl, toList_madeCells_one]
  unfold boC
  simp
set_option maxHeartbeats 1000000 in
theorem new16 (w : World) (W H : Nat) (hW : W ≤ 8192) (hH : H ≤ 8192) : Calls Try.prog 16 #[.int .i64 W, .int .i64 H] w fun e w' => ∃ G A c, e = .returned (.tuple #[P G, .int .i64 0]) ∧ Only No w w' ∧ (∀ k, Sm G A k → w.heap.size ≤ k) ∧ MapAt w' G A c W H (List.replicate (W * H) false) := by
  obtain ⟨i0, hi0, hz0, hz1, hz2⟩ := info_parts info4
  have hm : W * H ≤ 8192 * 8192 := Nat.mul_le_mul hW hH
  have hMul : (W : Int) * (H : Int) = ((W * H : Nat) : Int) := by push_cast; rfl
  have hMw : wrap64 ((W * H : Nat) : Int) = ((W * H : Nat) : Int) := IntWalk.wrap64_in _ (by omega)
  obtain ⟨w1, hmk, own1, gr1⟩ := run_make_full (P := Try.prog) w w.heap.size 22 4 i0 (.bool false) 1 Try.underlying22 hi0 hz0 hz1 .i64 .i64 (W * H) (by rw [hz2]; omega) (by unfold maxLen; omega) (Nat.le_refl _)
  rw [madeB] at own1
  have o1 : Only No w w1 := (Only.of_grown gr1).mono (fun i h => by cases h)
  have hM : Hid ((List.replicate (W * H) false).length = W * H) := Lib.hid (by simp)
  generalize hMM : W * H = M at *
  replace own1 := Lib.hid own1
  replace o1 := Lib.hid o1
  clear gr1
  go_enter Try.func16, Try.ntmps16
  go_wp2_with fail
  refine (fits29 w W H hW hH).mono ?_
  rintro e w' ⟨rfl, rfl⟩
  go_wp2_with fail
  go_ret2
  refine ⟨_, some ⟨w'.heap.size, 0, none⟩, M, rfl, o1.out.alloc _, ?_, ⟨?_, ?_, by rw [hM.out, hMM], hW, hH⟩⟩
  · rintro k (rfl | ⟨ad, e, rfl⟩)
    · exact o1.out.size
    · cases e; exact Nat.le_refl _
  · unfold mapC
    rw [hM.out, cnt_zero]
    exact Blk.new _ _ _
  · rw [hM.out]
    exact own_base (own_only own1.out ((Only.refl No w1).alloc _) (fun _ _ => id)) (fun _ _ => Nat.zero_le _)
end Go.Proofs.Ytclidonogebgkaa.Ct
