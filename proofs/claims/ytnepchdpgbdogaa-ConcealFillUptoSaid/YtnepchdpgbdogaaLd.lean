/- A map is made: fits, Clone, recount, Of, laid. -/
import Derived.Test.YtnepchdpgbdogaaHas
import Derived.Lib.LazyBuf
namespace Go.Proofs.Ytnepchdpgbdogaa.Ct
open Go.ChangeShapes Go.WideShapes Go.RowKit Mm
theorem fits34 (w : World) (W H : Nat) (hW : W ≤ 8192) (hH : H ≤ 8192) : Calls Try.prog 34 #[.int .i64 W, .int .i64 H] w fun e w' => e = .returned (.bool true) ∧ w' = w := by
  have h1 : (W : Int) ≤ 8192 := by omega
  have h2 : (H : Int) ≤ 8192 := by omega
  have h3 : (0 : Int) ≤ W := by omega
  have h4 : (0 : Int) ≤ H := by omega
  go_enter Try.func34, Try.ntmps34
  go_wp2_with fail
  go_ret
  exact ⟨by simp, rfl⟩
theorem info4 : (Try.prog.info? 4).map (fun i => (i.zero, i.size, i.bytes)) = some (some (.bool false), 1, 1) := by kernel_rfl
theorem eqnil (w : World) (a : Option Addr) (n c : Nat) : (binOp BinOp.eql 25 (.slice a n c) (.slice none 0 0)).run Try.prog w = .ok (.bool a.isNone) w := run_eql_slice_nil w 25 4 a n c Try.underlying25
theorem clone35 (w : World) (A : Option Addr) (c : Nat) (l : List Bool) (h : Rds w 1 A l.length (boC l)) (hn : l.length ≤ 67108864) (hA : A = none → l.length = 0) :
    Calls Try.prog 35 #[.slice A l.length c] w fun e w' => ∃ v, e = .returned v ∧ w'.ownsRow w.heap.size 4 1 v l.length (boC l) ∧ Only No w w' := by
  obtain ⟨i0, hi0, hz0, hz1, hz2⟩ := info_parts info4
  have hone : ∀ u ∈ boC l, u.oneCell' = true := by
    intro u hu
    obtain ⟨_, _, rfl⟩ := List.mem_map.1 hu
    rfl
  have hnl := Lib.hid h
  have heq : ∀ (w : World), (binOp BinOp.eql 25 (.slice A l.length c) (.slice none 0 0)).run Try.prog w = .ok (.bool A.isNone) w := fun w => eqnil w A _ c
  cases A with
  | none =>
    obtain rfl : l = [] := List.eq_nil_of_length_eq_zero (hA rfl)
    replace heq : ∀ (w : World), (binOp BinOp.eql 25 (.slice none 0 c) (.slice none 0 0)).run Try.prog w = .ok (.bool true) w := heq
    clear h
    go_enter Try.func35, Try.ntmps35
    go_wp2_with fail
    go_ret
    exact ⟨_, rfl, World.ownsRow_nil _ _ _ _, Only.refl _ _⟩
  | some ad =>
    replace heq : ∀ (w : World), (binOp BinOp.eql 25 (.slice (some ad) l.length c) (.slice none 0 0)).run Try.prog w = .ok (.bool false) w := heq
    clear h
    have own0 : Hid ((w.alloc (.cells #[] 4)).ownsRow w.heap.size 4 1 (.slice (some ⟨w.heap.size, 0, none⟩) 0 0) 0 []) := Lib.hid ⟨rfl, .inr ⟨w.heap.size, 0, #[], rfl, Nat.le_refl _, Blk.new w 4 #[], Nat.le_refl _, by simp [maxLen], rfl, rfl⟩⟩
    go_enter Try.func35, Try.ntmps35
    go_wp2_with (first | (at_builtin; (refine Mm.wpList_append_any _ rfl (.tmp 5) (.tmp 6) _ rfl w.heap.size 4 i0 _ 1 1 Try.underlying25 hi0 hz0 hz1 hz2 rfl (by omega) (.slice (some ⟨w.heap.size, 0, none⟩) 0 0) 0 [] rfl own0.out (some ad) l.length c (boC l) rfl (hnl.out.no ((Only.refl No _).alloc _)) hone (by simp only [maxLen]; omega) (by omega) (by simp) ?_); intro v4 w4 hown4 hon4 hat4))
    go_ret
    refine ⟨_, rfl, by simpa using hown4, ?_⟩
    exact ((Only.refl No w).alloc _).then hon4 (fun i h => .inr (by simp [Value.ownBlock] at h; omega))
theorem recount36 (w : World) (g W H : Nat) (A : Option Addr) (c : Nat) (l : List Bool) (n : Int) (hb : Blk w g 70 #[.int .i64 W, .int .i64 H, .slice A l.length c, .int .i64 n]) (hr : Rds w 1 A l.length (boC l)) (hf : ∀ ad, A = some ad → ad.block ≠ g) (hn : l.length ≤ 67108864) :
    Calls Try.prog 36 #[P g] w fun e w' => e = .returned (.tuple #[]) ∧ Only (One g) w w' ∧ ∃ m, Blk w' g 70 #[.int .i64 W, .int .i64 H, .slice A l.length c, .int .i64 m] := by
  have c0 := hb.cell 2
  have c1 := hb.cell 3
  simp only [List.getElem?_toArray, List.getElem?_cons_zero, List.getElem?_cons_succ] at c0 c1
  have f1 : w.frozen? ⟨g, 3, none⟩ = false := hb.frozen 3
  have hbs : Blk (w.setCell ⟨g, 3, none⟩ (.int .i64 0)) g 70 #[.int .i64 W, .int .i64 H, .slice A l.length c, .int .i64 0] := hb.set 3 _
  have HB := Lib.hid hb
  have HR := Lib.hid hr
  have HF := Lib.hid hf
  replace hbs := Lib.hid hbs
  clear hb hr hf
  go_enter Try.func36, Try.ntmps36
  go_wp2_with fail
  generalize hw1 : w.setCell ⟨g, 3, none⟩ (.int .i64 0) = w1 at hbs
  have o1 : Hid (Only (One g) w w1) := Lib.hid (by rw [← hw1]; exact (Only.refl (One g) w).setCell (p := ⟨g, 3, none⟩) (.inl rfl) _)
  clear hw1
  go_loopw [12] (fun v12 wr => ∃ i : Nat, v12 = .int .i64 i ∧ i ≤ l.length ∧ Hid (Only (One g) w1 wr ∧ ∃ m, Blk wr g 70 #[.int .i64 W, .int .i64 H, .slice A l.length c, .int .i64 m])) (fun v12 _ => l.length - (intOf v12).toNat)
  case atStart => exact ⟨0, rfl, by omega, Lib.hid ⟨Only.refl _ _, _, hbs.out⟩⟩
  case round =>
    obtain ⟨i, rfl, hi, hI⟩ := hrel
    obtain ⟨m, hm⟩ := hI.out.2
    by_cases hlt : i < l.length
    · have hlt' : (i : Int) < l.length := by omega
      have hrr := HR.out.only (o1.out.trans hI.out.1) (fun _ ad e => HF.out ad e)
      obtain ⟨ad, rfl, hcl⟩ := hrr.at_ (i := i) (u := .bool (l.getD i false)) (by omega) (by simp [boC, hlt])
      have d1 := hm.cell 3
      simp only [List.getElem?_toArray, List.getElem?_cons_zero, List.getElem?_cons_succ] at d1
      have f2 : wr.frozen? ⟨g, 3, none⟩ = false := hm.frozen 3
      have HM := Lib.hid hm
      have hO := Lib.hid hI.out.1
      clear hm hrr hI
      generalize l.getD i false = bb at hcl
      cases bb
      · go_wp2_with fail
        go_roundw
        case rel => exact ⟨i + 1, by go_num, by omega, Lib.hid ⟨hO.out, _, HM.out⟩⟩
        case measure => simp [intOf]; omega
      · go_wp2_with fail
        go_roundw
        case rel => exact ⟨i + 1, by go_num, by omega, Lib.hid ⟨hO.out.setCell (p := ⟨g, 3, none⟩) (.inl rfl) _, _, HM.out.set 3 _⟩⟩
        case measure => simp [intOf]; omega
    · have hlt' : ¬ (i : Int) < l.length := by omega
      go_wp2_with fail
      refine bodyPost_end (results_none rfl _ _ _) rfl ⟨rfl, o1.out.trans hI.out.1, m, hm⟩
theorem of23 (w : World) (W H : Nat) (A : Option Addr) (c : Nat) (l : List Bool) (h : Rds w 1 A l.length (boC l)) (hA : A = none → l.length = 0) (hW : W ≤ 8192) (hH : H ≤ 8192) (hl : l.length = W * H) :
    Calls Try.prog 23 #[.int .i64 W, .int .i64 H, .slice A l.length c] w fun e w' => ∃ G, e = .returned (.tuple #[P G, .int .i64 0]) ∧ Only No w w' ∧ w.heap.size ≤ G ∧ MapAt w' w'.heap.size G W H l := by
  have hmul : W * H ≤ 8192 * 8192 := Nat.mul_le_mul hW hH
  have hn : l.length ≤ 67108864 := by omega
  have e1 : IntKind.i64.wrap ((W : Int) * (H : Int)) = ((l.length : Nat) : Int) := by
    rw [hl, IntWalk.i64_in _ (by rw [← Int.natCast_mul]; omega), ← Int.natCast_mul]
  have e2 : ((l.length : Int) != (l.length : Int)) = false := by simp
  have HR := Lib.hid h
  replace hA := Lib.hid hA
  have hl' := Lib.hid hl
  clear hl hmul h
  go_enter Try.func23, Try.ntmps23
  go_wp2_with fail
  refine (fits34 w W H hW hH).mono ?_
  rintro e w1 ⟨rfl, rfl⟩
  go_wp2_with fail
  refine (clone35 w1 A c l HR.out hn hA.out).mono ?_
  rintro e w2 ⟨v, rfl, hown, o2⟩
  obtain ⟨A2, c2, rfl⟩ := own_slice hown
  have R2 := Lib.hid (Rds.of_own hown)
  have G2 : Hid (∀ ad, A2 = some ad → ad.block < w2.heap.size) := Lib.hid fun ad e => own_lt hown ad.block (by rw [e]; rfl)
  replace o2 := Lib.hid o2
  clear hown
  go_wp2_with fail
  generalize hw3 : w2.alloc (Obj.cells #[.int .i64 W, .int .i64 H, .slice A2 l.length c2, .int .i64 0] 70) = w3
  have b3 : Blk w3 w2.heap.size 70 #[.int .i64 W, .int .i64 H, .slice A2 l.length c2, .int .i64 0] := by rw [← hw3]; exact Blk.new _ _ _
  have o3 : Only No w2 w3 := by rw [← hw3]; exact (Only.refl _ _).alloc _
  have hfar : ∀ ad, A2 = some ad → ad.block ≠ w2.heap.size := fun ad e => by have := G2.out ad e; omega
  refine (recount36 w3 w2.heap.size W H A2 c2 l 0 b3 (R2.out.no o3) hfar hn).mono ?_
  rintro e w4 ⟨rfl, o4, m, hm⟩
  have hM : Hid (MapAt w4 w4.heap.size w2.heap.size W H l) := Lib.hid ⟨⟨A2, c2, m, hm, (R2.out.no o3).only o4 (fun _ ad e => hfar ad e), fun ad e => by have := G2.out ad e; have := o3.size; have := o4.size; omega⟩, hl'.out, hW, hH, hm.lt⟩
  have O4 : Hid (Only No w1 w4) := Lib.hid ((o2.out.trans o3).then o4 (fun i h => .inr (by have h : i = w2.heap.size := h; have := o2.out.size; omega)))
  have hsz := o2.out.size
  clear o3 o4 hm b3 hw3
  go_wp2_with fail
  go_ret2
  exact ⟨_, rfl, O4.out, hsz, hM.out⟩
theorem laid10 (w : World) (W H : Nat) (A : Option Addr) (c : Nat) (l : List Bool) (h : Rds w 1 A l.length (boC l)) (hW : W ≤ 8192) (hH : H ≤ 8192) (hl : l.length = W * H) :
    Calls Try.prog 10 #[.int .i64 W, .int .i64 H, .slice A l.length c] w fun e w' => ∃ G, e = .returned (P G) ∧ Only No w w' ∧ w.heap.size ≤ G ∧ MapAt w' w'.heap.size G W H l := by
  obtain ⟨i0, hi0, hz0, hz1, hz2⟩ := info_parts info4
  have hmul : W * H ≤ 8192 * 8192 := Nat.mul_le_mul hW hH
  have hn : l.length ≤ 67108864 := by omega
  have hone : ∀ u ∈ boC l, u.oneCell' = true := by
    intro u hu
    obtain ⟨_, _, rfl⟩ := List.mem_map.1 hu
    rfl
  have HR := Lib.hid h
  have hl' := Lib.hid hl
  clear hl hmul h
  go_enter Try.func10, Try.ntmps10
  go_wp2_with (first | (at_builtin; (refine Mm.wpList_append_any _ rfl (.tmp 10) (.tmp 11) _ rfl w.heap.size 4 i0 _ 1 1 Try.underlying25 hi0 hz0 hz1 hz2 rfl (by omega) (.slice none 0 0) 0 [] rfl (World.ownsRow_nil _ _ _ _) A l.length c (boC l) rfl HR.out hone (by simp only [maxLen]; omega) (by omega) (by simp) ?_); intro v4 w4 hown4 hon4 hat4))
  rw [List.nil_append, Nat.zero_add] at hown4
  have hA : ∀ A2 c2, v4 = .slice A2 l.length c2 → (A2 = none → l.length = 0) := fun A2 c2 e e2 => by
    rcases hown4.2 with ⟨e3, h0⟩ | ⟨g, cap, cur, e3, _⟩
    · exact h0
    · rw [e, e2] at e3
      simp at e3
  obtain ⟨A2, c2, rfl⟩ := own_slice hown4
  have hA2 := Lib.hid (hA A2 c2 rfl)
  have o4 : Hid (Only No w w4) := Lib.hid (hon4.mono (fun i h => by simp [Value.ownBlock] at h))
  refine (of23 w4 W H A2 c2 l (Rds.of_own hown4) hA2.out hW hH hl'.out).mono ?_
  rintro e w5 ⟨G, rfl, o5, hG, hM⟩
  have O5 := Lib.hid (o4.out.trans o5)
  have hG2 : w.heap.size ≤ G := Nat.le_trans o4.out.size hG
  replace hM := Lib.hid hM
  clear hown4 hon4 hat4 hA o5
  go_wp2_with fail
  go_ret
  exact ⟨G, by simp, O5.out, hG2, hM.out⟩
end Go.Proofs.Ytnepchdpgbdogaa.Ct
