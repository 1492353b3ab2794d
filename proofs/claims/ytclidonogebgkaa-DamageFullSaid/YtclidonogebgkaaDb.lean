/- Maps of damage: Has, fits, Clone, recount, Of, Flags. -/
import Derived.Test.YtclidonogebgkaaDa
namespace Go.Proofs.Ytclidonogebgkaa.Ct
open Go.ChangeShapes Go.WideShapes Go.RowKit Mm
section
variable {w : World} {g : Nat} {A : Option Addr} {c W H n : Nat} {l : List Bool} (h : MapN w g A c W H l n)
include h
theorem has20_no (x y : Int) (hi : inB W H x y = false) : Calls Try.prog 20 #[P g, .int .i64 x, .int .i64 y] w fun e w' => e = .returned (.bool false) ∧ ∃ n, w' = w.drewN n := by
  go_enter Try.func20, Try.ntmps20
  go_wp2_with fail
  go_quiet ((go_at_call 33; exact Calls.quiet_of_same (in33_no (h.drewN _) _ _ hi)))
  go_wp2_with fail
  go_ret
  exact ⟨rfl, _, rfl⟩
theorem place {x y : Nat} (hx : x < W) (hy : y < H) : y * W + x < l.length ∧ y * W ≤ 67108864 := by
  have hlt : y * W + x < W * H := by
    have : y * W + W ≤ H * W := by rw [← Nat.succ_mul]; exact Nat.mul_le_mul_right _ hy
    rw [Nat.mul_comm W H]; omega
  have := h.len
  have := h.le
  omega
theorem has20_yes (x y : Nat) (hx : x < W) (hy : y < H) : Calls Try.prog 20 #[P g, .int .i64 x, .int .i64 y] w fun e w' => e = .returned (.bool (l.getD (y * W + x) false)) ∧ ∃ n, w' = w.drewN n := by
  obtain ⟨c0, c1, c2, c3⟩ := h.cells
  have hl := h.blk.lt
  obtain ⟨hlt2, hm2⟩ := place h hx hy
  have hle := h.le
  obtain ⟨ad, rfl, hc⟩ := h.rds.at_ (i := y * W + x) (u := .bool (l.getD (y * W + x) false)) (by omega) (boC_get hlt2)
  have e1 : IntKind.i64.wrap ((y : Int) * (W : Int)) = ((y * W : Nat) : Int) := by rw [IntWalk.i64_in _ (by rw [← Int.natCast_mul]; omega), ← Int.natCast_mul]
  have e2 : IntKind.i64.wrap (((y * W : Nat) : Int) + (x : Int)) = ((y * W + x : Nat) : Int) := by rw [IntWalk.i64_in _ (by omega)]; push_cast; rfl
  have e3 : (((y * W + x : Nat) : Int)).toNat = y * W + x := Int.toNat_natCast _
  have e4 : (0 : Int) ≤ ((y * W + x : Nat) : Int) := Int.natCast_nonneg _
  have e5 : ((y * W + x : Nat) : Int) < (l.length : Int) := by omega
  have H0 := h
  replace h := Lib.hid h
  generalize y * W + x = k at *
  generalize y * W = j at *
  go_enter Try.func20, Try.ntmps20
  go_wp2_with fail
  go_quiet ((go_at_call 33; exact Calls.quiet_of_same (in33_yes (H0.drewN _) _ _ hx hy)))
  go_wp2_with fail
  go_ret
  exact ⟨by simp [hlt2], _, rfl⟩
end
theorem inB_nat {W H x y : Nat} (hx : x < W) (hy : y < H) : inB W H (x : Int) (y : Int) = true := by unfold inB; simp; omega
theorem of_inB {W H : Nat} {x y : Int} (h : inB W H x y = true) : ∃ a b : Nat, x = a ∧ y = b ∧ a < W ∧ b < H := by
  unfold inB at h
  have h := of_decide_eq_true h
  exact ⟨x.toNat, y.toNat, by omega, by omega, by omega, by omega⟩
theorem hasB_nat {W H : Nat} {l : List Bool} {x y : Nat} (hx : x < W) (hy : y < H) : hasB W H l (x : Int) (y : Int) = l.getD (y * W + x) false := by
  have e : ((y : Int) * (W : Int) + (x : Int)).toNat = y * W + x := by
    rw [show ((y : Int) * (W : Int) + (x : Int)) = ((y * W + x : Nat) : Int) by push_cast; rfl]; exact Int.toNat_natCast _
  unfold hasB
  rw [inB_nat hx hy, e, Bool.true_and]
theorem has20 {w : World} {g : Nat} {A : Option Addr} {c W H n : Nat} {l : List Bool} (h : MapN w g A c W H l n) (x y : Int) : Calls Try.prog 20 #[P g, .int .i64 x, .int .i64 y] w fun e w' => e = .returned (.bool (hasB W H l x y)) ∧ ∃ n, w' = w.drewN n := by
  cases hi : inB W H x y
  · have := has20_no h x y hi
    simpa [hasB, hi] using this
  · obtain ⟨a, b, rfl, rfl, ha, hb⟩ := of_inB hi
    rw [hasB_nat ha hb]
    exact has20_yes h a b ha hb
theorem fits29 (w : World) (W H : Nat) (hW : W ≤ 8192) (hH : H ≤ 8192) : Calls Try.prog 29 #[.int .i64 W, .int .i64 H] w fun e w' => e = .returned (.bool true) ∧ w' = w := by
  have h1 : (W : Int) ≤ 8192 := by omega
  have h2 : (H : Int) ≤ 8192 := by omega
  have h3 : (0 : Int) ≤ W := by omega
  have h4 : (0 : Int) ≤ H := by omega
  go_enter Try.func29, Try.ntmps29
  go_wp2_with fail
  go_ret
  exact ⟨by simp, rfl⟩
theorem info4 : (Try.prog.info? 4).map (fun i => (i.zero, i.size, i.bytes)) = some (some (.bool false), 1, 1) := by kernel_rfl
theorem eqnil (w : World) (a : Option Addr) (n c : Nat) : (binOp BinOp.eql 22 (.slice a n c) (.slice none 0 0)).run Try.prog w = .ok (.bool a.isNone) w := run_eql_slice_nil w 22 4 a n c Try.underlying22
theorem clone25 (w : World) (A : Option Addr) (c : Nat) (l : List Bool) (h : Rds w 1 A l.length (boC l)) (hn : l.length ≤ 67108864) (hA : A = none → l.length = 0) :
    Calls Try.prog 25 #[.slice A l.length c] w fun e w' => ∃ v, e = .returned v ∧ w'.ownsRow w.heap.size 4 1 v l.length (boC l) ∧ Only No w w' := by
  obtain ⟨i0, hi0, hz0, hz1, hz2⟩ := info_parts info4
  have hone : ∀ u ∈ boC l, u.oneCell' = true := by
    intro u hu
    obtain ⟨_, _, rfl⟩ := List.mem_map.1 hu
    rfl
  have hnl := Lib.hid h
  have heq : ∀ (w : World), (binOp BinOp.eql 22 (.slice A l.length c) (.slice none 0 0)).run Try.prog w = .ok (.bool A.isNone) w := fun w => eqnil w A _ c
  cases A with
  | none =>
    obtain rfl : l = [] := List.eq_nil_of_length_eq_zero (hA rfl)
    replace heq : ∀ (w : World), (binOp BinOp.eql 22 (.slice none 0 c) (.slice none 0 0)).run Try.prog w = .ok (.bool true) w := heq
    clear h
    go_enter Try.func25, Try.ntmps25
    go_wp2_with fail
    go_ret
    exact ⟨_, rfl, World.ownsRow_nil _ _ _ _, Only.refl _ _⟩
  | some ad =>
    replace heq : ∀ (w : World), (binOp BinOp.eql 22 (.slice (some ad) l.length c) (.slice none 0 0)).run Try.prog w = .ok (.bool false) w := heq
    clear h
    have own0 : Hid ((w.alloc (.cells #[] 4)).ownsRow w.heap.size 4 1 (.slice (some ⟨w.heap.size, 0, none⟩) 0 0) 0 []) := Lib.hid ⟨rfl, .inr ⟨w.heap.size, 0, #[], rfl, Nat.le_refl _, Blk.new w 4 #[], Nat.le_refl _, by simp [maxLen], rfl, rfl⟩⟩
    go_enter Try.func25, Try.ntmps25
    go_wp2_with (first | (at_builtin; (refine Mm.wpList_append_any _ rfl (.tmp 5) (.tmp 6) _ rfl w.heap.size 4 i0 _ 1 1 Try.underlying22 hi0 hz0 hz1 hz2 rfl (by omega) (.slice (some ⟨w.heap.size, 0, none⟩) 0 0) 0 [] rfl own0.out (some ad) l.length c (boC l) rfl (hnl.out.no ((Only.refl No _).alloc _)) hone (by simp only [maxLen]; omega) (by omega) (by simp) ?_); intro v4 w4 hown4 hon4 hat4))
    go_ret
    refine ⟨_, rfl, by simpa using hown4, ?_⟩
    exact ((Only.refl No w).alloc _).then hon4 (fun i h => .inr (by simp [Value.ownBlock] at h; omega))
theorem cnt_snoc {l : List Bool} {k : Nat} (h : k < l.length) : cnt (l.take (k + 1)) = cnt (l.take k) + if l.getD k false = true then 1 else 0 := by
  unfold cnt
  rw [List.take_succ_eq_append_getElem h, List.count_append, show l.getD k false = l[k] by simp [h]]
  cases l[k] <;> simp
theorem cnt_le (l : List Bool) : cnt l ≤ l.length := List.count_le_length
set_option maxHeartbeats 1000000 in
theorem recount30 (w : World) (g W H : Nat) (A : Option Addr) (c : Nat) (l : List Bool) (n : Nat) (hb : Blk w g 54 (mapC W H A c l n)) (hr : Rds w 1 A l.length (boC l)) (hf : ∀ ad, A = some ad → ad.block ≠ g) (hn : l.length ≤ 67108864) :
    Calls Try.prog 30 #[P g] w fun e w' => e = .returned (.tuple #[]) ∧ Only (One g) w w' ∧ Blk w' g 54 (mapC W H A c l (cnt l)) := by
  unfold mapC at *
  have c0 := hb.cell 2
  have c1 := hb.cell 3
  simp only [List.getElem?_toArray, List.getElem?_cons_zero, List.getElem?_cons_succ] at c0 c1
  have f1 : w.frozen? ⟨g, 3, none⟩ = false := hb.frozen 3
  have hbs : Blk (w.setCell ⟨g, 3, none⟩ (.int .i64 0)) g 54 #[.int .i64 W, .int .i64 H, .slice A l.length c, .int .i64 0] := hb.set 3 _
  have HB := Lib.hid hb
  have HR := Lib.hid hr
  have HF := Lib.hid hf
  replace hbs := Lib.hid hbs
  clear hb hr hf
  go_enter Try.func30, Try.ntmps30
  go_wp2_with fail
  generalize hw1 : w.setCell ⟨g, 3, none⟩ (.int .i64 0) = w1 at hbs
  have o1 : Hid (Only (One g) w w1) := Lib.hid (by rw [← hw1]; exact (Only.refl (One g) w).setCell (p := ⟨g, 3, none⟩) (.inl rfl) _)
  clear hw1
  go_loopw [12] (fun v12 wr => ∃ i : Nat, v12 = .int .i64 i ∧ i ≤ l.length ∧ Hid (Only (One g) w1 wr ∧ Blk wr g 54 #[.int .i64 W, .int .i64 H, .slice A l.length c, .int .i64 (cnt (l.take i))])) (fun v12 _ => l.length - (intOf v12).toNat)
  case atStart => exact ⟨0, rfl, by omega, Lib.hid ⟨Only.refl _ _, hbs.out⟩⟩
  case round =>
    obtain ⟨i, rfl, hi, hI⟩ := hrel
    obtain ⟨_, hm⟩ := hI.out
    have hcl := cnt_le (l.take i)
    rw [List.length_take] at hcl
    by_cases hlt : i < l.length
    · have hlt' : (i : Int) < l.length := by omega
      have hrr := HR.out.only (o1.out.trans hI.out.1) (fun _ ad e => HF.out ad e)
      obtain ⟨ad, rfl, hcell⟩ := hrr.at_ (i := i) (by omega) (boC_get hlt)
      have hs := Lib.hid (cnt_snoc hlt)
      have d1 := hm.cell 3
      simp only [List.getElem?_toArray, List.getElem?_cons_zero, List.getElem?_cons_succ] at d1
      have f2 : wr.frozen? ⟨g, 3, none⟩ = false := hm.frozen 3
      have HM := Lib.hid hm
      have hO := Lib.hid hI.out.1
      clear hm hrr hI
      generalize l.getD i false = bb at hcell hs
      generalize cnt (l.take i) = m at *
      cases bb
      · go_wp2_with fail
        go_roundw
        case rel => exact ⟨i + 1, by go_num, by omega, Lib.hid ⟨hO.out, by rw [hs.out]; exact HM.out⟩⟩
        case measure => simp [intOf]; omega
      · go_wp2_with fail
        go_roundw
        case rel => exact ⟨i + 1, by go_num, by omega, Lib.hid ⟨hO.out.setCell (p := ⟨g, 3, none⟩) (.inl rfl) _, by rw [hs.out]; exact HM.out.set 3 _⟩⟩
        case measure => simp [intOf]; omega
    · obtain rfl : i = l.length := by omega
      rw [List.take_length] at hm
      have hO := Lib.hid hI.out.1
      replace hm := Lib.hid hm
      have hlt' : ¬ (l.length : Int) < l.length := by omega
      go_wp2_with fail
      refine bodyPost_end (results_none rfl _ _ _) rfl ⟨rfl, o1.out.trans hO.out, hm.out⟩
set_option maxHeartbeats 1000000 in
theorem of12 (w : World) (W H : Nat) (A : Option Addr) (c : Nat) (l : List Bool) (h : Rds w 1 A l.length (boC l)) (hA : A = none → l.length = 0) (hW : W ≤ 8192) (hH : H ≤ 8192) (hl : l.length = W * H) :
    Calls Try.prog 12 #[.int .i64 W, .int .i64 H, .slice A l.length c] w fun e w' => ∃ G A' c', e = .returned (.tuple #[P G, .int .i64 0]) ∧ Only No w w' ∧ (∀ k, Sm G A' k → w.heap.size ≤ k) ∧ MapAt w' G A' c' W H l := by
  have hmul : W * H ≤ 8192 * 8192 := Nat.mul_le_mul hW hH
  have hn : l.length ≤ 67108864 := by omega
  have e1 : IntKind.i64.wrap ((W : Int) * (H : Int)) = ((l.length : Nat) : Int) := by
    rw [hl, IntWalk.i64_in _ (by rw [← Int.natCast_mul]; omega), ← Int.natCast_mul]
  have e2 : ((l.length : Int) != (l.length : Int)) = false := by simp
  have HR := Lib.hid h
  replace hA := Lib.hid hA
  have hl' := Lib.hid hl
  clear hl hmul h
  go_enter Try.func12, Try.ntmps12
  go_wp2_with fail
  refine (fits29 w W H hW hH).mono ?_
  rintro e w1 ⟨rfl, rfl⟩
  go_wp2_with fail
  refine (clone25 w1 A c l HR.out hn hA.out).mono ?_
  rintro e w2 ⟨v, rfl, hown, o2⟩
  obtain ⟨A2, c2, rfl⟩ := own_slice hown
  have R2 := Lib.hid hown
  have G2 : Hid (∀ ad, A2 = some ad → w1.heap.size ≤ ad.block ∧ ad.block < w2.heap.size) := Lib.hid fun ad e => ⟨own_ge hown ad.block (by rw [e]; rfl), own_lt hown ad.block (by rw [e]; rfl)⟩
  replace o2 := Lib.hid o2
  clear hown
  go_wp2_with fail
  generalize hw3 : w2.alloc (Obj.cells #[.int .i64 W, .int .i64 H, .slice A2 l.length c2, .int .i64 0] 54) = w3
  have b3 : Blk w3 w2.heap.size 54 (mapC W H A2 c2 l 0) := by rw [← hw3]; exact Blk.new _ _ _
  have o3 : Only No w2 w3 := by rw [← hw3]; exact (Only.refl _ _).alloc _
  have hfar : ∀ ad, A2 = some ad → ad.block ≠ w2.heap.size := fun ad e => by have := G2.out ad e; omega
  have own3 := own_only R2.out o3 (fun _ _ => id)
  refine (recount30 w3 w2.heap.size W H A2 c2 l 0 b3 (Rds.of_own own3) hfar hn).mono ?_
  rintro e w4 ⟨rfl, o4, hm⟩
  have hM : Hid (MapAt w4 w2.heap.size A2 c2 W H l) := Lib.hid ⟨hm, own_base (own_only own3 o4 (fun i hi h => by
    have h : i = w2.heap.size := h
    have := own_lt R2.out i hi
    omega)) (fun _ _ => Nat.zero_le _), hl'.out, hW, hH⟩
  have O4 : Hid (Only No w1 w4) := Lib.hid ((o2.out.trans o3).then o4 (fun i h => .inr (by have h : i = w2.heap.size := h; have := o2.out.size; omega)))
  have hS : Hid (∀ k, Sm w2.heap.size A2 k → w1.heap.size ≤ k) := Lib.hid (by
    rintro k (rfl | ⟨ad, e, rfl⟩)
    · exact o2.out.size
    · exact (G2.out ad e).1)
  clear o3 o4 hm b3 hw3 own3
  go_wp2_with fail
  go_ret2
  exact ⟨_, _, _, rfl, O4.out, hS.out, hM.out⟩
theorem flags13 {w : World} {g : Nat} {A : Option Addr} {c W H : Nat} {l : List Bool} (h : MapAt w g A c W H l) :
    Calls Try.prog 13 #[P g] w fun e w' => ∃ A' c', e = .returned (.slice A' l.length c') ∧ w'.ownsRow w.heap.size 4 1 (.slice A' l.length c') l.length (boC l) ∧ Only No w w' := by
  obtain ⟨c0, c1, c2, c3⟩ := h.cells
  have H0 := Lib.hid h
  clear h
  go_enter Try.func13, Try.ntmps13
  go_wp2_with fail
  refine (clone25 w A c l H0.out.rds H0.out.le H0.out.nil).mono ?_
  rintro e w2 ⟨v, rfl, hown, o2⟩
  obtain ⟨A2, c2, rfl⟩ := own_slice hown
  replace hown := Lib.hid hown
  replace o2 := Lib.hid o2
  go_wp2_with fail
  go_ret
  exact ⟨_, _, rfl, hown.out, o2.out⟩
end Go.Proofs.Ytclidonogebgkaa.Ct
