/- A profile's pieces, as the reference makes them. -/
import Derived.Test.YtehnahikfemodaaWp
namespace Go.Proofs.Ytehnahikfemodaa.Ct
open Go.ChangeShapes Go.WideShapes Go.RowKit Mm

theorem step_append_any {P : Program} {ops : Array Oper} {o : Oper} {a : Act} {w : World} {K : Act → World → Prop} {Q : Exit → Act → World → Prop} {E : Prop} (hgd : o.guard = none) (s x : Operand) (t : TypeId)
    (ho : o.op = .call { callee := .builtin .append, args := #[s, x], argTypes := #[t, t] })
    (base : Nat) (e : TypeId) (i : TypeInfo) (z : Value) (size bytes : Nat) (ht : P.underlying t = some (.slice e)) (hi : P.info? e = some i) (hz : i.zero = some z)
    (hsize : i.size = size) (hby : i.bytes = bytes) (hzs : z.cells.size = size) (hsz : 0 < size)
    (v : Value) (n : Nat) (xs : List Value) (hs : a.eval s = v) (hown : w.ownsRow base e size v n xs)
    (A : Option Addr) (m c : Nat) (news : List Value) (hx : a.eval x = .slice A m c) (hr : Rds w size A m news) (h1 : ∀ u ∈ news, u.oneCell' = true)
    (h63 : n + m ≤ maxLen) (hbytes : (n + m) * bytes ≤ 140737488355328) (hbase : base ≤ w.heap.size)
    (hK : ∀ v' w', w'.ownsRow base e size v' (n + m) (xs ++ news) → Only (fun k => v.ownBlock = some k) w w' → (v'.ownBlock = v.ownBlock ∨ v'.ownBlock = some w.heap.size) → K (a.put o.dst v') w') :
    if Region.wanted o (yielded ops a.tmps) = true then Oper.wp P o a w K Q else E := by
  have hw : Region.wanted o (yielded ops a.tmps) = true := by simp [Region.wanted, hgd]
  rw [if_pos hw]
  obtain ⟨v', w', hrun, h2, h3, h4⟩ := run_append_any (P := P) w base t o.type e i z size bytes ht hi hz hsize hby hzs hsz v n xs hown A m c news hr h1 h63 hbytes hbase
  unfold Oper.wp
  simp [execOp, ho, resolve, invoke, builtin, hs, hx, hrun, Result.andThen]
  exact hK _ _ h2 h3 h4
theorem conv2d (W : World) (B : Nat) (x y : Int) (hB : B = W.heap.size) : (convert 31 9 (.slice (some ⟨B, 0, none⟩) 2 2)).run Try.prog (W.alloc (.cells #[.int .u8 x, .int .u8 y] 5)).drew = .ok (.string (strOfNums [x, y])) (W.alloc (.cells #[.int .u8 x, .int .u8 y] 5)).drew := by
  subst hB
  refine run_convert_bytes_arg _ 31 5 Try.underlying31 Try.underlying5 W.heap.size 0 2 2 [x, y] rfl (fun i hi => ?_) 9 Try.underlying9
  rw [Nat.zero_add, show (W.alloc (.cells #[.int .u8 x, .int .u8 y] 5)).drew.cell? ⟨W.heap.size, i, none⟩ = _ from (Blk.new W 5 _).cell i]
  match i, hi with
  | 0, _ => rfl
  | 1, _ => rfl
set_option maxRecDepth 100000 in
set_option maxHeartbeats 1600000 in
theorem rprof_any (s : ByteArray) (w : World) (h : s.size ≤ 16707345) : Calls Try.prog 15 #[.string s] w (Prof s w) := by
  obtain ⟨i0, hi0, hz0, hz1, hz2⟩ := info_parts info36
  have h1 : (s.size : Int) ≤ 16707345 := by omega
  have e1 : profL s = wpl s (allP s) := by unfold profL; rw [if_pos h]
  have e2 : profE s = 0 := by unfold profE; rw [if_pos h]
  unfold Prof
  rw [e1, e2, wpl_len]
  obtain ⟨N, hN⟩ : ∃ N, N = allP s := ⟨_, rfl⟩
  rw [← hN]
  have hN1 : N ≤ 255 := by rw [hN]; unfold allP; omega
  have hN2 : ∀ k : Nat, k < N → k * 65519 < s.size := fun k hk => by rw [hN] at hk; unfold allP at hk; omega
  have hN3 : ∀ k : Nat, k * 65519 < s.size → k < N := fun k hk => by rw [hN]; unfold allP; omega
  replace hN := Lib.hid hN
  replace hN2 := Lib.hid hN2
  replace hN3 := Lib.hid hN3
  have hcv := conv2d
  have z2 : ∀ x y, (strOfNums [x, y]).size = 2 := fun _ _ => rfl
  have z12 : headP.size = 12 := rfl
  have za : ∀ a b : ByteArray, (a ++ b).size = a.size + b.size := fun a b => ByteArray.size_append
  replace h := Lib.hid h
  clear e1 e2
  go_enter Try.func15, Try.ntmps15
  go_wp2
  go_loopw [4] (fun v4 wr => ∃ k : Nat, v4 = .int .i64 k ∧ k ≤ N ∧ w = wr) (fun v4 _ => N - (intOf v4).toNat)
  case atStart => exact ⟨0, rfl, by omega, rfl⟩
  case round =>
    obtain ⟨k, rfl, hk, rfl⟩ := hrel
    by_cases hlt : k < N
    · have hks := hN2.out k hlt
      have hks' : (k : Int) * 65519 < s.size := by omega
      clear hks
      go_wp2_with fail
      go_roundw
      case rel => exact ⟨k + 1, by go_num, by omega, by first | rfl | trivial⟩
      case measure => simp [intOf]; omega
    · have hks' : ¬ (k : Int) * 65519 < s.size := fun h => hlt (hN3.out k (by omega))
      obtain rfl : k = N := by omega
      clear hlt hk
      go_wp2_with fail
      go_loopw [5, 6] (fun v5 v6 wr => ∃ j : Nat, v6 = .int .i64 (j + 1 : Nat) ∧ j ≤ k ∧ Hid (PI s w j v5 wr)) (fun _ v6 _ => k + 1 - (intOf v6).toNat)
      case atStart => exact ⟨0, rfl, by omega, Lib.hid ⟨World.ownsRow_nil _ _ _ _, Only.refl _ _⟩⟩
      case round =>
        obtain ⟨j, rfl, hj, hI⟩ := hrel
        by_cases hlt : j < k
        · have hlt' : ((j + 1 : Nat) : Int) ≤ k := by omega
          have hks := hN2.out j hlt
          have hks2 : (j : Int) * 65519 < s.size := by omega
          obtain ⟨q, hq⟩ : ∃ q : Nat, q = j + 1 := ⟨_, rfl⟩
          have hq1 : (q : Int) - 1 = (j : Int) := by omega
          have hq2 : (q : Int) ≤ 255 := by omega
          have hq0 : (0 : Int) ≤ q := by omega
          have u1 : IntKind.u8.wrap (q : Int) = (q : Int) := by rw [IntKind.wrap_u8]; omega
          have u2 : IntKind.u8.wrap (k : Int) = (k : Int) := by rw [IntKind.wrap_u8]; omega
          have u3 : IntKind.i64.wrap (j : Int) = (j : Int) := by rw [IntKind.wrap_i64]; omega
          have u4 : IntKind.i64.wrap ((j : Int) * 65519) = (j : Int) * 65519 := by rw [IntKind.wrap_i64]; omega
          obtain ⟨X, hX⟩ : ∃ X, Hid (X = s.extract (j * 65519) (min ((j + 1) * 65519) s.size)) := ⟨_, Lib.hid rfl⟩
          have hXs : X.size ≤ 65519 := by rw [hX.out, ByteArray.size_extract]; omega
          have hXn : ¬ 9223372036854775807 < 14 + X.size := by omega
          have hpe : Hid ((pieceP s j).2 = headP ++ strOfNums [(q : Int), (k : Int)] ++ X) := Lib.hid (by rw [hX.out, hN.out, hq]; rfl)
          have hsl : ∀ (hi : Int) (W : World), hi = min ((q : Int) * 65519) s.size → (Instr.slice 9 (.string s) (some (.int .i64 ((j : Int) * 65519))) (some (.int .i64 hi)) none).run Try.prog W = .ok (.string X) W := fun hi W he => by
            have hh : hi.toNat = min ((j + 1) * 65519) s.size := by omega
            have hk1 : ((j : Int) * 65519).toNat = j * 65519 := by omega
            rw [run_slice_string (P := Try.prog) W 9 s .i64 .i64 _ _ Try.underlying9 (by omega) (by omega) (by omega), hh, hk1, hX.out]
          have hq3 : (q : Int) + 1 = ((j + 1 + 1 : Nat) : Int) := by omega
          rw [← hq] at hlt' ⊢
          have hqq := Lib.hid hq
          clear hks hq
          by_cases hlast : (s.size : Int) < (q : Int) * 65519
          · have hsl2 := fun W => hsl (s.size : Int) W (by omega)
            clear hsl
            go_wp2_with fail
            go_region_law (refine step_append_any rfl (.tmp 31) (.tmp 47) _ rfl w.heap.size 36 i0 _ 2 24 Try.underlying22 hi0 hz0 hz1 hz2 rfl (by omega) u5 j (exC (wpl s j)) rfl (by first | exact (own_only hI.out.1 (((Only.refl No _).alloc _).alloc _).drew (fun _ _ => id)) | exact ((hI.out.1.alloc _).alloc _)) (some ⟨wr.heap.size + 1, 0, none⟩) 1 1 [.int .u8 226, .string (headP ++ strOfNums [(q : Int), (k : Int)] ++ X)] rfl (Rds.fresh (blk_new2 _ _ _ _) rfl) (by simp [Value.oneCell']) (by simp only [maxLen]; omega) (by omega) (by have := hI.out.2.size; simp; omega) ?_; intro v4 w4 hown4 hon4 hat4; have hnew := Lib.hid (hI.out.add (((Only.refl _ _).alloc _).alloc _).drew (by rw [hpe.out]; exact hown4) hon4); clear hown4 hon4 hat4)
            all_goals go_wp2
            all_goals go_roundw
            all_goals first | exact ⟨j + 1, by rw [← hq3]; go_num, by omega, hnew⟩ | (simp [intOf]; have := hqq.out; omega)
          · have hsl2 := fun W => hsl ((q : Int) * 65519) W (by omega)
            clear hsl
            go_wp2_with fail
            go_region_law (refine step_append_any rfl (.tmp 31) (.tmp 47) _ rfl w.heap.size 36 i0 _ 2 24 Try.underlying22 hi0 hz0 hz1 hz2 rfl (by omega) u5 j (exC (wpl s j)) rfl (by first | exact (own_only hI.out.1 (((Only.refl No _).alloc _).alloc _).drew (fun _ _ => id)) | exact ((hI.out.1.alloc _).alloc _)) (some ⟨wr.heap.size + 1, 0, none⟩) 1 1 [.int .u8 226, .string (headP ++ strOfNums [(q : Int), (k : Int)] ++ X)] rfl (Rds.fresh (blk_new2 _ _ _ _) rfl) (by simp [Value.oneCell']) (by simp only [maxLen]; omega) (by omega) (by have := hI.out.2.size; simp; omega) ?_; intro v4 w4 hown4 hon4 hat4; have hnew := Lib.hid (hI.out.add (((Only.refl _ _).alloc _).alloc _).drew (by rw [hpe.out]; exact hown4) hon4); clear hown4 hon4 hat4)
            all_goals go_wp2
            all_goals go_roundw
            all_goals first | exact ⟨j + 1, by rw [← hq3]; go_num, by omega, hnew⟩ | (simp [intOf]; have := hqq.out; omega)
        · have hlt' : ¬ ((j + 1 : Nat) : Int) ≤ k := by omega
          obtain rfl : j = k := by omega
          go_wp2
          go_ret2
          exact ⟨_, rfl, hI.out.1, hI.out.2⟩
end Go.Proofs.Ytehnahikfemodaa.Ct
