/- A profile's pieces are made. -/
import Derived.Test.YtehnahikfemodaaTwo
import Derived.Deep.RegionLawGrows
namespace Go.Proofs.Ytehnahikfemodaa.Ct
open Go.ChangeShapes Go.WideShapes Go.RowKit Mm

abbrev headP : ByteArray := { data := #[73, 67, 67, 95, 80, 82, 79, 70, 73, 76, 69, 0] }
def allP (s : ByteArray) : Nat := (s.size + 65518) / 65519
def pieceP (s : ByteArray) (k : Nat) : Ex := (226, headP ++ strOfNums [(k : Int) + 1, (allP s : Int)] ++ s.extract (k * 65519) (min ((k + 1) * 65519) s.size))
def wpl (s : ByteArray) (k : Nat) : List Ex := (List.range k).map (pieceP s)
theorem wpl_len (s : ByteArray) (k : Nat) : (wpl s k).length = k := by simp [wpl]
theorem wpl_succ (s : ByteArray) (k : Nat) : wpl s (k + 1) = wpl s k ++ [pieceP s k] := by simp [wpl, List.range_succ]
/-- the pieces, or the error -/
def profL (s : ByteArray) : List Ex := if s.size ≤ 16707345 then wpl s (allP s) else []
def profE (s : ByteArray) : Int := if s.size ≤ 16707345 then 0 else 5
def Prof (s : ByteArray) (w : World) (e : Ending) (w' : World) : Prop := ∃ v, e = .returned (.tuple #[v, .int .i64 (profE s)]) ∧ w'.ownsRow w.heap.size 36 2 v (profL s).length (exC (profL s)) ∧ Only No w w'
set_option maxHeartbeats 800000 in
theorem prof_big (s : ByteArray) (w : World) (h : ¬ s.size ≤ 16707345) (hs : s.size ≤ 9223372036854775807) : Calls Try.prog 16 #[.string s] w (Prof s w) := by
  have h1 : (16707345 : Int) < s.size := by omega
  have e1 : profL s = [] := by unfold profL; rw [if_neg h]
  have e2 : profE s = 5 := by unfold profE; rw [if_neg h]
  unfold Prof
  rw [e1, e2]
  clear e1 e2 h
  go_enter Try.func16, Try.ntmps16
  go_wp2
  go_ret2
  exact ⟨_, rfl, World.ownsRow_nil _ _ _ _, Only.refl _ _⟩
set_option maxHeartbeats 800000 in
theorem rprof_big (s : ByteArray) (w : World) (h : ¬ s.size ≤ 16707345) (hs : s.size ≤ 9223372036854775807) : Calls Try.prog 15 #[.string s] w (Prof s w) := by
  have h1 : (16707345 : Int) < s.size := by omega
  have e1 : profL s = [] := by unfold profL; rw [if_neg h]
  have e2 : profE s = 5 := by unfold profE; rw [if_neg h]
  unfold Prof
  rw [e1, e2]
  clear e1 e2 h
  go_enter Try.func15, Try.ntmps15
  go_wp2
  go_ret2
  exact ⟨_, rfl, World.ownsRow_nil _ _ _ _, Only.refl _ _⟩
def PI (s : ByteArray) (w : World) (k : Nat) (v : Value) (wr : World) : Prop := wr.ownsRow w.heap.size 36 2 v k (exC (wpl s k)) ∧ Only No w wr
theorem PI.add {s : ByteArray} {w wr w1 w' : World} {k : Nat} {v v' : Value} (h : PI s w k v wr) (h1 : Only No wr w1) (hown : w'.ownsRow w.heap.size 36 2 v' (k + 1) (exC (wpl s k) ++ [.int .u8 226, .string (pieceP s k).2])) (ho : Only (fun i => v.ownBlock = some i) w1 w') : PI s w (k + 1) v' w' := by
  refine ⟨?_, (h.2.trans h1).then ho (fun i hi => .inr (own_ge h.1 i hi))⟩
  rw [wpl_succ, exC_append]
  exact hown
set_option maxRecDepth 100000 in
set_option maxHeartbeats 1600000 in
theorem prof_any (s : ByteArray) (w : World) (h : s.size ≤ 16707345) : Calls Try.prog 16 #[.string s] w (Prof s w) := by
  obtain ⟨i0, hi0, hz0, hz1, hz2⟩ := info_parts info36
  have h1 : (s.size : Int) ≤ 16707345 := by omega
  have e1 : profL s = wpl s (allP s) := by unfold profL; rw [if_pos h]
  have e2 : profE s = 0 := by unfold profE; rw [if_pos h]
  unfold Prof
  rw [e1, e2, wpl_len]
  obtain ⟨N, hN⟩ : ∃ N, N = allP s := ⟨_, rfl⟩
  rw [← hN]
  have hN1 : N ≤ 255 := by rw [hN]; unfold allP; omega
  have hN2 : ∀ k : Nat, k < N → k * 65519 < s.size := fun k hk => by rw [hN] at hk; unfold allP at hk; omega
  replace hN := Lib.hid hN
  replace hN2 := Lib.hid hN2
  have hmn := min2_int
  have hcv := conv_new2
  have z2 : ∀ x y, (strOfNums [x, y]).size = 2 := fun _ _ => rfl
  have z12 : headP.size = 12 := rfl
  have za : ∀ a b : ByteArray, (a ++ b).size = a.size + b.size := fun a b => ByteArray.size_append
  replace h := Lib.hid h
  clear e1 e2
  go_enter Try.func16, Try.ntmps16
  go_wp2
  rw [show ((s.size : Int) + 65519 - 1) / 65519 = N from by rw [hN.out]; unfold allP; omega]
  go_loopw [5, 17] (fun v5 v17 wr => ∃ k : Nat, v17 = .int .i64 k ∧ k ≤ N ∧ Hid (PI s w k v5 wr)) (fun _ v17 _ => N - (intOf v17).toNat)
  case atStart => exact ⟨0, rfl, by omega, Lib.hid ⟨World.ownsRow_nil _ _ _ _, Only.refl _ _⟩⟩
  case round =>
    obtain ⟨k, rfl, hk, hI⟩ := hrel
    by_cases hlt : k < N
    · have hlt' : (k : Int) < N := by omega
      have hks : k * 65519 < s.size := hN2.out k hlt
      have hks' : (k : Int) * 65519 < s.size := by omega
      have u1 : IntKind.u8.wrap ((k : Int) + 1) = (k : Int) + 1 := by rw [IntKind.wrap_u8]; omega
      have u2 : IntKind.u8.wrap (N : Int) = (N : Int) := by rw [IntKind.wrap_u8]; omega
      obtain ⟨X, hX⟩ : ∃ X, Hid (X = s.extract (k * 65519) (min ((k + 1) * 65519) s.size)) := ⟨_, Lib.hid rfl⟩
      have hXs : X.size ≤ 65519 := by rw [hX.out, ByteArray.size_extract]; omega
      have hpe : Hid ((pieceP s k).2 = headP ++ strOfNums [(k : Int) + 1, (N : Int)] ++ X) := Lib.hid (by rw [hX.out, hN.out]; rfl)
      have hsl : ∀ (hi : Int) (W : World), hi = min (((k : Int) + 1) * 65519) s.size → (Instr.slice 9 (.string s) (some (.int .i64 ((k : Int) * 65519))) (some (.int .i64 hi)) none).run Try.prog W = .ok (.string X) W := fun hi W he => by
        have hh : hi.toNat = min ((k + 1) * 65519) s.size := by omega
        have hk1 : ((k : Int) * 65519).toNat = k * 65519 := by omega
        rw [run_slice_string (P := Try.prog) W 9 s .i64 .i64 _ _ Try.underlying9 (by omega) (by omega) (by omega), hh, hk1, hX.out]
      by_cases hlast : (s.size : Int) < ((k : Int) + 1) * 65519
      · have hsl2 := fun W => hsl (s.size : Int) W (by omega)
        clear hsl
        go_wp2_with (at_builtin; go_loud (refine Mm.wpList_append_any _ rfl (.tmp 30) (.tmp 42) _ rfl w.heap.size 36 i0 _ 2 24 Try.underlying22 hi0 hz0 hz1 hz2 rfl (by omega) u5 k (exC (wpl s k)) rfl ((hI.out.1.alloc _).alloc _) (some ⟨wr.heap.size + 1, 0, none⟩) 1 1 [.int .u8 226, .string (headP ++ strOfNums [(k : Int) + 1, (N : Int)] ++ X)] rfl (Rds.fresh (blk_new2 _ _ _ _) rfl) (by simp [Value.oneCell']) (by simp only [maxLen]; omega) (by omega) (by have := hI.out.2.size; simp; omega) ?_); intro v4 w4 hown4 hon4 hat4)
        have hnew := Lib.hid (hI.out.add (((Only.refl _ _).alloc _).alloc _) (by rw [hpe.out]; exact hown4) hon4)
        clear hown4 hon4 hat4
        go_roundw
        case rel => exact ⟨k + 1, by go_num, by omega, hnew⟩
        case measure => simp [intOf]; omega
      · have hsl2 := fun W => hsl (((k : Int) + 1) * 65519) W (by omega)
        clear hsl
        go_wp2_with (at_builtin; go_loud (refine Mm.wpList_append_any _ rfl (.tmp 30) (.tmp 42) _ rfl w.heap.size 36 i0 _ 2 24 Try.underlying22 hi0 hz0 hz1 hz2 rfl (by omega) u5 k (exC (wpl s k)) rfl ((hI.out.1.alloc _).alloc _) (some ⟨wr.heap.size + 1, 0, none⟩) 1 1 [.int .u8 226, .string (headP ++ strOfNums [(k : Int) + 1, (N : Int)] ++ X)] rfl (Rds.fresh (blk_new2 _ _ _ _) rfl) (by simp [Value.oneCell']) (by simp only [maxLen]; omega) (by omega) (by have := hI.out.2.size; simp; omega) ?_); intro v4 w4 hown4 hon4 hat4)
        have hnew := Lib.hid (hI.out.add (((Only.refl _ _).alloc _).alloc _) (by rw [hpe.out]; exact hown4) hon4)
        clear hown4 hon4 hat4
        go_roundw
        case rel => exact ⟨k + 1, by go_num, by omega, hnew⟩
        case measure => simp [intOf]; omega
    · have hlt' : ¬ (k : Int) < N := by omega
      obtain rfl : k = N := by omega
      go_wp2
      go_ret2
      exact ⟨_, rfl, hI.out.1, hI.out.2⟩
end Go.Proofs.Ytehnahikfemodaa.Ct
