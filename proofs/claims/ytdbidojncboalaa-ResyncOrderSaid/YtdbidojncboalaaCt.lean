/- Contracts of package resync's functions. -/
import Derived.Test.YtdbidojncboalaaRows
import Derived.Test.YtdbidojncboalaaMem
import Derived.Test.YtdbidojncboalaaRs
import Derived.WalkKit
import Derived.WalkLawsBesides
import Derived.LoopTactic
import Derived.Lib.Hide
import Derived.Outline
import Derived.Laws.BitsLemmas
import Derived.Deep.QuietTactic
import Derived.BigQuiet
namespace Go.Proofs.Ytdbidojncboalaa.Ct
open Go.ChangeShapes Go.WideShapes Go.RowKit Mm Rs

theorem info48 : (Try.prog.info? 48).map (fun i => (i.zero, i.size, i.bytes)) = some (some (.agg #[.int .i64 0, .int .i8 0]), 2, 16) := by kernel_rfl
def trC (t : Tr) : Array Value := #[.int .i64 t.N, .int .i64 t.next, .int .i64 t.taken, .bool t.stray, .bool t.done]
def slC (l : List Slot) : List Value := l.flatMap fun s => [.int .i64 s.1, .int .i8 s.2]
abbrev P (g : Nat) : Value := .pointer (some ⟨g, 0, none⟩)

theorem slC_len (l : List Slot) : (slC l).length = l.length * 2 := by
  induction l with
  | nil => rfl
  | cons a l ih => simp only [slC, List.flatMap_cons, List.length_append, List.length_cons, List.length_nil] at ih ⊢; omega
theorem slC_append (l m : List Slot) : slC (l ++ m) = slC l ++ slC m := by simp [slC]
theorem slC_succ (k : Nat) (a b : Int) : slC (List.replicate (k + 1) (a, b)) = slC (List.replicate k (a, b)) ++ [.int .i64 a, .int .i8 b] := by
  rw [List.replicate_succ', slC_append]; rfl

theorem only_set {g : Nat} {w w' : World} (h : Only (One g) w w') (j : Nat) (u : Value) : Only (One g) w (w'.setCell ⟨g, j, none⟩ u) := h.setCell (p := ⟨g, j, none⟩) (.inl rfl) u
set_option maxHeartbeats 400000 in
theorem new_no (n : Int) (w : World) (h : n < 0 ∨ 1048576 < n) : Calls Try.prog 11 #[.int .i64 n] w fun e w' => e = .returned (.pointer none) ∧ w = w' := by
  rcases h with h | h
  · go_enter Try.func11, Try.ntmps11
    go_wp2
    go_ret
    exact ⟨rfl, rfl⟩
  · have h' : ¬ n < 0 := by omega
    go_enter Try.func11, Try.ntmps11
    go_wp2
    go_ret
    exact ⟨rfl, rfl⟩
set_option maxHeartbeats 400000 in
theorem new_yes (n : Int) (w : World) (h0 : 0 ≤ n) (h1 : n ≤ 1048576) : Calls Try.prog 11 #[.int .i64 n] w fun e w' => e = .returned (P w.heap.size) ∧ w.alloc (.cells (trC (new n)) 52) = w' := by
  go_enter Try.func11, Try.ntmps11
  go_wp2
  go_ret
  exact ⟨rfl, rfl⟩
def Placed (t : Tr) (g : Nat) (w : World) (e : Ending) (w' : World) : Prop := e = .returned (.int .i8 (placedI t)) ∧ Blk w' g 52 (trC { t with stray := false }) ∧ Only (One g) w w'
set_option maxHeartbeats 400000 in
theorem placed_any (t : Tr) (g : Nat) (w : World) (h : Blk w g 52 (trC t)) : Calls Try.prog 29 #[P g] w (Placed t g w) := by
  have c3 : w.cell? ⟨g, 3, none⟩ = some (.bool t.stray) := h.cell 3
  have f3 := h.frozen 3
  have hs := Lib.hid (h.set 3 (.bool false))
  have hb := Lib.hid h
  clear h
  cases hst : t.stray
  · rw [hst] at c3
    go_enter Try.func29, Try.ntmps29
    go_wp2
    go_ret
    exact ⟨by unfold placedI; rw [hst]; rfl, hs.out, only_set (Only.refl _ _) _ _⟩
  · rw [hst] at c3
    go_enter Try.func29, Try.ntmps29
    go_wp2
    go_ret
    exact ⟨by unfold placedI; rw [hst]; rfl, hs.out, only_set (Only.refl _ _) _ _⟩
set_option maxHeartbeats 400000 in
theorem next_any (t : Tr) (g : Nat) (w : World) (h : Blk w g 52 (trC t)) : Calls Try.prog 18 #[P g] w fun e w' => e = .returned (.int .i64 t.next) ∧ w = w' := by
  have c1 : w.cell? ⟨g, 1, none⟩ = some (.int .i64 t.next) := h.cell 1
  clear h
  go_enter Try.func18, Try.ntmps18
  go_wp2
  go_ret
  exact ⟨rfl, rfl⟩
set_option maxHeartbeats 400000 in
theorem done_any (t : Tr) (g : Nat) (w : World) (h : Blk w g 52 (trC t)) : Calls Try.prog 20 #[P g] w fun e w' => e = .returned (.bool t.done) ∧ w = w' := by
  have c1 : w.cell? ⟨g, 4, none⟩ = some (.bool t.done) := h.cell 4
  clear h
  go_enter Try.func20, Try.ntmps20
  go_wp2
  go_ret
  exact ⟨rfl, rfl⟩

/-- what is handed back: a row of slots -/
def Hands (w0 : World) (l : List Slot) (w' : World) (v : Value) : Prop := w'.ownsRow w0.heap.size 48 2 v l.length (slC l)
def Run (t : Tr) (n s : Int) (g : Nat) (w : World) (e : Ending) (w' : World) : Prop :=
  ∃ v, e = .returned v ∧ Hands w (List.replicate n.toNat (t.taken, s)) w' v ∧ Blk w' g 52 (trC { t with next := t.next + n }) ∧ Only (One g) w w'
set_option maxHeartbeats 1600000 in
theorem run_any (t : Tr) (n s : Int) (g : Nat) (w : World) (h : Blk w g 52 (trC t)) (n0 : 0 ≤ n) (n1 : n ≤ 1048576) (x0 : 0 ≤ t.next) (x1 : t.next ≤ 1048576) :
    Calls Try.prog 28 #[P g, .int .i64 n, .int .i8 s] w (Run t n s g w) := by
  obtain ⟨i0, hi0, hz0, hz1, hz2⟩ := info_parts info48
  have hmk := fun W : World => run_make (P := Try.prog) W 28 48 i0 _ Try.underlying28 hi0 hz0 .i64 .i64 0 n (by omega) n0 (by rw [hz2]; omega) (by omega)
  rw [hz1] at hmk
  have HB := Lib.hid h
  clear h
  go_enter Try.func28, Try.ntmps28
  go_wp2
  go_loopw [7, 11] (fun v i wr => ∃ k : Nat, i = .int .i64 k ∧ (k : Int) ≤ n ∧ Hid (wr.ownsRow w.heap.size 48 2 v k (slC (List.replicate k (t.taken, s)))) ∧ Hid (Only No w wr)) (fun _ i _ => n.toNat - (intOf i).toNat)
  case atStart =>
    refine ⟨0, rfl, n0, ?_, ?_⟩
    · exact World.ownsRow_made w _ n.toNat (Nat.le_refl _) (by simp only [maxLen]; omega) (size_madeCells _ _)
    · exact (Only.refl No w).alloc _
  case round =>
    obtain ⟨k, rfl, hk, hown, hon⟩ := hrel
    by_cases hlt : (k : Int) < n
    · have hblk := HB.out.only hon.out id
      have c2 : wr.cell? ⟨g, 2, none⟩ = some (.int .i64 t.taken) := hblk.cell 2
      clear hblk
      go_wp2_with (at_builtin; refine Mm.wpList_append_any _ rfl (.tmp 13) (.tmp 20) _ rfl w.heap.size 48 i0 _ 2 16 Try.underlying28 hi0 hz0 hz1 hz2 rfl (by omega) _ k _ rfl (own_only hown.out ((Only.refl No _).alloc _) (fun _ _ => id)) (some ⟨wr.heap.size, 0, none⟩) 1 1 [.int .i64 t.taken, .int .i8 s] rfl (Rds.fresh (Blk.new _ _ _) rfl) (by simp [Value.oneCell']) (by simp only [maxLen]; omega) (by omega) (by have := hon.out.size; simp; omega) ?_; intro v' w1 hown1 hon1 hat1)
      have ho2 := Lib.hid hown1
      have hn2 := Lib.hid hon1
      clear hown1 hon1 hat1
      go_wp2
      go_roundw
      case rel => exact ⟨k + 1, by go_num, by omega, by
        have := ho2.out
        rw [slC_succ]; exact this, (hon.out.alloc _).then hn2.out (fun i hi => .inr (own_ge hown.out i hi))⟩
      case measure => simp [intOf]; omega
    · obtain rfl : (k : Int) = n := by omega
      have hblk := HB.out.only hon.out id
      have c1 : wr.cell? ⟨g, 1, none⟩ = some (.int .i64 t.next) := hblk.cell 1
      have f1 := hblk.frozen 1
      have hs := Lib.hid (hblk.set 1 (.int .i64 (t.next + k)))
      have hne := Lib.hid (own_blk hown.out hblk (by decide))
      clear hblk
      go_wp2
      go_ret
      refine ⟨_, rfl, ?_, hs.out, only_set (hon.out.mono (fun _ h => h.elim)) _ _⟩
      unfold Hands
      rw [List.length_replicate, Int.toNat_natCast]
      exact own_only hown.out (only_set (Only.refl _ _) _ _) (fun i hi hg => hne.out (hi.trans (congrArg some hg)))
end Go.Proofs.Ytdbidojncboalaa.Ct
