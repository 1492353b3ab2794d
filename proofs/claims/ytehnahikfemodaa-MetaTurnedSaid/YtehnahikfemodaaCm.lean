/- Comments, twin, kept and the comparisons. -/
import Derived.Test.YtehnahikfemodaaRows
import Derived.Test.YtehnahikfemodaaMem
import Derived.WalkKit
import Derived.WalkLawsBesides
import Derived.LoopTactic
import Derived.Lib.Hide
import Derived.Outline
import Derived.Laws.BitsLemmas
import Derived.Deep.QuietTactic
import Derived.BigQuiet
namespace Go.Proofs.Ytehnahikfemodaa.Ct
open Go.ChangeShapes Go.WideShapes Go.RowKit Mm

theorem info9 : (Try.prog.info? 9).map (fun i => (i.zero, i.size, i.bytes)) = some (some (.string ByteArray.empty), 1, 16) := by kernel_rfl
theorem info36 : (Try.prog.info? 36).map (fun i => (i.zero, i.size, i.bytes)) = some (some (.agg #[.int .u8 0, .string ByteArray.empty]), 2, 24) := by kernel_rfl
/-- a segment: its code, its data -/
abbrev Ex := Int × ByteArray
def exC (l : List Ex) : List Value := l.flatMap fun s => [.int .u8 s.1, .string s.2]
def stC (l : List ByteArray) : List Value := l.map Value.string
theorem exC_len (l : List Ex) : (exC l).length = l.length * 2 := by
  induction l with
  | nil => rfl
  | cons a l ih => simp only [exC, List.flatMap_cons, List.length_append, List.length_cons, List.length_nil] at ih ⊢; omega
theorem exC_append (l m : List Ex) : exC (l ++ m) = exC l ++ exC m := by simp [exC]
theorem exC_succ (k : Nat) (x : Ex) : exC (List.replicate (k + 1) x) = exC (List.replicate k x) ++ [.int .u8 x.1, .string x.2] := by
  rw [List.replicate_succ', exC_append]; rfl
theorem exC_get (l : List Ex) (k : Nat) (h : k < l.length) : (exC l)[k * 2]? = some (.int .u8 l[k].1) ∧ (exC l)[k * 2 + 1]? = some (.string l[k].2) := by
  induction l generalizing k with
  | nil => simp at h
  | cons a l ih =>
    cases k with
    | zero => simp [exC]
    | succ k =>
      have := ih k (by simpa using h)
      rw [show (k + 1) * 2 = k * 2 + 1 + 1 by omega]
      simpa [exC] using this
theorem exC_one (l : List Ex) : ∀ u ∈ exC l, u.oneCell' = true := by
  intro u hu
  simp only [exC, List.mem_flatMap] at hu
  obtain ⟨s, _, hs⟩ := hu
  simp at hs
  rcases hs with rfl | rfl <;> rfl
theorem ex_cells {w : World} {A : Option Addr} {n : Nat} {l : List Ex} (h : Rds w 2 A n (exC l)) (hl : l.length = n) (k : Nat) (hk : k < n) :
    ∃ ad, A = some ad ∧ w.cell? (ad.add (k * 2)) = some (.int .u8 (l[k]'(by omega)).1) ∧ w.cell? ⟨(ad.add (k * 2)).block, (ad.add (k * 2)).off + 1, none⟩ = some (.string (l[k]'(by omega)).2) ∧ ad.block < w.heap.size := by
  obtain ⟨ad, e, hb, hc⟩ := h.2 (by omega)
  obtain ⟨g0, g1⟩ := exC_get l k (by omega)
  exact ⟨ad, e, hc _ _ g0, by rw [add_field _ _ 1 (by omega)]; exact hc _ _ g1, hb⟩
theorem st_cell {w : World} {A : Option Addr} {n : Nat} {l : List ByteArray} (h : Rds w 1 A n (stC l)) (hl : l.length = n) (k : Nat) (hk : k < n) :
    ∃ ad, A = some ad ∧ w.cell? (ad.add k) = some (.string (l[k]'(by omega))) := by
  obtain ⟨ad, e, hb, hc⟩ := h.2 (by omega)
  exact ⟨ad, e, hc _ _ (by unfold stC; rw [List.getElem?_map, List.getElem?_eq_getElem (by omega)]; rfl)⟩
/-- the comments -/
def cms (l : List Ex) : List ByteArray := (l.filter (fun x => x.1 == 254)).map (·.2)
theorem cms_take (l : List Ex) (k : Nat) (h : k < l.length) : cms (l.take (k + 1)) = cms (l.take k) ++ (if l[k].1 == 254 then [l[k].2] else []) := by
  unfold cms
  rw [List.take_succ_eq_append_getElem h, List.filter_append, List.map_append]
  by_cases hc : (l[k].1 == 254) = true
  · simp [hc]
  · simp [hc]
theorem cms_le (l : List Ex) : (cms l).length ≤ l.length := by
  unfold cms
  rw [List.length_map]
  exact List.length_filter_le _ _

theorem blk_new2 (w : World) (o : Obj) (t : TypeId) (cs : Array Value) : Blk ((w.alloc o).alloc (.cells cs t)) (w.heap.size + 1) t cs := by simpa using Blk.new (w.alloc o) t cs
def Comm (l : List Ex) (w : World) (e : Ending) (w' : World) : Prop := ∃ v, e = .returned v ∧ w'.ownsRow w.heap.size 9 1 v (cms l).length (stC (cms l)) ∧ Only No w w'
def CI (l : List Ex) (w : World) (k : Nat) (v : Value) (wr : World) : Prop := wr.ownsRow w.heap.size 9 1 v (cms (l.take k)).length (stC (cms (l.take k))) ∧ Only No w wr
theorem CI.skip {l : List Ex} {w wr w' : World} {k : Nat} {v : Value} (h : CI l w k v wr) (hk : k < l.length) (hc : (l[k].1 == 254) = false) (ho : Only No wr w') : CI l w (k + 1) v w' := by
  unfold CI
  rw [cms_take l k hk, hc]
  simp only [Bool.false_eq_true, if_false, List.append_nil]
  exact ⟨own_only h.1 ho (fun _ _ => id), h.2.trans ho⟩
theorem CI.add {l : List Ex} {w wr w1 w' : World} {k : Nat} {v v' : Value} (h : CI l w k v wr) (hk : k < l.length) (hc : (l[k].1 == 254) = true) (h1 : Only No wr w1) (hown : w'.ownsRow w.heap.size 9 1 v' ((cms (l.take k)).length + 1) (stC (cms (l.take k)) ++ [.string l[k].2])) (ho : Only (fun i => v.ownBlock = some i) w1 w') : CI l w (k + 1) v' w' := by
  unfold CI
  rw [cms_take l k hk, hc]
  simp only [if_true, List.length_append, List.length_cons, List.length_nil]
  refine ⟨?_, (h.2.trans h1).then ho (fun i hi => .inr (own_ge h.1 i hi))⟩
  unfold stC at hown ⊢
  rw [List.map_append]
  exact hown
set_option maxRecDepth 100000 in
set_option maxHeartbeats 1600000 in
theorem rcomm_any (A : Option Addr) (m c : Nat) (l : List Ex) (w : World) (hr : Rds w 2 A m (exC l)) (hl : l.length = m) (hm : m * 24 ≤ 140737488351232) : Calls Try.prog 10 #[.slice A m c] w (Comm l w) := by
  obtain ⟨i0, hi0, hz0, hz1, hz2⟩ := info_parts info9
  have HR := Lib.hid hr
  have HL := Lib.hid hl
  clear hr hl
  go_enter Try.func10, Try.ntmps10
  go_wp2
  go_loopw [3, 4] (fun v3 v4 wr => ∃ k : Nat, v4 = .int .i64 k ∧ k ≤ m ∧ Hid (CI l w k v3 wr)) (fun _ v4 _ => m - (intOf v4).toNat)
  case atStart => exact ⟨0, rfl, by omega, Lib.hid ⟨by simpa [cms, stC] using World.ownsRow_nil _ _ _ _, Only.refl _ _⟩⟩
  case round =>
    obtain ⟨k, rfl, hk, hI⟩ := hrel
    by_cases hlt : k < m
    · have hlt' : (k : Int) < m := by omega
      obtain ⟨ad, rfl, p0, p1, pb⟩ := ex_cells (HR.out.no hI.out.2) HL.out k hlt
      have hkl : Hid (k < l.length) := Lib.hid (by rw [HL.out]; exact hlt)
      obtain ⟨u, hu⟩ : ∃ u, Hid (u = l[k]'(by rw [HL.out]; exact hlt)) := ⟨_, Lib.hid rfl⟩
      rw [← hu.out] at p0 p1
      have hcl : Hid ((cms (l.take k)).length ≤ k) := Lib.hid (Nat.le_trans (cms_le _) (by rw [List.length_take]; omega))
      cases hc : (u.1 == 254)
      · have hst := Lib.hid (fun w' (h : Only No wr w') => hI.out.skip hkl.out (by rw [← hu.out]; exact hc) h)
        go_wp2
        go_roundw
        case rel => exact ⟨k + 1, by go_num, by omega, Lib.hid (hst.out _ (Only.refl _ _))⟩
        case measure => simp [intOf]; omega
      · have hst := Lib.hid (fun w1 w' v' (h1 : Only No wr w1) h2 (h3 : Only (fun i => u3.ownBlock = some i) w1 w') => hI.out.add (v' := v') hkl.out (by rw [← hu.out]; exact hc) h1 h2 h3)
        go_wp2_with (at_builtin; go_loud (refine Mm.wpList_append_any _ rfl (.tmp 17) (.tmp 23) _ rfl w.heap.size 9 i0 _ 1 16 Try.underlying23 hi0 hz0 hz1 hz2 rfl (by omega) u3 (cms (l.take k)).length (stC (cms (l.take k))) rfl (hI.out.1.alloc _) (some ⟨wr.heap.size, 0, none⟩) 1 1 [.string u.2] rfl (Rds.fresh (Blk.new _ _ _) rfl) (by simp [Value.oneCell']) (by have := hcl.out; simp only [maxLen]; omega) (by have := hcl.out; omega) (by have := hI.out.2.size; simp; omega) ?_); intro v4 w4 hown4 hon4 hat4)
        have hnew := Lib.hid (hst.out _ _ _ ((Only.refl _ _).alloc _) (by rw [← hu.out]; exact hown4) hon4)
        clear hown4 hon4 hat4
        go_roundw
        case rel => exact ⟨k + 1, by go_num, by omega, hnew⟩
        case measure => simp [intOf]; omega
    · have hlt' : ¬ (k : Int) < m := by omega
      obtain rfl : k = m := by omega
      go_wp2
      go_ret
      have := hI.out
      unfold CI at this
      rw [List.take_of_length_le (by rw [HL.out]; omega)] at this
      exact ⟨_, rfl, this.1, this.2⟩
set_option maxRecDepth 100000 in
set_option maxHeartbeats 1600000 in
theorem comm_any (A : Option Addr) (m c : Nat) (l : List Ex) (w : World) (hr : Rds w 2 A m (exC l)) (hl : l.length = m) (hm : m * 24 ≤ 140737488351232) : Calls Try.prog 12 #[.slice A m c] w (Comm l w) := by
  obtain ⟨i0, hi0, hz0, hz1, hz2⟩ := info_parts info9
  have HR := Lib.hid hr
  have HL := Lib.hid hl
  clear hr hl
  go_enter Try.func12, Try.ntmps12
  go_wp2
  go_loopw [3, 8] (fun v3 v8 wr => ∃ k : Nat, v8 = .int .i64 k ∧ k ≤ m ∧ Hid (CI l w k v3 wr)) (fun _ v8 _ => m - (intOf v8).toNat)
  case atStart => exact ⟨0, rfl, by omega, Lib.hid ⟨by simpa [cms, stC] using World.ownsRow_nil _ _ _ _, Only.refl _ _⟩⟩
  case round =>
    obtain ⟨k, rfl, hk, hI⟩ := hrel
    by_cases hlt : k < m
    · have hlt' : (k : Int) < m := by omega
      obtain ⟨ad, rfl, p0, p1, pb⟩ := ex_cells (HR.out.no hI.out.2) HL.out k hlt
      have hkl : Hid (k < l.length) := Lib.hid (by rw [HL.out]; exact hlt)
      obtain ⟨u, hu⟩ : ∃ u, Hid (u = l[k]'(by rw [HL.out]; exact hlt)) := ⟨_, Lib.hid rfl⟩
      rw [← hu.out] at p0 p1
      have hcl : Hid ((cms (l.take k)).length ≤ k) := Lib.hid (Nat.le_trans (cms_le _) (by rw [List.length_take]; omega))
      cases hc : (u.1 == 254)
      · have hst := Lib.hid (fun w' (h : Only No wr w') => hI.out.skip hkl.out (by rw [← hu.out]; exact hc) h)
        go_wp2
        go_roundw
        case rel => exact ⟨k + 1, by go_num, by omega, Lib.hid (hst.out _ ((Only.refl _ _).alloc _))⟩
        case measure => simp [intOf]; omega
      · have hst := Lib.hid (fun w1 w' v' (h1 : Only No wr w1) h2 (h3 : Only (fun i => u3.ownBlock = some i) w1 w') => hI.out.add (v' := v') hkl.out (by rw [← hu.out]; exact hc) h1 h2 h3)
        go_wp2_with (at_builtin; go_loud (refine Mm.wpList_append_any _ rfl (.tmp 15) (.tmp 18) _ rfl w.heap.size 9 i0 _ 1 16 Try.underlying23 hi0 hz0 hz1 hz2 rfl (by omega) u3 (cms (l.take k)).length (stC (cms (l.take k))) rfl ((hI.out.1.alloc _).alloc _) (some ⟨wr.heap.size + 1, 0, none⟩) 1 1 [.string u.2] rfl (Rds.fresh (blk_new2 _ _ _ _) rfl) (by simp [Value.oneCell']) (by have := hcl.out; simp only [maxLen]; omega) (by have := hcl.out; omega) (by have := hI.out.2.size; simp; omega) ?_); intro v4 w4 hown4 hon4 hat4)
        have hnew := Lib.hid (hst.out _ _ _ (((Only.refl _ _).alloc _).alloc _) (by rw [← hu.out]; exact hown4) hon4)
        clear hown4 hon4 hat4
        go_roundw
        case rel => exact ⟨k + 1, by go_num, by omega, hnew⟩
        case measure => simp [intOf]; omega
    · have hlt' : ¬ (k : Int) < m := by omega
      obtain rfl : k = m := by omega
      go_wp2
      go_ret
      have := hI.out
      unfold CI at this
      rw [List.take_of_length_le (by rw [HL.out]; omega)] at this
      exact ⟨_, rfl, this.1, this.2⟩
/-- true, and but for draws and new memory the world is as it was -/
def Yes (w : World) (e : Ending) (w' : World) : Prop := e = .returned (.bool true) ∧ Only No w w'
set_option maxRecDepth 100000 in
set_option maxHeartbeats 1600000 in
theorem same_yes (A B : Option Addr) (c d : Nat) (l : List Ex) (N : Nat) (w : World) (ha : Rds w 2 A N (exC l)) (hb : Rds w 2 B N (exC l)) (hl : l.length = N) (hN : N ≤ 100000000000000) :
    Calls Try.prog 17 #[.slice A N c, .slice B N d] w (Yes w) := by
  have HA := Lib.hid ha
  have HB := Lib.hid hb
  have HL := Lib.hid hl
  clear ha hb hl
  go_enter Try.func17, Try.ntmps17
  go_wp2
  go_loopw [5] (fun v5 wr => ∃ i : Nat, v5 = .int .i64 i ∧ i ≤ N ∧ Hid (Only No w wr)) (fun v5 _ => N - (intOf v5).toNat)
  case atStart => exact ⟨0, rfl, by omega, Only.refl _ _⟩
  case round =>
    obtain ⟨i, rfl, hi, hO⟩ := hrel
    by_cases hlt : i < N
    · have hlt' : (i : Int) < N := by omega
      obtain ⟨ad, rfl, x0, x1, _⟩ := ex_cells (HA.out.no hO.out) HL.out i hlt
      obtain ⟨ad2, rfl, y0, y1, _⟩ := ex_cells (HB.out.no hO.out) HL.out i hlt
      generalize l[i]'(by rw [HL.out]; exact hlt) = u at x0 x1 y0 y1
      go_wp2_with fail
      go_quiet (fail)
      go_wp2
      go_roundw
      case rel => exact ⟨i + 1, by go_num, by omega, by first | exact hO.out | exact hO.out.drewN _⟩
      case measure => simp [intOf]; omega
    · have hlt' : ¬ (i : Int) < N := by omega
      go_wp2
      go_ret
      exact ⟨rfl, hO.out⟩
set_option maxRecDepth 100000 in
set_option maxHeartbeats 1600000 in
theorem texts_q (A B : Option Addr) (c d : Nat) (l : List ByteArray) (N : Nat) (w : World) (ha : Rds w 1 A N (stC l)) (hb : Rds w 1 B N (stC l)) (hl : l.length = N) (hN : N ≤ 100000000000000) :
    Calls Try.prog 13 #[.slice A N c, .slice B N d] w (fun e w' => e = .returned (.bool true) ∧ ∃ n, w' = w.drewN n) := by
  have HA := Lib.hid ha
  have HB := Lib.hid hb
  have HL := Lib.hid hl
  clear ha hb hl
  go_enter Try.func13, Try.ntmps13
  go_wp2
  go_loopw [5] (fun v5 wr => ∃ i : Nat, v5 = .int .i64 i ∧ i ≤ N ∧ Hid (∃ n, wr = w.drewN n)) (fun v5 _ => N - (intOf v5).toNat)
  case atStart => exact ⟨0, rfl, by omega, Lib.hid ⟨0, rfl⟩⟩
  case round =>
    obtain ⟨i, rfl, hi, hD⟩ := hrel
    have hO : Hid (Only No w wr) := Lib.hid (by obtain ⟨n, hn⟩ := hD.out; rw [hn]; exact (Only.refl No w).drewN n)
    by_cases hlt : i < N
    · have hlt' : (i : Int) < N := by omega
      obtain ⟨ad, rfl, x0⟩ := st_cell (HA.out.no hO.out) HL.out i hlt
      obtain ⟨ad2, rfl, y0⟩ := st_cell (HB.out.no hO.out) HL.out i hlt
      generalize l[i]'(by rw [HL.out]; exact hlt) = u at x0 y0
      go_wp2_with fail
      go_quiet (fail)
      go_wp2
      go_roundw
      case rel => exact ⟨i + 1, by go_num, by omega, Lib.hid (by obtain ⟨n, hn⟩ := hD.out; exact ⟨n + nq, by rw [hn]; exact World.drewN_drewN _ _ _⟩)⟩
      case measure => simp [intOf]; omega
    · have hlt' : ¬ (i : Int) < N := by omega
      go_wp2
      go_ret
      exact ⟨rfl, hD.out⟩
theorem texts_yes (A B : Option Addr) (c d : Nat) (l : List ByteArray) (N : Nat) (w : World) (ha : Rds w 1 A N (stC l)) (hb : Rds w 1 B N (stC l)) (hl : l.length = N) (hN : N ≤ 100000000000000) :
    Calls Try.prog 13 #[.slice A N c, .slice B N d] w (Yes w) :=
  (texts_q A B c d l N w ha hb hl hN).mono fun e w' h => ⟨h.1, by obtain ⟨n, hn⟩ := h.2; rw [hn]; exact (Only.refl No w).drewN n⟩
theorem own_some {w : World} {b : Nat} {e : TypeId} {size n : Nat} {v : Value} {xs : List Value} (h : w.ownsRow b e size v n xs) (hn : 0 < n) : ∃ g c, v = .slice (some ⟨g, 0, none⟩) n c ∧ n ≤ c := by
  rcases h.2 with ⟨_, h2⟩ | ⟨g, cap, cur, h1, _, _, hnc, _⟩
  · omega
  · exact ⟨g, cap, h1, hnc⟩
def mark : Ex := (77, ByteArray.empty)
/-- what twin hands back: room behind it -/
def Twin (l : List Ex) (m : Nat) (w : World) (e : Ending) (w' : World) : Prop :=
  ∃ g c, e = .returned (.slice (some ⟨g, 0, none⟩) m c) ∧ m + 12 ≤ c ∧ w'.ownsRow w.heap.size 36 2 (.slice (some ⟨g, 0, none⟩) (m + 12) c) (m + 12) (exC (l ++ List.replicate 12 mark)) ∧ Only No w w'
set_option maxRecDepth 100000 in
set_option maxHeartbeats 1600000 in
theorem twin_any (A : Option Addr) (m c : Nat) (l : List Ex) (w : World) (hr : Rds w 2 A m (exC l)) (hl : l.length = m) (hm : m * 24 ≤ 140737488351232) : Calls Try.prog 11 #[.slice A m c] w (Twin l m w) := by
  obtain ⟨i0, hi0, hz0, hz1, hz2⟩ := info_parts info36
  have HR := Lib.hid hr
  have HL := Lib.hid hl
  clear hr hl
  go_enter Try.func11, Try.ntmps11
  go_wp2_with (at_builtin; go_loud (refine Mm.wpList_append_any _ rfl (.tmp 5) (.tmp 6) _ rfl w.heap.size 36 i0 _ 2 24 Try.underlying22 hi0 hz0 hz1 hz2 rfl (by omega) (.slice none 0 0) 0 [] rfl (World.ownsRow_nil _ _ _ _) A m c (exC l) rfl HR.out (exC_one _) (by simp only [maxLen]; omega) (by omega) (Nat.le_refl _) ?_); intro v3 w3 hown3 hon3 hat3)
  have h0 : Hid (w3.ownsRow w.heap.size 36 2 v3 (m + 0) (exC (l ++ List.replicate 0 mark)) ∧ Only No w w3) := Lib.hid ⟨by simpa using hown3, hon3.mono (fun _ h => by simp [Value.ownBlock] at h)⟩
  clear hown3 hon3 hat3
  go_loopw [3, 4] (fun v3 v4 wr => ∃ k : Nat, v4 = .int .i64 k ∧ k ≤ 12 ∧ Hid (wr.ownsRow w.heap.size 36 2 v3 (m + k) (exC (l ++ List.replicate k mark)) ∧ Only No w wr)) (fun _ v4 _ => 12 - (intOf v4).toNat)
  case atStart => exact ⟨0, rfl, by omega, h0⟩
  case round =>
    obtain ⟨k, rfl, hk, hI⟩ := hrel
    by_cases hlt : k < 12
    · have hlt' : (k : Int) < 12 := by omega
      go_wp2_with (at_builtin; go_loud (refine Mm.wpList_append_any _ rfl (.tmp 12) (.tmp 14) _ rfl w.heap.size 36 i0 _ 2 24 Try.underlying22 hi0 hz0 hz1 hz2 rfl (by omega) u3 (m + k) (exC (l ++ List.replicate k mark)) rfl (hI.out.1.alloc _) (some ⟨wr.heap.size, 0, none⟩) 1 1 [.int .u8 77, .string ByteArray.empty] rfl (Rds.fresh (Blk.new _ _ _) rfl) (by simp [Value.oneCell']) (by simp only [maxLen]; omega) (by omega) (by have := hI.out.2.size; simp; omega) ?_); intro v4 w4 hown4 hon4 hat4)
      have hnew := Lib.hid (show w4.ownsRow w.heap.size 36 2 v4 (m + (k + 1)) (exC (l ++ List.replicate (k + 1) mark)) ∧ Only No w w4 from ⟨by rw [exC_append, exC_succ, ← List.append_assoc, ← exC_append]; exact hown4, (hI.out.2.alloc _).then hon4 (fun i hi => .inr (own_ge hI.out.1 i hi))⟩)
      clear hown4 hon4 hat4
      go_roundw
      case rel => exact ⟨k + 1, by go_num, by omega, hnew⟩
      case measure => simp [intOf]; omega
    · have hlt' : ¬ (k : Int) < 12 := by omega
      obtain rfl : k = 12 := by omega
      obtain ⟨g, c2, rfl, hc2⟩ := own_some hI.out.1 (by omega)
      go_wp2
      go_ret
      exact ⟨g, c2, rfl, hc2, hI.out.1, hI.out.2⟩
end Go.Proofs.Ytehnahikfemodaa.Ct
