/- The contracts of pick and pieces. -/
import Derived.Test.YtdbidojncboalaaAlive
namespace Go.Proofs.Ytdbidojncboalaa.Ct
open Go.ChangeShapes Go.WideShapes Go.RowKit Mm Rs

theorem emod_tmod (k n : Int) (hn : 0 < n) : k % n = if Int.tmod k n < 0 then Int.tmod k n + n else Int.tmod k n := by
  have h := Int.tmod_eq_emod (a := k) (b := n)
  have h0 := Int.emod_nonneg k (show n ≠ 0 by omega)
  have h1 := Int.emod_lt_of_pos k hn
  rw [h]
  have e : (n.natAbs : Int) = n := by omega
  split
  · rw [if_neg (by omega)]; omega
  · rw [e]
    rename_i h2
    have : k % n ≠ 0 := fun h3 => h2 (.inr (Int.dvd_of_emod_eq_zero h3))
    rw [if_pos (by omega)]; omega

set_option maxHeartbeats 400000 in
theorem pick_any (k n : Int) (w : World) (h1 : 1 ≤ n) (h2 : n ≤ 1000000) : Calls Try.prog 26 #[.int .i64 k, .int .i64 n] w fun e w' => e = .returned (.int .i64 (k % n)) ∧ w = w' := by
  have hne : n ≠ 0 := by omega
  have hb : Int.tmod k n < n := Int.tmod_lt_of_pos k (by omega)
  have hc : -n < Int.tmod k n := Int.lt_tmod_of_pos k (by omega)
  have he := Lib.hid (emod_tmod k n (by omega))
  by_cases hm : Int.tmod k n < 0
  · go_enter Try.func26, Try.ntmps26
    go_wp2
    go_ret
    exact ⟨by rw [he.out, if_pos hm]; rfl, rfl⟩
  · go_enter Try.func26, Try.ntmps26
    go_wp2
    go_ret
    exact ⟨by rw [he.out, if_neg (by omega)]; rfl, rfl⟩

/-! ### pieces -/
/-- the pieces of groups of these sizes, the first of which begins at 'at_' -/
def pcs (n : Int) : Int → List Int → List Piece
  | _, [] => []
  | at_, g :: gs => ⟨at_ + g, 0, if at_ + g = n then -1 else (at_ + g - 1) % 8, 0⟩ :: pcs n (at_ + g) gs
/-- of each interval the number of its piece -/
def ofs : Int → List Int → List Int
  | _, [] => []
  | j, g :: gs => List.replicate g.toNat j ++ ofs (j + 1) gs
def tot : List Int → Int
  | [] => 0
  | g :: gs => g + tot gs
theorem tot_snoc (gs : List Int) (g : Int) : tot (gs ++ [g]) = tot gs + g := by
  induction gs with
  | nil => simp [tot]
  | cons a gs ih => simp only [List.cons_append, tot, ih]; omega
theorem pcs_snoc (n at_ : Int) (gs : List Int) (g : Int) : pcs n at_ (gs ++ [g]) = pcs n at_ gs ++ pcs n (at_ + tot gs) [g] := by
  induction gs generalizing at_ with
  | nil => simp [tot, pcs]
  | cons a gs ih =>
    show _ :: pcs n (at_ + a) (gs ++ [g]) = _ :: (pcs n (at_ + a) gs ++ pcs n (at_ + (a + tot gs)) [g])
    rw [ih, Int.add_assoc]
theorem ofs_snoc (j : Int) (gs : List Int) (g : Int) : ofs j (gs ++ [g]) = ofs j gs ++ List.replicate g.toNat (j + gs.length) := by
  induction gs generalizing j with
  | nil => simp [ofs]
  | cons a gs ih => simp only [List.cons_append, ofs, ih, List.append_assoc, List.length_cons]; rw [show j + 1 + (gs.length : Int) = j + ((gs.length + 1 : Nat) : Int) by omega]
theorem pcs_len (n at_ : Int) (gs : List Int) : (pcs n at_ gs).length = gs.length := by
  induction gs generalizing at_ with
  | nil => rfl
  | cons a gs ih => simp [pcs, ih]
theorem ofs_len (j : Int) (gs : List Int) (h : ∀ g ∈ gs, 0 ≤ g) : ((ofs j gs).length : Int) = tot gs := by
  induction gs generalizing j with
  | nil => rfl
  | cons a gs ih =>
    have := h a (by simp)
    simp only [ofs, tot, List.length_append, List.length_replicate]
    have := ih (j + 1) (fun g hg => h g (by simp [hg]))
    omega
theorem tot_len (gs : List Int) (h : ∀ g ∈ gs, 1 ≤ g) : (gs.length : Int) ≤ tot gs := by
  induction gs with
  | nil => simp [tot]
  | cons a gs ih =>
    have := h a (by simp)
    have := ih (fun g hg => h g (by simp [hg]))
    simp only [tot, List.length_cons]
    omega
theorem info32 : (Try.prog.info? 32).map (fun i => (i.zero, i.size, i.bytes)) = some (some (.agg #[.int .i64 0, .int .i64 0, .int .i8 0, .int .i64 0]), 4, 32) := by kernel_rfl
theorem pcC_append (l m : List Piece) : pcC (l ++ m) = pcC l ++ pcC m := by simp [pcC]
theorem pcC_one (l : List Piece) : ∀ u ∈ pcC l, u.oneCell' = true := by
  intro u hu
  simp only [pcC, List.mem_flatMap] at hu
  obtain ⟨s, _, hs⟩ := hu
  simp at hs
  rcases hs with rfl | rfl | rfl | rfl <;> rfl
theorem inC_append (l m : List Int) : inC (l ++ m) = inC l ++ inC m := by simp [inC]

structure PI (w : World) (n : Int) (ss : List Int) (gs : List Int) (v6 v7 : Value) (wr : World) : Prop where
  l : wr.ownsRow w.heap.size 32 4 v6 (pcs n 0 gs).length (pcC (pcs n 0 gs))
  of : wr.ownsRow w.heap.size 3 1 v7 (ofs 0 gs).length (inC (ofs 0 gs))
  only : Only No w wr
  size : ∀ g ∈ gs, 1 ≤ g ∧ g ≤ 8
  ones : ss = [] → ∀ g ∈ gs, g = 1
  le : tot gs ≤ n
def PiecesP (w : World) (n : Int) (ss : List Int) (e : Ending) (w' : World) : Prop :=
  ∃ gs v1 v2, e = .returned (.tuple #[v1, v2]) ∧ PI w n ss gs v1 v2 w' ∧ tot gs = n

structure PJ (w : World) (n : Int) (gs : List Int) (i : Nat) (v6 v7 : Value) (wr : World) : Prop where
  l : wr.ownsRow w.heap.size 32 4 v6 (pcs n 0 gs).length (pcC (pcs n 0 gs))
  of : wr.ownsRow w.heap.size 3 1 v7 (ofs 0 gs ++ List.replicate i (gs.length : Int)).length (inC (ofs 0 gs ++ List.replicate i (gs.length : Int)))
  only : Only No w wr

theorem PI.done {w : World} {n : Int} {ss gs : List Int} {i : Nat} {v6 v7 v6' v7' : Value} {w1 wr : World} (h0 : PI w n ss gs v6 v7 w1) (g : Int) (hg : g.toNat = i) (hg1 : 1 ≤ g) (hg2 : g ≤ 8) (hle : tot gs + g ≤ n) (hs : ss = [] → g = 1)
    (hof : wr.ownsRow w.heap.size 3 1 v7' (ofs 0 gs ++ List.replicate i (gs.length : Int)).length (inC (ofs 0 gs ++ List.replicate i (gs.length : Int))))
    (hl : wr.ownsRow w.heap.size 32 4 v6' ((pcs n 0 gs).length + 1) (pcC (pcs n 0 gs) ++ pcC [⟨tot gs + g, 0, if tot gs + g = n then -1 else (tot gs + g - 1) % 8, 0⟩])) (ho : Only No w wr) : PI w n ss (gs ++ [g]) v6' v7' wr := by
  subst hg
  refine ⟨?_, ?_, ho, ?_, ?_, by rw [tot_snoc]; exact hle⟩
  · rw [pcs_snoc, pcC_append, List.length_append]
    simp only [pcs, Int.zero_add] at hl ⊢
    exact hl
  · rw [ofs_snoc, Int.zero_add]; exact hof
  · intro x hx
    rcases List.mem_append.1 hx with h | h
    · exact h0.size x h
    · simp at h; subst h; exact ⟨hg1, hg2⟩
  · intro he x hx
    rcases List.mem_append.1 hx with h | h
    · exact h0.ones he x h
    · simp at h; subst h; exact hs he

theorem min2_int (k k' : IntKind) (x y : Int) : Builtin.min2 (.int k x) (.int k' y) = pure (.int k (if y < x then y else x)) := by simp only [Builtin.min2]
theorem blk_new2 (w : World) (o : Obj) (t : TypeId) (cs : Array Value) : Blk ((w.alloc o).alloc (.cells cs t)) (w.heap.size + 1) t cs := by simpa using Blk.new (w.alloc o) t cs
attribute [local go_sem] min2_int in
set_option maxRecDepth 100000 in
set_option maxHeartbeats 3200000 in
theorem pieces_any (A : Option Addr) (m c : Nat) (ss : List Int) (n : Int) (w : World) (h0 : 1 ≤ n) (h1 : n ≤ 300) (hr : Rds w 1 A m (inC ss)) (hl : ss.length = m) :
    Calls Try.prog 27 #[.int .i64 n, .slice A m c] w (PiecesP w n ss) := by
  obtain ⟨i0, hi0, hz0, hz1, hz2⟩ := info_parts info32
  obtain ⟨i3, hi3, hy0, hy1, hy2⟩ := info_parts info3
  have HR := Lib.hid hr
  have HL := Lib.hid hl
  clear hr hl
  go_enter Try.func27, Try.ntmps27
  go_wp2
  go_loopw [6, 7, 8, 9] (fun v6 v7 v8 v9 wr => ∃ gs : List Int, v8 = .int .i64 (tot gs) ∧ v9 = .int .i64 (gs.length : Nat) ∧ Hid (PI w n ss gs v6 v7 wr)) (fun _ _ v8 _ _ => (n - intOf v8).toNat)
  case atStart =>
    exact ⟨[], rfl, rfl, ⟨World.ownsRow_nil _ _ _ _, World.ownsRow_nil _ _ _ _, Only.refl _ _, by simp, by simp, by simp [tot]; omega⟩⟩
  case round =>
    obtain ⟨gs, rfl, rfl, hI⟩ := hrel
    have hle := hI.out.le
    have hgl := tot_len gs (fun g hg => (hI.out.size g hg).1)
    obtain ⟨t, ht⟩ : ∃ t, Hid (t = tot gs) := ⟨_, Lib.hid rfl⟩
    rw [← ht.out] at hle hgl
    by_cases hlt : t < n
    · by_cases hk : gs.length < m
      · have hk' : (gs.length : Int) < m := by omega
        obtain ⟨ad, rfl, hc⟩ := (HR.out.no hI.out.only).at_ (i := gs.length) (u := .int .i64 (ss[gs.length]'(by have := HL.out; omega))) (by omega) (by unfold inC; rw [List.getElem?_map, List.getElem?_eq_getElem (by have := HL.out; omega)]; rfl)
        generalize ss[gs.length]'(by have := HL.out; omega) = x at hc
        rw [← ht.out]
        have hr0 : 0 ≤ x % 8 := by omega
        have hr1 : x % 8 < 8 := by omega
        have hne : ss ≠ [] := by intro h; have := HL.out; rw [h] at this; simp at this; omega
        by_cases hmn : n - t < 1 + x % 8
        · obtain ⟨s, hs⟩ : ∃ s, Hid (s = n - t) := ⟨_, Lib.hid rfl⟩
          have htm : Int.tmod (t + s - 1) 8 = (t + s - 1) % 8 := Int.tmod_eq_emod_of_nonneg (by have := hs.out; omega)
          have hsz : Hid (1 ≤ s ∧ s ≤ 8 ∧ t + s ≤ n ∧ (ss = [] → s = 1)) := Lib.hid (by have := hs.out; exact ⟨by omega, by omega, by omega, fun h => absurd h hne⟩)
          have hs1 : 1 ≤ s := hsz.out.1
          have hs8 : s ≤ 8 := hsz.out.2.1
          have hsn : t + s ≤ n := hsz.out.2.2.1
          clear hne
          go_wp2_with (first | (go_at_call 26; refine (pick_any _ 8 _ (by omega) (by omega)).mono ?_; rintro e w' ⟨rfl, rfl⟩))
          rw [← hs.out]
          obtain ⟨wo, rfl⟩ : ∃ wo : World, wo = wr := ⟨_, rfl⟩
          have hl6 := hI.out.l
          rw [pcs_len] at hl6
          obtain ⟨A6, c6, rfl⟩ := own_slice hl6
          clear hl6
          have hlo : Hid ((ofs 0 gs).length ≤ 300) := Lib.hid (by have := ofs_len 0 gs (fun g hg => by have := (hI.out.size g hg).1; omega); have := ht.out; omega)
          go_loopw [7, 11] (fun v7 v11 wr => ∃ i : Nat, v11 = .int .i64 i ∧ (i : Int) ≤ s ∧ Hid (PJ w n gs i (.slice A6 gs.length c6) v7 wr)) (fun _ v11 _ => (s).toNat - (intOf v11).toNat)
          case atStart => exact ⟨0, rfl, by have := hsz.out; omega, ⟨hI.out.l, by simpa using hI.out.of, hI.out.only⟩⟩
          case round =>
            obtain ⟨i, rfl, hi, hJ⟩ := hrel
            by_cases hlt : (i : Int) < s
            · go_wp2_with (at_builtin; go_loud (refine Mm.wpList_append_any _ rfl (.tmp 38) (.tmp 41) _ rfl w.heap.size 3 i3 _ 1 8 Try.underlying39 hi3 hy0 hy1 hy2 rfl (by omega) _ _ (inC (ofs 0 gs ++ List.replicate i (gs.length : Int))) rfl (hJ.out.of.alloc _) (some ⟨wr.heap.size, 0, none⟩) 1 1 [.int .i64 gs.length] rfl (Rds.fresh (Blk.new _ _ _) rfl) (by simp [Value.oneCell']) (by simp only [maxLen, List.length_append, List.length_replicate]; have := hlo.out; have := hsz.out; omega) (by simp only [List.length_append, List.length_replicate]; have := hlo.out; have := hsz.out; omega) (by have := hJ.out.only.size; simp; omega) ?_); intro v6 w6 hown6 hon6 hat6)
              go_roundw
              case rel => exact ⟨i + 1, by go_num, by omega, ⟨own_only (hJ.out.l.alloc _) hon6 (fun k hk hg => own_ne hJ.out.l hJ.out.of (by decide) k hk hg), by
                have e : ofs 0 gs ++ List.replicate (i + 1) (gs.length : Int) = (ofs 0 gs ++ List.replicate i (gs.length : Int)) ++ [(gs.length : Int)] := by rw [List.replicate_succ', List.append_assoc]
                rw [e, inC_append, List.length_append]
                exact hown6, (hJ.out.only.alloc _).then hon6 (fun k hk => .inr (own_ge hJ.out.of k hk))⟩⟩
              case measure => have := hsz.out; simp [intOf]; omega
            · have his : (s).toNat = i := by omega
              have HIS := Lib.hid his
              clear his hi
              have hlg : Hid (wr.ownsRow w.heap.size 32 4 (.slice A6 gs.length c6) gs.length (pcC (pcs n 0 gs))) := Lib.hid (by have := hJ.out.l; rw [pcs_len] at this; exact this)
              by_cases hen : t + s = n
              · have hen2 := Lib.hid hen
                go_wp2_with (at_builtin; go_loud (refine Mm.wpList_append_any _ rfl (.tmp 56) (.tmp 58) _ rfl w.heap.size 32 i0 _ 4 32 Try.underlying22 hi0 hz0 hz1 hz2 rfl (by omega) _ _ (pcC (pcs n 0 gs)) rfl ((hlg.out.alloc _).alloc _) (some ⟨wr.heap.size + 1, 0, none⟩) 1 1 (pcC [⟨n, 0, -1, 0⟩]) rfl (Mm.Rds.fresh (blk_new2 _ _ _ _) rfl) (pcC_one _) (by simp only [maxLen]; omega) (by omega) (by have := hJ.out.only.size; simp; omega) ?_); intro v6 w6 hown6 hon6 hat6)
                go_roundw
                case rel => exact ⟨gs ++ [s], by rw [tot_snoc, ← ht.out]; rw [hen2.out], by rw [List.length_append]; rfl, hI.out.done s HIS.out hsz.out.1 hsz.out.2.1 (by rw [← ht.out]; exact hsz.out.2.2.1) (by intro he; first | exact hsz.out.2.2.2 he | rfl) (own_only ((hJ.out.of.alloc _).alloc _) hon6 (fun k hk hg => own_ne hJ.out.of hJ.out.l (by decide) k hk hg)) (by rw [← ht.out, if_pos hen2.out, hen2.out, pcs_len]; exact hown6) (((hJ.out.only.alloc _).alloc _).then hon6 (fun k hk => .inr (own_ge hJ.out.l k hk)))⟩
                case measure => have := hsz.out; simp [intOf]; omega
              · have hen2 := Lib.hid hen
                go_wp2_with (at_builtin; go_loud (refine Mm.wpList_append_any _ rfl (.tmp 56) (.tmp 58) _ rfl w.heap.size 32 i0 _ 4 32 Try.underlying22 hi0 hz0 hz1 hz2 rfl (by omega) _ _ (pcC (pcs n 0 gs)) rfl ((hlg.out.alloc _).alloc _) (some ⟨wr.heap.size + 1, 0, none⟩) 1 1 (pcC [⟨t + s, 0, (t + s - 1) % 8, 0⟩]) rfl (Mm.Rds.fresh (blk_new2 _ _ _ _) rfl) (pcC_one _) (by simp only [maxLen]; omega) (by omega) (by have := hJ.out.only.size; simp; omega) ?_); intro v6 w6 hown6 hon6 hat6)
                go_roundw
                case rel => exact ⟨gs ++ [s], by rw [tot_snoc, ← ht.out], by rw [List.length_append]; rfl, hI.out.done s HIS.out hsz.out.1 hsz.out.2.1 (by rw [← ht.out]; exact hsz.out.2.2.1) (by intro he; first | exact hsz.out.2.2.2 he | rfl) (own_only ((hJ.out.of.alloc _).alloc _) hon6 (fun k hk hg => own_ne hJ.out.of hJ.out.l (by decide) k hk hg)) (by rw [← ht.out, if_neg hen2.out, pcs_len]; exact hown6) (((hJ.out.only.alloc _).alloc _).then hon6 (fun k hk => .inr (own_ge hJ.out.l k hk)))⟩
                case measure => have := hsz.out; simp [intOf]; omega
        · obtain ⟨s, hs⟩ : ∃ s, Hid (s = 1 + x % 8) := ⟨_, Lib.hid rfl⟩
          have htm : Int.tmod (t + s - 1) 8 = (t + s - 1) % 8 := Int.tmod_eq_emod_of_nonneg (by have := hs.out; omega)
          have hsz : Hid (1 ≤ s ∧ s ≤ 8 ∧ t + s ≤ n ∧ (ss = [] → s = 1)) := Lib.hid (by have := hs.out; exact ⟨by omega, by omega, by omega, fun h => absurd h hne⟩)
          have hs1 : 1 ≤ s := hsz.out.1
          have hs8 : s ≤ 8 := hsz.out.2.1
          have hsn : t + s ≤ n := hsz.out.2.2.1
          clear hne
          go_wp2_with (first | (go_at_call 26; refine (pick_any _ 8 _ (by omega) (by omega)).mono ?_; rintro e w' ⟨rfl, rfl⟩))
          rw [← hs.out]
          obtain ⟨wo, rfl⟩ : ∃ wo : World, wo = wr := ⟨_, rfl⟩
          have hl6 := hI.out.l
          rw [pcs_len] at hl6
          obtain ⟨A6, c6, rfl⟩ := own_slice hl6
          clear hl6
          have hlo : Hid ((ofs 0 gs).length ≤ 300) := Lib.hid (by have := ofs_len 0 gs (fun g hg => by have := (hI.out.size g hg).1; omega); have := ht.out; omega)
          go_loopw [7, 11] (fun v7 v11 wr => ∃ i : Nat, v11 = .int .i64 i ∧ (i : Int) ≤ s ∧ Hid (PJ w n gs i (.slice A6 gs.length c6) v7 wr)) (fun _ v11 _ => (s).toNat - (intOf v11).toNat)
          case atStart => exact ⟨0, rfl, by have := hsz.out; omega, ⟨hI.out.l, by simpa using hI.out.of, hI.out.only⟩⟩
          case round =>
            obtain ⟨i, rfl, hi, hJ⟩ := hrel
            by_cases hlt : (i : Int) < s
            · go_wp2_with (at_builtin; go_loud (refine Mm.wpList_append_any _ rfl (.tmp 38) (.tmp 41) _ rfl w.heap.size 3 i3 _ 1 8 Try.underlying39 hi3 hy0 hy1 hy2 rfl (by omega) _ _ (inC (ofs 0 gs ++ List.replicate i (gs.length : Int))) rfl (hJ.out.of.alloc _) (some ⟨wr.heap.size, 0, none⟩) 1 1 [.int .i64 gs.length] rfl (Rds.fresh (Blk.new _ _ _) rfl) (by simp [Value.oneCell']) (by simp only [maxLen, List.length_append, List.length_replicate]; have := hlo.out; have := hsz.out; omega) (by simp only [List.length_append, List.length_replicate]; have := hlo.out; have := hsz.out; omega) (by have := hJ.out.only.size; simp; omega) ?_); intro v6 w6 hown6 hon6 hat6)
              go_roundw
              case rel => exact ⟨i + 1, by go_num, by omega, ⟨own_only (hJ.out.l.alloc _) hon6 (fun k hk hg => own_ne hJ.out.l hJ.out.of (by decide) k hk hg), by
                have e : ofs 0 gs ++ List.replicate (i + 1) (gs.length : Int) = (ofs 0 gs ++ List.replicate i (gs.length : Int)) ++ [(gs.length : Int)] := by rw [List.replicate_succ', List.append_assoc]
                rw [e, inC_append, List.length_append]
                exact hown6, (hJ.out.only.alloc _).then hon6 (fun k hk => .inr (own_ge hJ.out.of k hk))⟩⟩
              case measure => have := hsz.out; simp [intOf]; omega
            · have his : (s).toNat = i := by omega
              have HIS := Lib.hid his
              clear his hi
              have hlg : Hid (wr.ownsRow w.heap.size 32 4 (.slice A6 gs.length c6) gs.length (pcC (pcs n 0 gs))) := Lib.hid (by have := hJ.out.l; rw [pcs_len] at this; exact this)
              by_cases hen : t + s = n
              · have hen2 := Lib.hid hen
                go_wp2_with (at_builtin; go_loud (refine Mm.wpList_append_any _ rfl (.tmp 56) (.tmp 58) _ rfl w.heap.size 32 i0 _ 4 32 Try.underlying22 hi0 hz0 hz1 hz2 rfl (by omega) _ _ (pcC (pcs n 0 gs)) rfl ((hlg.out.alloc _).alloc _) (some ⟨wr.heap.size + 1, 0, none⟩) 1 1 (pcC [⟨n, 0, -1, 0⟩]) rfl (Mm.Rds.fresh (blk_new2 _ _ _ _) rfl) (pcC_one _) (by simp only [maxLen]; omega) (by omega) (by have := hJ.out.only.size; simp; omega) ?_); intro v6 w6 hown6 hon6 hat6)
                go_roundw
                case rel => exact ⟨gs ++ [s], by rw [tot_snoc, ← ht.out]; rw [hen2.out], by rw [List.length_append]; rfl, hI.out.done s HIS.out hsz.out.1 hsz.out.2.1 (by rw [← ht.out]; exact hsz.out.2.2.1) (by intro he; first | exact hsz.out.2.2.2 he | rfl) (own_only ((hJ.out.of.alloc _).alloc _) hon6 (fun k hk hg => own_ne hJ.out.of hJ.out.l (by decide) k hk hg)) (by rw [← ht.out, if_pos hen2.out, hen2.out, pcs_len]; exact hown6) (((hJ.out.only.alloc _).alloc _).then hon6 (fun k hk => .inr (own_ge hJ.out.l k hk)))⟩
                case measure => have := hsz.out; simp [intOf]; omega
              · have hen2 := Lib.hid hen
                go_wp2_with (at_builtin; go_loud (refine Mm.wpList_append_any _ rfl (.tmp 56) (.tmp 58) _ rfl w.heap.size 32 i0 _ 4 32 Try.underlying22 hi0 hz0 hz1 hz2 rfl (by omega) _ _ (pcC (pcs n 0 gs)) rfl ((hlg.out.alloc _).alloc _) (some ⟨wr.heap.size + 1, 0, none⟩) 1 1 (pcC [⟨t + s, 0, (t + s - 1) % 8, 0⟩]) rfl (Mm.Rds.fresh (blk_new2 _ _ _ _) rfl) (pcC_one _) (by simp only [maxLen]; omega) (by omega) (by have := hJ.out.only.size; simp; omega) ?_); intro v6 w6 hown6 hon6 hat6)
                go_roundw
                case rel => exact ⟨gs ++ [s], by rw [tot_snoc, ← ht.out], by rw [List.length_append]; rfl, hI.out.done s HIS.out hsz.out.1 hsz.out.2.1 (by rw [← ht.out]; exact hsz.out.2.2.1) (by intro he; first | exact hsz.out.2.2.2 he | rfl) (own_only ((hJ.out.of.alloc _).alloc _) hon6 (fun k hk hg => own_ne hJ.out.of hJ.out.l (by decide) k hk hg)) (by rw [← ht.out, if_neg hen2.out, pcs_len]; exact hown6) (((hJ.out.only.alloc _).alloc _).then hon6 (fun k hk => .inr (own_ge hJ.out.l k hk)))⟩
                case measure => have := hsz.out; simp [intOf]; omega
      · have hmn : ¬ n - t < 1 := by omega
        have htm : Int.tmod (t + 1 - 1) 8 = (t + 1 - 1) % 8 := Int.tmod_eq_emod_of_nonneg (by omega)
        have hsz : Hid ((1 : Int) ≤ 1 ∧ (1 : Int) ≤ 8 ∧ t + 1 ≤ n ∧ (ss = [] → (1 : Int) = 1)) := Lib.hid ⟨by omega, by omega, by omega, fun _ => rfl⟩
        rw [← ht.out]
        go_wp2
        obtain ⟨wo, rfl⟩ : ∃ wo : World, wo = wr := ⟨_, rfl⟩
        have hl6 := hI.out.l
        rw [pcs_len] at hl6
        obtain ⟨A6, c6, rfl⟩ := own_slice hl6
        clear hl6
        have hlo : Hid ((ofs 0 gs).length ≤ 300) := Lib.hid (by have := ofs_len 0 gs (fun g hg => by have := (hI.out.size g hg).1; omega); have := ht.out; omega)
        go_loopw [7, 11] (fun v7 v11 wr => ∃ i : Nat, v11 = .int .i64 i ∧ (i : Int) ≤ (1 : Int) ∧ Hid (PJ w n gs i (.slice A6 gs.length c6) v7 wr)) (fun _ v11 _ => ((1 : Int)).toNat - (intOf v11).toNat)
        case atStart => exact ⟨0, rfl, by have := hsz.out; omega, ⟨hI.out.l, by simpa using hI.out.of, hI.out.only⟩⟩
        case round =>
          obtain ⟨i, rfl, hi, hJ⟩ := hrel
          by_cases hlt : (i : Int) < (1 : Int)
          · go_wp2_with (at_builtin; go_loud (refine Mm.wpList_append_any _ rfl (.tmp 38) (.tmp 41) _ rfl w.heap.size 3 i3 _ 1 8 Try.underlying39 hi3 hy0 hy1 hy2 rfl (by omega) _ _ (inC (ofs 0 gs ++ List.replicate i (gs.length : Int))) rfl (hJ.out.of.alloc _) (some ⟨wr.heap.size, 0, none⟩) 1 1 [.int .i64 gs.length] rfl (Rds.fresh (Blk.new _ _ _) rfl) (by simp [Value.oneCell']) (by simp only [maxLen, List.length_append, List.length_replicate]; have := hlo.out; have := hsz.out; omega) (by simp only [List.length_append, List.length_replicate]; have := hlo.out; have := hsz.out; omega) (by have := hJ.out.only.size; simp; omega) ?_); intro v6 w6 hown6 hon6 hat6)
            go_roundw
            case rel => exact ⟨i + 1, by go_num, by omega, ⟨own_only (hJ.out.l.alloc _) hon6 (fun k hk hg => own_ne hJ.out.l hJ.out.of (by decide) k hk hg), by
              have e : ofs 0 gs ++ List.replicate (i + 1) (gs.length : Int) = (ofs 0 gs ++ List.replicate i (gs.length : Int)) ++ [(gs.length : Int)] := by rw [List.replicate_succ', List.append_assoc]
              rw [e, inC_append, List.length_append]
              exact hown6, (hJ.out.only.alloc _).then hon6 (fun k hk => .inr (own_ge hJ.out.of k hk))⟩⟩
            case measure => have := hsz.out; simp [intOf]; omega
          · have his : ((1 : Int)).toNat = i := by omega
            have HIS := Lib.hid his
            clear his hi
            have hlg : Hid (wr.ownsRow w.heap.size 32 4 (.slice A6 gs.length c6) gs.length (pcC (pcs n 0 gs))) := Lib.hid (by have := hJ.out.l; rw [pcs_len] at this; exact this)
            by_cases hen : t + (1 : Int) = n
            · have hen2 := Lib.hid hen
              go_wp2_with (at_builtin; go_loud (refine Mm.wpList_append_any _ rfl (.tmp 56) (.tmp 58) _ rfl w.heap.size 32 i0 _ 4 32 Try.underlying22 hi0 hz0 hz1 hz2 rfl (by omega) _ _ (pcC (pcs n 0 gs)) rfl ((hlg.out.alloc _).alloc _) (some ⟨wr.heap.size + 1, 0, none⟩) 1 1 (pcC [⟨n, 0, -1, 0⟩]) rfl (Mm.Rds.fresh (blk_new2 _ _ _ _) rfl) (pcC_one _) (by simp only [maxLen]; omega) (by omega) (by have := hJ.out.only.size; simp; omega) ?_); intro v6 w6 hown6 hon6 hat6)
              go_roundw
              case rel => exact ⟨gs ++ [(1 : Int)], by rw [tot_snoc, ← ht.out]; rw [hen2.out], by rw [List.length_append]; rfl, hI.out.done (1 : Int) HIS.out hsz.out.1 hsz.out.2.1 (by rw [← ht.out]; exact hsz.out.2.2.1) (by intro he; first | exact hsz.out.2.2.2 he | rfl) (own_only ((hJ.out.of.alloc _).alloc _) hon6 (fun k hk hg => own_ne hJ.out.of hJ.out.l (by decide) k hk hg)) (by rw [← ht.out, if_pos hen2.out, hen2.out, pcs_len]; exact hown6) (((hJ.out.only.alloc _).alloc _).then hon6 (fun k hk => .inr (own_ge hJ.out.l k hk)))⟩
              case measure => have := hsz.out; simp [intOf]; omega
            · have hen2 := Lib.hid hen
              go_wp2_with (at_builtin; go_loud (refine Mm.wpList_append_any _ rfl (.tmp 56) (.tmp 58) _ rfl w.heap.size 32 i0 _ 4 32 Try.underlying22 hi0 hz0 hz1 hz2 rfl (by omega) _ _ (pcC (pcs n 0 gs)) rfl ((hlg.out.alloc _).alloc _) (some ⟨wr.heap.size + 1, 0, none⟩) 1 1 (pcC [⟨t + (1 : Int), 0, t % 8, 0⟩]) rfl (Mm.Rds.fresh (blk_new2 _ _ _ _) rfl) (pcC_one _) (by simp only [maxLen]; omega) (by omega) (by have := hJ.out.only.size; simp; omega) ?_); intro v6 w6 hown6 hon6 hat6)
              go_roundw
              case rel => exact ⟨gs ++ [(1 : Int)], by rw [tot_snoc, ← ht.out], by rw [List.length_append]; rfl, hI.out.done (1 : Int) HIS.out hsz.out.1 hsz.out.2.1 (by rw [← ht.out]; exact hsz.out.2.2.1) (by intro he; first | exact hsz.out.2.2.2 he | rfl) (own_only ((hJ.out.of.alloc _).alloc _) hon6 (fun k hk hg => own_ne hJ.out.of hJ.out.l (by decide) k hk hg)) (by rw [← ht.out, if_neg hen2.out, Int.add_sub_cancel, pcs_len]; exact hown6) (((hJ.out.only.alloc _).alloc _).then hon6 (fun k hk => .inr (own_ge hJ.out.l k hk)))⟩
              case measure => have := hsz.out; simp [intOf]; omega
    · have hk' : tot gs = n := by have := ht.out; omega
      rw [← ht.out]
      go_wp2
      go_ret2
      exact ⟨gs, _, _, rfl, hI.out, hk'⟩

end Go.Proofs.Ytdbidojncboalaa.Ct
