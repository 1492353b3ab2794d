/- Maps of damage: All, the iterator over what is flagged. -/
import Derived.Test.YtclidonogebgkaaDd
import Derived.RangeFuncNested
import Derived.RangeFuncBound
import Derived.RangeFuncCalls
import Derived.RangeFuncLeaves
import Derived.Shelf.Abstract
import Derived.Shelf.RegionOpen
import Derived.OwnWalkIn
import Derived.TacticsInMore
import Derived.LoopNIn
import Derived.LoopIn
import Derived.RegionIn
import Derived.Stop.RegionWithIn
namespace Go.Proofs.Ytclidonogebgkaa.Ct
open Go.ChangeShapes Go.WideShapes Go.RowKit Mm
attribute [local go_sem] Oper.semAt_some
theorem none_fn {F : Fence} {X : Prop} : ((∀ f : FuncId, none = some f → F.fn f) ∧ X) = X := by simp
attribute [local go_sem] none_fn
/-- some blocks lie as they lay -/
def KpB (T : Nat → Prop) (W W' : World) : Prop := ∀ k, T k → W'.heap[k]? = W.heap[k]?
theorem KpB.refl (T : Nat → Prop) (W : World) : KpB T W W := fun _ _ => rfl
theorem KpB.trans {T : Nat → Prop} {A B C : World} (h : KpB T A B) (k : KpB T B C) : KpB T A C := fun i hi => (k i hi).trans (h i hi)
theorem KpB.only {T S : Nat → Prop} {A B : World} (h : Only S A B) (hT : ∀ k, T k → k < A.heap.size ∧ ¬ S k) : KpB T A B := fun k hk => h.block k (hT k hk).1 (hT k hk).2
theorem KpB.book {T : Nat → Prop} {w : World} (hT : ∀ k, T k → k < w.heap.size) (W : World) (l : Nat) (o o' : Obj) (hl : w.heap.size ≤ l) (_ : W.heap[l]? = some o) (_ : o.isCells = false) (_ : o.isWalk = false) : KpB T W (W.putObj l o') := fun k hk =>
  World.putObj_heap_other (by have := hT k hk; omega)
theorem KpB.cell {T : Nat → Prop} {A B : World} (h : KpB T A B) {a : Addr} (ha : T a.block) : B.cell? a = A.cell? a := World.cell?_of_block (h a.block ha)
/-- what comes of the first k places -/
def upF (l : List Bool) : Nat → List { i : Nat // i < l.length }
  | 0 => []
  | k + 1 => if h : k < l.length then (if l.getD k false then upF l k ++ [⟨k, h⟩] else upF l k) else upF l k
theorem upF_len (l : List Bool) (k : Nat) : (upF l k).length ≤ k := by
  induction k with
  | zero => simp [upF]
  | succ k ih =>
    unfold upF
    split
    · split
      · simp; omega
      · omega
    · omega
def encP (W : Nat) (l : List Bool) (x : { i : Nat // i < l.length }) : Array Value := #[.int .i64 ((x.1 % W : Nat) : Int), .int .i64 ((x.1 / W : Nat) : Int)]
set_option maxRecDepth 100000 in
set_option maxHeartbeats 2000000 in
theorem all34_in (n : Nat) (hn : 1 ≤ n) (y g3 g4 : Nat) (A : Option Addr) (c W : Nat) (l : List Bool) (hlen : l.length ≤ 67108864) (hW : 0 < l.length → 0 < W) (hW8 : W ≤ 8192)
    (J Jx : List { i : Nat // i < l.length } → World → Prop)
    (hY : ∀ pre x W1, J pre W1 → pre.length < l.length → YieldAt Fence.wide (n - 1) Try.prog y (encP W l x) W1 fun e W' =>
      (e = .returned (.bool true) ∧ J (pre ++ [x]) W' ∧ KpB (fun k => k = g3 ∨ k = g4 ∨ ∃ ad, A = some ad ∧ ad.block = k) W1 W') ∨ (e = .returned (.bool false) ∧ Jx (pre ++ [x]) W'))
    (w : World) (hJ0 : AbidesFrom w.heap.size J) (b3 : Blk w g3 3 #[.int .i64 W]) (b4 : Blk w g4 22 #[.slice A l.length c]) (hr : Rds w 1 A l.length (boC l)) (h0 : J [] w) :
    CallsIn Fence.wide n Try.prog 34 #[.func (.yield y) #[] #[], .pointer (some ⟨g4, 0, none⟩), .pointer (some ⟨g3, 0, none⟩)] w fun e W' => (∃ v, e = .returned v) ∧
      ((∃ ys, ys = upF l l.length ∧ J ys W') ∨ (∃ pre, (∃ k, k ≤ l.length ∧ pre = upF l k) ∧ Jx pre W')) := by
  have c4 := b4.cell 0
  simp only [List.getElem?_toArray, List.getElem?_cons_zero] at c4
  refine callsIn_of_wp Try.func34 rfl trivial ?_ rfl
  simp only [Try.ntmps34, List.size_toArray, List.length_cons, List.length_nil, Nat.reduceAdd, Nat.reduceSub, Array.replicate_succ, Array.replicate_zero, List.push_toArray, List.append_toArray, List.nil_append, List.cons_append]
  have HR := Lib.hid hr
  have B3 := Lib.hid b3
  have B4 := Lib.hid b4
  have HY := Lib.hid hY
  have HJ0 := Lib.hid hJ0
  clear hr b3 b4 hY hJ0
  gi_wp2
  gi_loopw [8] (fun i wr => ∃ k : Nat, k ≤ l.length ∧ i = .int .i64 k ∧ Hid (J (upF l k) wr ∧ KpB (fun k => k = g3 ∨ k = g4 ∨ ∃ ad, A = some ad ∧ ad.block = k) w wr)) (fun i _ => l.length - (intOf i).toNat)
  case atStart => exact ⟨0, Nat.zero_le _, rfl, Lib.hid ⟨h0, KpB.refl _ _⟩⟩
  case round =>
    obtain ⟨k, hk, rfl, hI⟩ := hrel
    by_cases hlt : k < l.length
    · obtain ⟨ad, rfl, q1⟩ := HR.out.at_ (i := k) (by omega) (boC_get hlt)
      have q2 : wr.cell? (ad.add k) = some (.bool (l.getD k false)) := (hI.out.2.cell (a := ad.add k) (.inr (.inr ⟨ad, rfl, (Mm.block_add ad k).symm⟩))).trans q1
      have hup : upF l (k + 1) = if l.getD k false then upF l k ++ [⟨k, hlt⟩] else upF l k := by
        show (if h : k < l.length then (if l.getD k false then upF l k ++ [⟨k, h⟩] else upF l k) else upF l k) = _
        rw [dif_pos hlt]
      replace hup := Lib.hid hup
      clear q1
      generalize hb : l.getD k false = b at *
      have hdr : wr.grownBy wr.drew none := ⟨rfl, rfl, rfl, Nat.le_refl _, fun _ _ _ => rfl⟩
      have hJd := Lib.hid (HJ0.out _ _ _ none hI.out.1 hdr (fun r e => by cases e))
      clear hdr
      have hKd : Hid (KpB (fun k => k = g3 ∨ k = g4 ∨ ∃ ad', some ad = some ad' ∧ ad'.block = k) w wr.drew) := hI.out.2
      cases b
      · gi_wp2
        refine wpIn_region_any (by kernel_rfl) ?_
        change wpAnyIn _ _ _ _ _ _ _ _ _ (World.drew _)
        refine wpAnyIn_take (i := 0) (v := .bool false) rfl rfl (by kernel_rfl) (by kernel_rfl) (by kernel_rfl) (fun _ _ _ h => h) ?h6 ?_
        case h6 =>
          refine ⟨Or.inl ⟨?_, fun w => ?_⟩, fun _ => ?_⟩
          · rfl
          · go_simp
          · rfl
        try go_simp
        refine wpAnyIn_take (i := 1) (v := .bool false) rfl rfl (by kernel_rfl) (by kernel_rfl) (by kernel_rfl) (fun _ _ _ h => h) ?h6 ?_
        case h6 =>
          refine ⟨Or.inl ⟨?_, fun w => ?_⟩, fun _ => ?_⟩
          · rfl
          · go_simp
          · rfl
        try go_simp
        refine wpAnyIn_take (i := 2) (v := undef) rfl rfl (by kernel_rfl) (by kernel_rfl) (by kernel_rfl) (fun _ _ _ h => h) ?h6 ?_
        case h6 =>
          refine ⟨Or.inr ⟨?_, rfl⟩, fun _ => ?_⟩
          · rfl
          · rfl
        try go_simp
        refine wpAnyIn_take (i := 3) (v := undef) rfl rfl (by kernel_rfl) (by kernel_rfl) (by kernel_rfl) (fun _ _ _ h => h) ?h6 ?_
        case h6 =>
          refine ⟨Or.inr ⟨?_, rfl⟩, fun _ => ?_⟩
          · rfl
          · rfl
        try go_simp
        refine wpAnyIn_take (i := 4) (v := undef) rfl rfl (by kernel_rfl) (by kernel_rfl) (by kernel_rfl) (fun _ _ _ h => h) ?h6 ?_
        case h6 =>
          refine ⟨Or.inr ⟨?_, rfl⟩, fun _ => ?_⟩
          · rfl
          · rfl
        try go_simp
        refine wpAnyIn_take (i := 5) (v := undef) rfl rfl (by kernel_rfl) (by kernel_rfl) (by kernel_rfl) (fun _ _ _ h => h) ?h6 ?_
        case h6 =>
          refine ⟨Or.inr ⟨?_, rfl⟩, fun _ => ?_⟩
          · rfl
          · rfl
        try go_simp
        refine wpAnyIn_take (i := 6) (v := undef) rfl rfl (by kernel_rfl) (by kernel_rfl) (by kernel_rfl) (fun _ _ _ h => h) ?h6 ?_
        case h6 =>
          refine ⟨Or.inr ⟨?_, rfl⟩, fun _ => ?_⟩
          · rfl
          · rfl
        try go_simp
        refine wpAnyIn_take (i := 7) (v := undef) rfl rfl (by kernel_rfl) (by kernel_rfl) (by kernel_rfl) (fun _ _ _ h => h) ?h6 ?_
        case h6 =>
          refine ⟨Or.inr ⟨?_, rfl⟩, fun _ => ?_⟩
          · rfl
          · rfl
        try go_simp
        refine wpAnyIn_take (i := 8) (v := undef) rfl rfl (by kernel_rfl) (by kernel_rfl) (by kernel_rfl) (fun _ _ _ h => h) ?h6 ?_
        case h6 =>
          refine ⟨Or.inr ⟨?_, rfl⟩, fun _ => ?_⟩
          · rfl
          · rfl
        try go_simp
        refine wpAnyIn_take (i := 9) (v := undef) rfl rfl (by kernel_rfl) (by kernel_rfl) (by kernel_rfl) (fun _ _ _ h => h) ?h6 ?_
        case h6 =>
          refine ⟨Or.inr ⟨?_, rfl⟩, fun _ => ?_⟩
          · rfl
          · rfl
        try go_simp
        refine wpAnyIn_take (i := 10) (v := undef) rfl rfl (by kernel_rfl) (by kernel_rfl) (by kernel_rfl) (fun _ _ _ h => h) ?h6 ?_
        case h6 =>
          refine ⟨Or.inr ⟨?_, rfl⟩, fun _ => ?_⟩
          · rfl
          · rfl
        try go_simp
        refine wpAnyIn_take (i := 11) (v := .bool false) rfl rfl (by kernel_rfl) (by kernel_rfl) (by kernel_rfl) (fun _ _ _ h => h) ?h6 ?_
        case h6 =>
          refine ⟨Or.inl ⟨?_, fun w => ?_⟩, fun _ => ?_⟩
          · rfl
          · go_simp
          · rfl
        try go_simp
        refine wpAnyIn_done (by kernel_rfl) ?_ _
        gi_wp2
        go_roundw
        case rel => exact ⟨k + 1, by omega, by go_num, Lib.hid ⟨by rw [hup.out]; exact hJd.out, hKd.out⟩⟩
        case measure => simp [intOf]; omega
      · obtain ⟨fn, tmps, assign, body, hy, hR⟩ := (HY.out _ ⟨k, hlt⟩ wr.drew hJd.out (by have := upF_len l k; omega)).mono (R' := fun e W' => ∃ b : Bool, e = .returned (.bool b) ∧ Hid ((b = true → J (upF l k ++ [⟨k, hlt⟩]) W' ∧ KpB (fun k => k = g3 ∨ k = g4 ∨ ∃ ad', some ad = some ad' ∧ ad'.block = k) wr.drew W') ∧ (b = false → Jx (upF l k ++ [⟨k, hlt⟩]) W'))) (by
          rintro e W' (⟨he, h1, h2⟩ | ⟨he, h1⟩)
          · exact ⟨true, he, Lib.hid ⟨fun _ => ⟨h1, h2⟩, fun h => (by cases h)⟩⟩
          · exact ⟨false, he, Lib.hid ⟨fun h => (by cases h), fun _ => h1⟩⟩)
        unfold encP at hy
        dsimp only at hy
        have hW0 := hW (by omega)
        have hX : (k : Int).tmod (W : Int) = ((k % W : Nat) : Int) := by rw [Int.tmod_eq_emod_of_nonneg (by omega)]; push_cast; rfl
        have hD : (k : Int).tdiv (W : Int) = ((k / W : Nat) : Int) := by rw [Int.tdiv_eq_ediv_of_nonneg (by omega)]; push_cast; rfl
        have hdl := Nat.div_le_self k W
        have hz3 : ¬ W = 0 := by omega
        have hz : ¬ (W : Int) = 0 := by omega
        have hz2 : ((W : Int) == 0) = false := by simp; omega
        generalize k % W = X at *
        generalize k / W = D at *
        have hDw : IntKind.i64.wrap (D : Int) = (D : Int) := IntWalk.i64_in _ (by omega)
        have c3 : wr.cell? ⟨g3, 0, none⟩ = some (.int .i64 W) := (hI.out.2.cell (a := ⟨g3, 0, none⟩) (.inl rfl)).trans (by have := B3.out.cell 0; simpa using this)
        gi_wp2
        refine wpIn_region_any (by kernel_rfl) ?_
        change wpAnyIn _ _ _ _ _ _ _ _ _ (World.drew _)
        refine wpAnyIn_take (i := 0) (v := .bool true) rfl rfl (by kernel_rfl) (by kernel_rfl) (by kernel_rfl) (fun _ _ _ h => h) ?h6 ?_
        case h6 =>
          refine ⟨Or.inl ⟨?_, fun w => ?_⟩, fun _ => ?_⟩
          · rfl
          · go_simp
          · rfl
        try go_simp
        refine wpAnyIn_take (i := 1) (v := .bool true) rfl rfl (by kernel_rfl) (by kernel_rfl) (by kernel_rfl) (fun _ _ _ h => h) ?h6 ?_
        case h6 =>
          refine ⟨Or.inl ⟨?_, fun w => ?_⟩, fun _ => ?_⟩
          · rfl
          · go_simp
          · rfl
        try go_simp
        refine wpAnyIn_take (i := 2) (v := .func (.yield y) #[] #[]) rfl rfl (by kernel_rfl) (by kernel_rfl) (by kernel_rfl) (fun _ _ _ h => h) ?h6 ?_
        case h6 =>
          refine ⟨Or.inl ⟨?_, fun w => ?_⟩, fun _ => ?_⟩
          · rfl
          · go_simp
          · rfl
        try go_simp
        refine wpAnyIn_take (i := 3) (v := .int .i64 k) rfl rfl (by kernel_rfl) (by kernel_rfl) (by kernel_rfl) (fun _ _ _ h => h) ?h6 ?_
        case h6 =>
          refine ⟨Or.inl ⟨?_, fun w => ?_⟩, fun _ => ?_⟩
          · rfl
          · go_simp
          · rfl
        try go_simp
        refine wpAnyIn_take (i := 6) (v := .int .i64 k) rfl rfl (by kernel_rfl) (by kernel_rfl) (by kernel_rfl) (fun _ _ _ h => h) ?h6 ?_
        case h6 =>
          refine ⟨Or.inl ⟨?_, fun w => ?_⟩, fun _ => ?_⟩
          · rfl
          · go_simp
          · rfl
        try go_simp
        refine wpAnyIn_ready (rs := [4, 7]) (by kernel_rfl) (by simp) (AllReadyIn.cons rfl (fun K hK => ?_) (AllReadyIn.cons rfl (fun K hK => ?_) AllReadyIn.nil))
        · go_simp
          refine hK _ _ ?_
          clear hK K
          try go_simp
          refine wpAnyIn_take (i := 5) (v := .int .i64 X) rfl rfl (by kernel_rfl) (by kernel_rfl) (by kernel_rfl) (fun _ _ _ h => h) ?h6 ?_
          case h6 =>
            refine ⟨Or.inl ⟨?_, fun w => ?_⟩, fun _ => ?_⟩
            · rfl
            · go_simp
            · rfl
          try go_simp
          refine wpAnyIn_ready (rs := [7]) (by kernel_rfl) (by simp) (AllReadyIn.cons rfl (fun K hK => ?_) AllReadyIn.nil)
          go_simp
          refine hK _ _ ?_
          clear hK K
          try go_simp
          refine wpAnyIn_take (i := 8) (v := .int .i64 D) rfl rfl (by kernel_rfl) (by kernel_rfl) (by kernel_rfl) (fun _ _ _ h => h) ?h6 ?_
          case h6 =>
            refine ⟨Or.inl ⟨?_, fun w => ?_⟩, fun _ => ?_⟩
            · rfl
            · go_simp
            · rfl
          try go_simp
          refine wpAnyIn_ready (rs := [9]) (by kernel_rfl) (by simp) (AllReadyIn.cons rfl (fun K hK => ?_) AllReadyIn.nil)
          go_simp
          refine hR.mono ?_
          rintro e W3 ⟨b, rfl, hb3⟩
          refine hK _ _ ?_
          clear hK K
          try go_simp
          cases b
          · refine wpAnyIn_take (i := 10) (v := .bool true) rfl rfl (by kernel_rfl) (by kernel_rfl) (by kernel_rfl) (fun _ _ _ h => h) ?h6 ?_
            case h6 =>
              refine ⟨Or.inl ⟨?_, fun w => ?_⟩, fun _ => ?_⟩
              · rfl
              · go_simp
              · rfl
            try go_simp
            refine wpAnyIn_take (i := 11) (v := .bool true) rfl rfl (by kernel_rfl) (by kernel_rfl) (by kernel_rfl) (fun _ _ _ h => h) ?h6 ?_
            case h6 =>
              refine ⟨Or.inl ⟨?_, fun w => ?_⟩, fun _ => ?_⟩
              · rfl
              · go_simp
              · rfl
            try go_simp
            refine wpAnyIn_done (by kernel_rfl) ?_ _
            gi_wp2
            refine bodyPost_ret (results_none rfl _ _ _) rfl ?_
            exact ⟨⟨_, rfl⟩, .inr ⟨_, ⟨k + 1, by omega, by rw [hup.out]; rfl⟩, hb3.out.2 trivial⟩⟩
          · refine wpAnyIn_take (i := 10) (v := .bool false) rfl rfl (by kernel_rfl) (by kernel_rfl) (by kernel_rfl) (fun _ _ _ h => h) ?h6 ?_
            case h6 =>
              refine ⟨Or.inl ⟨?_, fun w => ?_⟩, fun _ => ?_⟩
              · rfl
              · go_simp
              · rfl
            try go_simp
            refine wpAnyIn_take (i := 11) (v := .bool false) rfl rfl (by kernel_rfl) (by kernel_rfl) (by kernel_rfl) (fun _ _ _ h => h) ?h6 ?_
            case h6 =>
              refine ⟨Or.inl ⟨?_, fun w => ?_⟩, fun _ => ?_⟩
              · rfl
              · go_simp
              · rfl
            try go_simp
            refine wpAnyIn_done (by kernel_rfl) ?_ _
            gi_wp2
            go_roundw
            case rel => exact ⟨k + 1, by omega, by go_num, Lib.hid ⟨by rw [hup.out]; exact (hb3.out.1 rfl).1, hKd.out.trans (hb3.out.1 rfl).2⟩⟩
            case measure => simp [intOf]; omega
        · go_simp
          refine hK _ _ ?_
          clear hK K
          try go_simp
          refine wpAnyIn_take (i := 8) (v := .int .i64 D) rfl rfl (by kernel_rfl) (by kernel_rfl) (by kernel_rfl) (fun _ _ _ h => h) ?h6 ?_
          case h6 =>
            refine ⟨Or.inl ⟨?_, fun w => ?_⟩, fun _ => ?_⟩
            · rfl
            · go_simp
            · rfl
          try go_simp
          refine wpAnyIn_ready (rs := [4]) (by kernel_rfl) (by simp) (AllReadyIn.cons rfl (fun K hK => ?_) AllReadyIn.nil)
          go_simp
          refine hK _ _ ?_
          clear hK K
          try go_simp
          refine wpAnyIn_take (i := 5) (v := .int .i64 X) rfl rfl (by kernel_rfl) (by kernel_rfl) (by kernel_rfl) (fun _ _ _ h => h) ?h6 ?_
          case h6 =>
            refine ⟨Or.inl ⟨?_, fun w => ?_⟩, fun _ => ?_⟩
            · rfl
            · go_simp
            · rfl
          try go_simp
          refine wpAnyIn_ready (rs := [9]) (by kernel_rfl) (by simp) (AllReadyIn.cons rfl (fun K hK => ?_) AllReadyIn.nil)
          go_simp
          refine hR.mono ?_
          rintro e W3 ⟨b, rfl, hb3⟩
          refine hK _ _ ?_
          clear hK K
          try go_simp
          cases b
          · refine wpAnyIn_take (i := 10) (v := .bool true) rfl rfl (by kernel_rfl) (by kernel_rfl) (by kernel_rfl) (fun _ _ _ h => h) ?h6 ?_
            case h6 =>
              refine ⟨Or.inl ⟨?_, fun w => ?_⟩, fun _ => ?_⟩
              · rfl
              · go_simp
              · rfl
            try go_simp
            refine wpAnyIn_take (i := 11) (v := .bool true) rfl rfl (by kernel_rfl) (by kernel_rfl) (by kernel_rfl) (fun _ _ _ h => h) ?h6 ?_
            case h6 =>
              refine ⟨Or.inl ⟨?_, fun w => ?_⟩, fun _ => ?_⟩
              · rfl
              · go_simp
              · rfl
            try go_simp
            refine wpAnyIn_done (by kernel_rfl) ?_ _
            gi_wp2
            refine bodyPost_ret (results_none rfl _ _ _) rfl ?_
            exact ⟨⟨_, rfl⟩, .inr ⟨_, ⟨k + 1, by omega, by rw [hup.out]; rfl⟩, hb3.out.2 trivial⟩⟩
          · refine wpAnyIn_take (i := 10) (v := .bool false) rfl rfl (by kernel_rfl) (by kernel_rfl) (by kernel_rfl) (fun _ _ _ h => h) ?h6 ?_
            case h6 =>
              refine ⟨Or.inl ⟨?_, fun w => ?_⟩, fun _ => ?_⟩
              · rfl
              · go_simp
              · rfl
            try go_simp
            refine wpAnyIn_take (i := 11) (v := .bool false) rfl rfl (by kernel_rfl) (by kernel_rfl) (by kernel_rfl) (fun _ _ _ h => h) ?h6 ?_
            case h6 =>
              refine ⟨Or.inl ⟨?_, fun w => ?_⟩, fun _ => ?_⟩
              · rfl
              · go_simp
              · rfl
            try go_simp
            refine wpAnyIn_done (by kernel_rfl) ?_ _
            gi_wp2
            go_roundw
            case rel => exact ⟨k + 1, by omega, by go_num, Lib.hid ⟨by rw [hup.out]; exact (hb3.out.1 rfl).1, hKd.out.trans (hb3.out.1 rfl).2⟩⟩
            case measure => simp [intOf]; omega
    · obtain rfl : k = l.length := by omega
      gi_wp2
      go_end0
      exact ⟨⟨_, rfl⟩, .inl ⟨_, rfl, hI.out.1⟩⟩
end Go.Proofs.Ytclidonogebgkaa.Ct
