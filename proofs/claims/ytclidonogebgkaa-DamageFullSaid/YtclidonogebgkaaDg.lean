/- Maps of damage: two joined. -/
import Derived.Test.YtclidonogebgkaaDf
import Derived.RangeFuncWrites
namespace Go.Proofs.Ytclidonogebgkaa.Ct
open Go.ChangeShapes Go.WideShapes Go.RowKit Go.Shelf Mm
attribute [local go_sem] Oper.semAt_some
def setAll (l : List Bool) {n : Nat} (ys : List { i : Nat // i < n }) : List Bool := ys.foldl (fun m x => m.set x.1 true) l
theorem setAll_snoc (l : List Bool) {n : Nat} (ys : List { i : Nat // i < n }) (x : { i : Nat // i < n }) : setAll l (ys ++ [x]) = (setAll l ys).set x.1 true := by simp [setAll]
theorem setAll_len {n : Nat} (l : List Bool) (ys : List { i : Nat // i < n }) : (setAll l ys).length = l.length := by
  induction ys generalizing l with
  | nil => rfl
  | cons x ys ih => exact (ih (l.set x.1 true)).trans (List.length_set ..)
theorem upF_succ (l : List Bool) {k : Nat} (h : k < l.length) : upF l (k + 1) = if l.getD k false then upF l k ++ [⟨k, h⟩] else upF l k := by
  show (if h : k < l.length then (if l.getD k false then upF l k ++ [⟨k, h⟩] else upF l k) else upF l k) = _
  rw [dif_pos h]
theorem setAll_upF (l l2 : List Bool) (k : Nat) (hk : k ≤ l2.length) (i : Nat) (hi : i < l.length) :
    (setAll l (upF l2 k)).getD i false = (l.getD i false || (decide (i < k) && l2.getD i false)) := by
  induction k with
  | zero => simp [upF, setAll]
  | succ k ih =>
    have ih := ih (by omega)
    rw [upF_succ l2 (by omega)]
    cases hb : l2.getD k false
    · rw [if_neg (by simp), ih]
      by_cases h1 : i = k
      · subst h1
        rw [hb]
        simp
      · by_cases h2 : i < k
        · simp [h2, show i < k + 1 by omega]
        · simp [h2, show ¬ i < k + 1 by omega]
    · rw [if_pos rfl, setAll_snoc]
      by_cases h1 : i = k
      · subst h1
        have : i < (setAll l (upF l2 i)).length := by rw [setAll_len]; exact hi
        rw [hb]
        simp [this]
      · have : ((setAll l (upF l2 k)).set k true).getD i false = (setAll l (upF l2 k)).getD i false := by
          simp [show ¬ k = i by omega]
        rw [this, ih]
        by_cases h2 : i < k
        · simp [h2, show i < k + 1 by omega]
        · simp [h2, show ¬ i < k + 1 by omega]
/-- one of them has it -/
def orL (l l2 : List Bool) : List Bool := List.zipWith (fun a b => a || b) l l2
theorem orL_len (l l2 : List Bool) (h : l.length = l2.length) : (orL l l2).length = l.length := by simp [orL, h]
theorem setAll_or (l l2 : List Bool) (hl : l.length = l2.length) : setAll l (upF l2 l2.length) = orL l l2 := by
  refine List.ext_getElem (by rw [setAll_len, orL_len _ _ hl]) fun i h1 h2 => ?_
  rw [setAll_len] at h1
  have h := setAll_upF l l2 l2.length (Nat.le_refl _) i h1
  have e1 : (setAll l (upF l2 l2.length)).getD i false = (setAll l (upF l2 l2.length))[i]'(by rw [setAll_len]; exact h1) := by
    have h9 : i < (setAll l (upF l2 l2.length)).length := by rw [setAll_len]; exact h1
    simp [h9]
  rw [e1] at h
  rw [h]
  have h3 : i < l2.length := by omega
  simp [orL, h1, h3]
/-- the blocks of an iterator -/
def Tq (g3 g4 : Nat) (A : Option Addr) : Nat → Prop := fun k => k = g3 ∨ k = g4 ∨ ∃ ad, A = some ad ∧ ad.block = k
theorem all34_stops (n : Nat) (hn : 1 ≤ n) (g3 g4 : Nat) (A : Option Addr) (c W : Nat) (l : List Bool) (hlen : l.length ≤ 67108864) (hW : 0 < l.length → 0 < W) (hW8 : W ≤ 8192) (w : World)
    (b3 : Blk w g3 3 #[.int .i64 W]) (b4 : Blk w g4 22 #[.slice A l.length c]) (hr : Rds w 1 A l.length (boC l)) :
    SeqStopsK Fence.wide n Try.prog 34 #[P g4, P g3] (encP W l) (KpB (Tq g3 g4 A)) (fun ys => ys = upF l l.length) (fun pre => ∃ k, k ≤ l.length ∧ pre = upF l k) l.length w :=
  fun y J Jx W' hb hJ _ hY h0 =>
    have o : Only No w W' := Only.of_below hb
    all34_in n hn y g3 g4 A c W l hlen hW hW8 J Jx hY W' hJ (b3.only o id) (b4.only o id) (hr.no o) h0
/-- what joining is under way -/
def JI (w0 : World) (B b g : Nat) (A : Option Addr) (c W H : Nat) (l : List Bool) {n : Nat} (ys : List { i : Nat // i < n }) (V : World) : Prop :=
  Hid (MapAt V g A c W H (setAll l ys) ∧ Only (Sm g A) w0 V ∧ Blk V b 24 #[P g] ∧ B ≤ V.heap.size)
theorem JI.own {w0 : World} {b g B : Nat} {A : Option Addr} {c W H : Nat} {l : List Bool} {n : Nat} (hB : w0.heap.size ≤ B) (hS : ∀ k, Sm g A k → k < w0.heap.size) (hb : b < B) :
    OwnFrom B (JI w0 B b g A c W H l (n := n)) := by
  rintro ys V V' row ⟨hm, ho, hbk, hsz⟩ hg hr
  have o := Only.of_grown hg
  refine ⟨hm.only o fun k hk e => ?_, ho.then o fun i hi => ?_, hbk.only o fun e => ?_, Nat.le_trans hsz o.size⟩
  · have := hS k hk
    have := (hr k e).1
    omega
  · exact .inr (Nat.le_trans hB (hr i hi).1)
  · have := (hr b e).1
    omega
set_option maxRecDepth 100000 in
set_option maxHeartbeats 2000000 in
theorem join19 {w : World} {g : Nat} {A : Option Addr} {c W H : Nat} {l : List Bool} (h : MapAt w g A c W H l) {g2 : Nat} {A2 : Option Addr} {c2 : Nat} {l2 : List Bool} (h2 : MapAt w g2 A2 c2 W H l2) :
    Calls Try.prog 19 #[P g, P g2] w fun e w' => e = .returned (.bool true) ∧ MapAt w' g A c W H (orL l l2) ∧ Only (Sm g A) w w' := by
  refine (callsIn_wide (n := 3)).1 ?_
  refine callsIn_of_wp_marks Try.func19 rfl trivial ?_ rfl
  simp only [Try.ntmps19, List.size_toArray, List.length_cons, List.length_nil, Nat.reduceAdd, Nat.reduceSub, Array.replicate_succ, Array.replicate_zero, List.push_toArray, List.append_toArray, List.nil_append, List.cons_append]
  obtain ⟨x0, x1, x2, x3⟩ := (h.no ((Only.refl No w).alloc (.cells #[P g] 24))).cells
  obtain ⟨y0, y1, y2, y3⟩ := (h2.no ((Only.refl No w).alloc (.cells #[P g] 24))).cells
  have hl := h.blk.lt
  have hl2 := h2.blk.lt
  have b0 : Blk (w.alloc (.cells #[P g] 24)) w.heap.size 24 #[P g] := Blk.new w 24 _
  have z0 := b0.cell 0
  simp only [List.getElem?_toArray, List.getElem?_cons_zero] at z0
  have H1 := Lib.hid h
  have H2 := Lib.hid h2
  clear h h2
  gi_wp2_with fail
  gi_region
  gi_wp2_with (refine ⟨trivial, ?_⟩; gi_at_call 21; (with_reducible refine (callsIn_wide.2 (all21 (H2.out.no (by repeat (first | exact Only.refl _ _ | refine Only.drew ?_ | refine Only.drewN ?_ _ | refine Only.alloc ?_ _))))).mono ?_); rintro e w2 ⟨g3, g4, A3, c3, rfl, b3, b4, own, hg3, hg4, o2⟩)
  have o1 : Only No w (w.alloc (.cells #[P g] 24)).drew := ((Only.refl No w).alloc _).drew
  have ow : Only No w w2 := o1.trans o2
  have bb : Blk w2 w.heap.size 24 #[P g] := (b0.drewN 1).only o2 id
  have hsz : w.heap.size < w2.heap.size := bb.lt
  have hSm := H1.out.lt
  have ownge := own_ge own
  have hTq : ∀ k, Tq g3 g4 A3 k → w.heap.size ≤ k ∧ k < w2.heap.size := by
    rintro k (rfl | rfl | ⟨ad, rfl, rfl⟩)
    · exact ⟨by simp at hg3; omega, b3.lt⟩
    · exact ⟨by simp at hg4; omega, b4.lt⟩
    · have hb : (Value.slice (some ad) l2.length c3).ownBlock = some ad.block := by
        rcases own.2 with ⟨hv, _⟩ | ⟨g', cap, cur, hv, _⟩
        · simp at hv
        · simp at hv
          obtain ⟨hv, _⟩ := hv
          subst hv
          rfl
      have h1 := ownge _ hb
      simp at h1
      exact ⟨by omega, own_lt own _ hb⟩
  refine wpIn_rangeFunc_ownG rfl (by omega) (gf := 34) (lb := #[P g4, P g3]) rfl trivial (enters_of Try.func34 (by kernel_rfl) rfl)
    (all34_stops 2 (by omega) g3 g4 A3 c3 W l2 H2.out.le (fun h0 => by have := H2.out.len; cases W with | zero => (rw [Nat.zero_mul] at this; omega) | succ n => exact Nat.succ_pos n) H2.out.w8 w2 b3 b4 (Rds.of_own own))
    (fun h k => KpB.trans h k) (KpB.book (w := w2) fun k hk => (hTq k hk).2) (Below.refl _ _) (fun _ => rfl)
    (JI w w2.heap.size w.heap.size g A c W H l) (fun _ _ _ => False) (JI.own (Nat.le_of_lt hsz) hSm hsz) (fun _ _ _ _ _ hs _ _ => hs)
    ⟨H1.out.no ow, ow.mono fun _ h => h.elim, bb, Nat.le_refl _⟩
    (fun x => { tmps := #[P g, P g2, Value.pointer (some { block := w.heap.size, off := 0 }), undef, Value.bool false, .int .i64 ((x.1 % W : Nat) : Int), .int .i64 ((x.1 / W : Nat) : Int),
          P g2, Value.bool false, Value.bool false, P g, Value.pointer (some { block := g, off := 0 }),
          Value.pointer (some { block := g, off := 0 }), Value.int IntKind.i64 ↑W, P g2,
          Value.pointer (some { block := g2, off := 0 }), Value.pointer (some { block := g2, off := 0 }),
          Value.int IntKind.i64 ↑W, Value.bool false, Value.bool false, Value.bool false, P g,
          Value.pointer (some { block := g, off := 0 }), Value.pointer (some { block := g, off := 1 }),
          Value.int IntKind.i64 ↑H, P g2, Value.pointer (some { block := g2, off := 0 }),
          Value.pointer (some { block := g2, off := 1 }), Value.int IntKind.i64 ↑H, Value.bool false, Value.bool false,
          P g2, Value.func (Fn.func 34) #[] #[P g4, P g3], .int .i64 ((x.1 % W : Nat) : Int), .int .i64 ((x.1 / W : Nat) : Int), undef, undef, undef, undef], defers := [] }) ?assign ?body ?done ?stop
  case assign =>
    intro y x V K hK
    unfold encP
    gi_wp2
    exact hK
  case body =>
    rintro y pre x V hJ hlt
    obtain ⟨hm, ho, hb, hsz2⟩ := hJ.out
    have hc := hb.cell 0
    simp only [List.getElem?_toArray, List.getElem?_cons_zero] at hc
    have hx := x.2
    have hW0 : 0 < W := by
      have := H2.out.len
      cases W with
      | zero => (rw [Nat.zero_mul] at this; omega)
      | succ n => exact Nat.succ_pos n
    have hxW : x.1 % W < W := Nat.mod_lt _ hW0
    have hyH : x.1 / W < H := by
      rw [Nat.div_lt_iff_lt_mul hW0]
      have := H2.out.len
      rw [Nat.mul_comm]
      omega
    have hmd := Nat.div_add_mod x.1 W
    rw [Nat.mul_comm] at hmd
    have hf := Lib.hid (flag17 hm _ _ hxW hyH)
    generalize hp : x.1 % W = p at *
    generalize hq : x.1 / W = q at *
    gi_wp2_with (refine ⟨trivial, ?_⟩; gi_at_call 17; refine (CallsIn.inRound y (callsIn_wide.2 hf.out)).mono ?_; rintro e V' ⟨rfl, hm', o'⟩)
    have o9 : Only (Sm g A) w V' := ho.trans o'
    refine ⟨⟨o'.size, fun k o hk h1 _ => (o'.block k (Array.getElem?_eq_some_iff.1 h1).1 fun hs => ?_).trans h1⟩, KpB.only o' fun k hk => ⟨?_, fun hs => ?_⟩, Lib.hid ⟨?_, o9, hb.only o' fun hs => ?_, Nat.le_trans hsz2 o'.size⟩⟩
    · have := hSm k hs
      omega
    · exact Nat.lt_of_lt_of_le (hTq k hk).2 hsz2
    · have := hSm k hs
      have := (hTq k hk).1
      omega
    · rw [setAll_snoc, ← hmd]
      exact hm'
    · have := hSm _ hs
      omega
  case done =>
    rintro D ys V _ rfl hJ hK
    obtain ⟨hm, ho, hb, hsz2⟩ := hJ.out
    gi_wp2
    refine ⟨by simp, .inl ⟨_, _, rfl, run_takeDeferred hK, ?_⟩⟩
    have o9 : Only (fun k => k = D) V (V.putObj D (.deferred none)) := (Only.of_grown (grownBy_putObj' V D (.deferred none))).mono fun k e => by cases e; rfl
    refine ⟨_, results_tmp rfl _ _ _, rfl, ?_, ho.then o9 fun i hi => .inr (by omega)⟩
    rw [← setAll_or l l2 (by rw [H1.out.len, H2.out.len])]
    exact hm.only o9 fun k hk e => by have := hSm k hk; omega
  case stop =>
    rintro D c pre V _ _ h _
    exact h.elim
end Go.Proofs.Ytclidonogebgkaa.Ct
