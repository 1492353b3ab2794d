/- Maps of damage: Boxes. -/
import Derived.Test.YtclidonogebgkaaDi
import Derived.Sort.CutIn
import Derived.Deep.RegionHeld3
import Derived.Deep.DeepCutAuto
import Derived.Deep.CutRange
namespace Go.Proofs.Ytclidonogebgkaa.Ct
open Go.ChangeShapes Go.WideShapes Go.RowKit Go.Shelf Mm
attribute [local go_sem] Oper.semAt_some
/-- behind the map that Boxes makes for itself -/
def BG (w1 : World) (W H : Nat) (l : List Bool) (b4 : Nat) (wx : World) : Prop :=
  Hid (∃ R A' c', Blk wx b4 24 #[P R] ∧ MapN wx R A' c' W H l 0 ∧ Only No w1 wx ∧ w1.heap.size ≤ b4 ∧ ∀ k, Sm R A' k → w1.heap.size ≤ k)
theorem BG.fin {w1 w2 wx : World} {W H b4 R : Nat} {A' : Option Addr} {c' B : Nat} {l : List Bool} (own : w2.ownsRow B 4 1 (.slice A' l.length c') l.length (boC l)) (ox : Only (fun k => k < B) w2 wx) (hB : w1.heap.size ≤ B)
    (h4 : Blk wx b4 24 #[P R]) (hR : Blk wx R 54 #[.int .i64 W, .int .i64 H, .slice A' l.length c', .int .i64 0]) (hlen : l.length = W * H) (w8 : W ≤ 8192) (h8 : H ≤ 8192) (o : Only No w1 wx) (g4 : w1.heap.size ≤ b4) (gR : w1.heap.size ≤ R) : BG w1 W H l b4 wx :=
  ⟨R, A', c', h4, ⟨hR, own_base (own_only own ox fun i hi => Nat.not_lt.2 (own_ge own i hi)) (fun i _ => Nat.zero_le _), hlen, w8, h8⟩, o, g4, by
    rintro k (rfl | ⟨ad, rfl, rfl⟩)
    · exact gR
    · refine Nat.le_trans hB (own_ge own _ ?_)
      rcases own.2 with ⟨hv, _⟩ | ⟨g', cap, cur, hv, _⟩
      · simp at hv
      · injection hv with hv
        injection hv with hv
        subst hv
        rfl⟩
theorem MapN.notBlk {w : World} {g : Nat} {A : Option Addr} {c W H n : Nat} {l : List Bool} (h : MapN w g A c W H l n) {b : Nat} {t : TypeId} {cs : Array Value} (hb : Blk w b t cs) (h1 : t ≠ 54) (h2 : t ≠ 4) : ¬ Sm g A b := by
  rintro (rfl | ⟨ad, rfl, rfl⟩)
  · have := h.blk
    unfold Blk at this hb
    rw [hb] at this
    injection this with this
    injection this with _ this
    exact h1 this
  · refine own_blk h.own hb (fun e => h2 e.symm) ?_
    rcases h.own.2 with ⟨hv, _⟩ | ⟨g', cap, cur, hv, _⟩
    · simp at hv
    · injection hv with hv
      injection hv with hv
      subst hv
      rfl
theorem take26 {w : World} {g : Nat} {A : Option Addr} {c W H n : Nat} {l : List Bool} (h : MapN w g A c W H l n) (x y a b : Nat) (ha : 0 < a) (hx : x + a ≤ W) (hy : y + b ≤ H) :
    Calls Try.prog 26 #[P g, BxV x y a b] w fun e w' => e = .returned (.bool (decide (y + b < H ∧ okR l ((y + b) * W + x) a = true))) ∧
      ((y + b < H ∧ okR l ((y + b) * W + x) a = true → MapN w' g A c W H (fillL l ((y + b) * W + x) a) n ∧ Only (Sm g A) w w') ∧ (¬ (y + b < H ∧ okR l ((y + b) * W + x) a = true) → Only No w w')) := by
  have := h.h8
  by_cases h1 : y + b < H
  · refine (take26_in h x y a b ha hx h1).mono ?_
    intro e w' he
    split at he
    · rename_i hok
      obtain ⟨rfl, hm, o⟩ := he
      exact ⟨by rw [decide_eq_true ⟨h1, hok⟩], fun _ => ⟨hm, o⟩, fun h => absurd ⟨h1, hok⟩ h⟩
    · rename_i hok
      obtain ⟨rfl, o⟩ := he
      exact ⟨by rw [decide_eq_false (fun h => hok h.2)], fun h => absurd h.2 hok, fun _ => o⟩
  · refine (take26_out h x y a b (by omega) (by omega)).mono ?_
    rintro e w' ⟨rfl, o⟩
    exact ⟨by rw [decide_eq_false (fun h => h1 h.1)], fun h => absurd h.1 h1, fun _ => o⟩
theorem info31 : (Try.prog.info? 31).map (fun i => (i.zero, i.size, i.bytes)) = some (some (.agg #[.int .i64 0, .int .i64 0, .int .i64 0, .int .i64 0]), 4, 32) := by kernel_rfl
def aOf (w : World) (T k : Nat) : Nat := match w.cell? ⟨T, k, none⟩ with | some v => (intOf v).toNat | none => 0
theorem aOf_eq {w : World} {T k : Nat} {x : Nat} (h : w.cell? ⟨T, k, none⟩ = some (.int .i64 x)) : aOf w T k = x := by unfold aOf; rw [h]; simp [intOf]
/-- the rectangles are under way -/
def BI (w w2 : World) (b3 b4 R : Nat) (A' : Option Addr) (c' W H : Nat) (l : List Bool) (pre : List { i : Nat // i < l.length }) (V : World) : Prop :=
  Hid (∃ Lv, MapN V R A' c' W H (bxs W H l (pre.map (·.1))).1 0 ∧ Blk V b4 24 #[P R] ∧ Blk V b3 28 #[Lv] ∧ V.ownsRow w2.heap.size 31 4 Lv (bxs W H l (pre.map (·.1))).2.length (bxC (bxs W H l (pre.map (·.1))).2) ∧ Only No w V ∧ w2.heap.size ≤ V.heap.size)
theorem BI.own {w w2 : World} {b3 b4 R : Nat} {A' : Option Addr} {c' W H : Nat} {l : List Bool} (hF : b4 < w2.heap.size ∧ b3 < w2.heap.size ∧ ∀ k, Sm R A' k → k < w2.heap.size) (hw : w.heap.size ≤ w2.heap.size) : OwnFrom w2.heap.size (BI w w2 b3 b4 R A' c' W H l) := by
  rintro ys V V' row ⟨Lv, hm, h4, h3, hown, ho, hsz⟩ hg hr
  have o := Only.of_grown hg
  refine ⟨Lv, hm.only o fun k hk e => ?_, h4.only o fun e => ?_, h3.only o fun e => ?_, own_only hown o fun i hi e => ?_, ho.then o fun i hi => .inr ?_, Nat.le_trans hsz o.size⟩
  · have := hF.2.2 k hk
    have := (hr k e).1
    omega
  · have := (hr _ e).1
    omega
  · have := (hr _ e).1
    omega
  · obtain ⟨_, ob, h1, h2⟩ := hr i e
    obtain ⟨cs, t, m, e2⟩ := own_cellsObj hown i hi
    rw [e2] at h1
    cases h1
    cases h2
  · exact Nat.le_trans hw (hr i hi).1
set_option maxRecDepth 100000 in
set_option maxHeartbeats 4000000 in
theorem boxes9 {w : World} {g : Nat} {A : Option Addr} {c W H : Nat} {l : List Bool} (h : MapAt w g A c W H l) :
    Calls Try.prog 9 #[P g] w fun e w' => ∃ Lv, e = .returned Lv ∧ w'.ownsRow w.heap.size 31 4 Lv (bxs W H l ((upF l l.length).map (·.1))).2.length (bxC (bxs W H l ((upF l l.length).map (·.1))).2) ∧ Only No w w' := by
  refine (callsIn_wide (n := 3)).1 ?_
  refine callsIn_of_wp_marks Try.func9 rfl trivial ?_ rfl
  simp only [Try.ntmps9, List.size_toArray, List.length_cons, List.length_nil, Nat.reduceAdd, Nat.reduceSub, Array.replicate_succ, Array.replicate_zero, List.push_toArray, List.append_toArray, List.nil_append, List.cons_append]
  have hl := h.blk.lt
  have H1 := Lib.hid h
  have hcl := Lib.hid (fun w' (ho : Only No w w') => clone25 w' A c l (H1.out.rds.no ho) H1.out.le H1.out.nil)
  have hS : ∀ w', Only No w w' → w'.cell? ⟨g, 0, none⟩ = some (.int .i64 W) ∧ w'.cell? ⟨g, 1, none⟩ = some (.int .i64 H) ∧ w'.cell? ⟨g, 2, none⟩ = some (.slice A l.length c) := fun w' ho => by
    obtain ⟨a, b, d, _⟩ := (H1.out.no ho).cells
    exact ⟨a, b, d⟩
  replace hS := Lib.hid hS
  have q0 : Only No w w := Only.refl No w
  clear h
  refine wpIn_wide.2 ?_
  go_wp2_with fail
  obtain ⟨w1, hw1⟩ : ∃ w1, w1 = w.alloc (.cells #[.slice none 0 0] 28) := ⟨_, rfl⟩
  have b3 : Hid (Blk w1 w.heap.size 28 #[.slice none 0 0]) := Lib.hid (by rw [hw1]; exact Blk.new w 28 _)
  have o1 : Hid (Only No w w1) := Lib.hid (by rw [hw1]; exact q0.alloc _)
  rw [← hw1]
  have hl1 : g < w1.heap.size := Nat.lt_of_lt_of_le hl o1.out.size
  clear q0
  have q0 : Only No w1 w1 := Only.refl No w1
  have hS1 : Hid (∀ w', Only No w1 w' → w'.cell? ⟨g, 0, none⟩ = some (.int .i64 W) ∧ w'.cell? ⟨g, 1, none⟩ = some (.int .i64 H) ∧ w'.cell? ⟨g, 2, none⟩ = some (.slice A l.length c)) := Lib.hid fun w' ho => hS.out w' (o1.out.trans ho)
  have hcl1 := Lib.hid (fun w' (ho : Only No w1 w') => clone25 w' A c l (H1.out.rds.no (o1.out.trans ho)) H1.out.le H1.out.nil)
  clear hS hcl hw1
  go_cut [4] from 8 to 22 (fun s4 wx => ∃ b4, s4 = P b4 ∧ BG w1 W H l b4 wx)
  case first =>
    go_region_held3 (fun w' => Only No w1 w' ∧ w'.cell? ⟨g, 0, none⟩ = some (.int .i64 W) ∧ w'.cell? ⟨g, 1, none⟩ = some (.int .i64 H) ∧ w'.cell? ⟨g, 2, none⟩ = some (.slice A l.length c))
      (first
        | (refine ⟨?_, hS1.out _ ?_⟩ <;> (repeat (first | exact q2 | exact q0 | refine Only.drew ?_ | refine Only.alloc ?_ _ | refine Only.setCell ?_ (.inr (by first | exact Nat.le_refl _ | exact Nat.le_succ _ | assumption | (simp; done) | (simp; omega) | omega)) _))))
      (first
        | (go_at_call 25; (with_reducible refine (hcl1.out _ ?_).mono ?_); (repeat (first | exact q0 | refine Only.drew ?_ | refine Only.alloc ?_ _)); rintro e w2 ⟨v, rfl, own, o2⟩; obtain ⟨A2, cc2, rfl⟩ := own_slice own; have q2 : Only No w1 w2 := Only.trans (by (repeat (first | exact q0 | refine Only.drew ?_ | refine Only.alloc ?_ _))) o2; have hsz := q2.size; have hgl : g < w2.heap.size := Nat.lt_of_lt_of_le hl1 hsz; first | (have xx := pre1 o2; obtain ⟨x0, x1, x2⟩ := xx; have y := blk1 o2) | skip))
    all_goals go_wp2_with fail
    all_goals go_meet
    all_goals first
     | ((refine ⟨_, rfl, BG.fin (R := w2.heap.size) own ?_ ?_ ?_ ?_ H1.out.len H1.out.w8 H1.out.h8 ?_ ?_ ?_⟩) <;> first
      | (with_reducible ((repeat (first
            | exact Blk.new' _ _ (by first | rfl | (simp; done))
            | refine Blk.alloc ?_ _
            | apply Blk.set0
            | refine Blk.far ?_ (by first | (simp; done) | (simp; omega) | omega) _
            | exact y.out
            | exact y.out.1
            | exact y.out.2)); done))
      | (with_reducible exact (by assumption : Only _ _ _ ∧ _ ∧ _).1)
      | ((repeat (first | exact Only.refl _ _ | refine Only.drew ?_ | refine Only.alloc ?_ _ | refine Only.setCell ?_ (.inl (by first | (simp; done) | (simp; omega) | omega)) _)); done)
      | (first | exact Nat.le_refl _ | exact Nat.le_succ _ | assumption | (simp; done) | (simp; omega) | omega))
     | ((refine ⟨_, rfl, BG.fin (R := w2.heap.size + 1) own ?_ ?_ ?_ ?_ H1.out.len H1.out.w8 H1.out.h8 ?_ ?_ ?_⟩) <;> first
      | (with_reducible ((repeat (first
            | exact Blk.new' _ _ (by first | rfl | (simp; done))
            | refine Blk.alloc ?_ _
            | apply Blk.set0
            | refine Blk.far ?_ (by first | (simp; done) | (simp; omega) | omega) _
            | exact y.out
            | exact y.out.1
            | exact y.out.2)); done))
      | (with_reducible exact (by assumption : Only _ _ _ ∧ _ ∧ _).1)
      | ((repeat (first | exact Only.refl _ _ | refine Only.drew ?_ | refine Only.alloc ?_ _ | refine Only.setCell ?_ (.inl (by first | (simp; done) | (simp; omega) | omega)) _)); done)
      | (first | exact Nat.le_refl _ | exact Nat.le_succ _ | assumption | (simp; done) | (simp; omega) | omega))
  case rest =>
    obtain ⟨b4, rfl, hb⟩ := hcut
    have hal := Lib.hid (all21 (H1.out.no (o1.out.trans (by obtain ⟨_, _, _, _, _, o, _⟩ := hb.out; exact o)) : MapAt wc g A c W H l))
    go_wp2_with (go_at_call 21; (with_reducible refine (hal.out).mono ?_); rintro e w2 ⟨g3, g4, A3, c3, rfl, hb2⟩)
    obtain ⟨R, A', c', x4, xm, xo, xb4, xbR⟩ := hb.out
    obtain ⟨y3, y4, yown, yg3, yg4, yo⟩ := hb2
    have ow : Only No w w2 := o1.out.trans (xo.trans yo)
    have z3 : Blk w2 w.heap.size 28 #[.slice none 0 0] := b3.out.only (xo.trans yo) id
    have z4 : Blk w2 b4 24 #[P R] := x4.only yo id
    have zm : MapN w2 R A' c' W H l 0 := xm.no yo
    have hTq : ∀ k, Tq g3 g4 A3 k → wc.heap.size ≤ k ∧ k < w2.heap.size := by
      rintro k (rfl | rfl | ⟨ad, rfl, rfl⟩)
      · exact ⟨yg3, y3.lt⟩
      · exact ⟨yg4, y4.lt⟩
      · have hbb : (Value.slice (some ad) l.length c3).ownBlock = some ad.block := by
          rcases yown.2 with ⟨hv, _⟩ | ⟨g', cap, cur, hv, _⟩
          · simp at hv
          · injection hv with hv
            injection hv with hv
            subst hv
            rfl
        exact ⟨own_ge yown _ hbb, own_lt yown _ hbb⟩
    have hF := Lib.hid (show b4 < wc.heap.size ∧ w.heap.size < wc.heap.size ∧ (∀ k, Sm R A' k → k < wc.heap.size) ∧ w.heap.size < b4 ∧ (∀ k, Sm R A' k → w.heap.size < k) ∧ (¬ Sm R A' b4) ∧ wc.heap.size ≤ w2.heap.size from
      ⟨x4.lt, Nat.lt_of_lt_of_le b3.out.lt xo.size, xm.lt, Nat.lt_of_lt_of_le b3.out.lt xb4, fun k hk => Nat.lt_of_lt_of_le b3.out.lt (xbR k hk), xm.notBlk x4 (by decide) (by decide), yo.size⟩)
    have hst := all34_stops 2 (by omega) g3 g4 A3 c3 W l H1.out.le (fun h0 => by have := H1.out.len; cases W with | zero => (rw [Nat.zero_mul] at this; omega) | succ n => exact Nat.succ_pos n) H1.out.w8 w2 y3 y4 (Rds.of_own yown)
    refine (wpIn_wide (n := 3)).1 ?_
    replace hb := Lib.hid hF
    clear x4 xm xo xb4 xbR y3 y4 yown yg3 yg4 yo hal b3 hcl1 hS1 q0
    refine wpIn_rangeFunc_ownG rfl (by omega) (gf := 34) (lb := #[P g4, P g3]) rfl trivial (enters_of Try.func34 (by kernel_rfl) rfl)
      hst (fun h k => KpB.trans h k) (KpB.book (w := w2) fun k hk => (hTq k hk).2) (Below.refl _ _) (fun _ => rfl)
      (BI w w2 w.heap.size b4 R A' c' W H l) (fun _ _ _ => False) (BI.own ?own ow.size) (fun _ _ _ _ _ hs _ _ => hs)
      ⟨_, zm, z4, z3, World.ownsRow_nil _ _ _ _, ow, Nat.le_refl _⟩
      (fun x => { tmps := #[P g, undef, Value.slice none 0 0, Value.pointer (some { block := w.heap.size, off := 0 }), P b4, .int .i64 ((x.1 % W : Nat) : Int), .int .i64 ((x.1 / W : Nat) : Int),
          undef, u8, u9, u10, u11, u12, u13, u14, u15, u16, u17, u18, u19, u20, u21, u22, P g,
          Value.func (Fn.func 34) #[] #[P g4, P g3], .int .i64 ((x.1 % W : Nat) : Int), .int .i64 ((x.1 / W : Nat) : Int), undef, undef, undef, undef, undef, undef, undef, undef, undef,
          undef, undef, undef, undef, undef, undef, undef, undef, undef, undef, undef, undef, undef, undef, undef, undef, undef, undef, undef, undef, undef, undef], defers := [] }) ?assign ?body ?done ?stop
    case own =>
      obtain ⟨a1, a2, a3, _, _, _, a7⟩ := hF.out
      exact ⟨Nat.lt_of_lt_of_le a1 a7, Nat.lt_of_lt_of_le a2 a7, fun k hk => Nat.lt_of_lt_of_le (a3 k hk) a7⟩
    case assign =>
      intro y x V K hK
      unfold encP
      gi_wp2
      exact hK
    case body =>
      rintro y pre x V hJ hlt
      obtain ⟨Lv, hm, h4, h3, hown, ho, hsz⟩ := hJ.out
      have hblen := bxs_len W H l (pre.map (·.1))
      rw [List.length_map] at hblen
      have hx := x.2
      have hle := H1.out.le
      have hW0 : 0 < W := by
        have := H1.out.len
        cases W with
        | zero => (rw [Nat.zero_mul] at this; omega)
        | succ n => exact Nat.succ_pos n
      have hxW : x.1 % W < W := Nat.mod_lt _ hW0
      have hyH : x.1 / W < H := by
        rw [Nat.div_lt_iff_lt_mul hW0]
        have := H1.out.len
        rw [Nat.mul_comm]
        omega
      have hmd := Nat.div_add_mod x.1 W
      rw [Nat.mul_comm] at hmd
      have hstp := bxs_snoc W H l (pre.map (·.1)) x.1
      have hpe : (pre ++ [x]).map (·.1) = pre.map (·.1) ++ [x.1] := by simp
      have hend : Hid (∀ V' Lv', MapN V' R A' c' W H (stp W H (bxs W H l (pre.map (·.1))) x.1).1 0 → Blk V' b4 24 #[P R] → Blk V' w.heap.size 28 #[Lv'] →
          V'.ownsRow w2.heap.size 31 4 Lv' (stp W H (bxs W H l (pre.map (·.1))) x.1).2.length (bxC (stp W H (bxs W H l (pre.map (·.1))) x.1).2) → Only No w V' → w2.heap.size ≤ V'.heap.size → BI w w2 w.heap.size b4 R A' c' W H l (pre ++ [x]) V') := by
        intro V' Lv' k1 k2 k3 k4 k5 k6
        exact ⟨Lv', by rw [hpe, hstp]; exact k1, k2, k3, by rw [hpe, hstp]; exact k4, k5, k6⟩
      clear hpe hstp hst hJ
      generalize bxs W H l (pre.map (·.1)) = st at *
      obtain ⟨r, bs⟩ := st
      have h20 := has20 hm ((x.1 % W : Nat) : Int) ((x.1 / W : Nat) : Int)
      rw [hasB_nat hxW hyH, hmd] at h20
      have z4 := h4.cell 0
      have z3 := h3.cell 0
      simp only [List.getElem?_toArray, List.getElem?_cons_zero] at z3 z4
      replace hm := Lib.hid hm
      replace h4 := Lib.hid h4
      replace h3 := Lib.hid h3
      replace hown := Lib.hid hown
      replace ho := Lib.hid ho
      replace h20 := Lib.hid h20
      cases hb9 : r.getD x.1 false
      · have e : stp W H (r, bs) x.1 = (r, bs) := by unfold stp; rw [if_neg (by rw [hb9]; simp)]
        rw [e] at hend
        rw [hb9] at h20
        clear e hmd
        generalize x.1 % W = p at *
        generalize x.1 / W = q at *
        gi_wp2_with (refine ⟨trivial, ?_⟩; gi_at_call 20; refine (CallsIn.inRound y (callsIn_wide.2 h20.out)).mono ?_; rintro e V' ⟨rfl, nn, rfl⟩)
        have o9 : Only No V (V.drewN nn) := (Only.refl No V).drewN nn
        exact ⟨(KeepsOthers.of_only o9 (fun _ h => h.elim)).from _, KpB.only o9 (fun k hk => ⟨Nat.lt_of_lt_of_le (hTq k hk).2 hsz, id⟩), hend.out _ Lv (hm.out.no o9) (h4.out.only o9 id) (h3.out.only o9 id) (own_only hown.out o9 fun _ _ => id) (ho.out.trans o9) (Nat.le_trans hsz o9.size)⟩
      · rw [hb9] at h20
        have hbb : hasB W H r ((x.1 % W : Nat) : Int) ((x.1 / W : Nat) : Int) = true := by rw [hasB_nat hxW hyH, hmd, hb9]
        have e : stp W H (r, bs) x.1 = ((hig W H (x.1 % W) (x.1 / W) (wid r W H (x.1 % W) (x.1 / W) W 0) r H 0).1, bs ++ [⟨x.1 % W, x.1 / W, wid r W H (x.1 % W) (x.1 / W) W 0, (hig W H (x.1 % W) (x.1 / W) (wid r W H (x.1 % W) (x.1 / W) W 0) r H 0).2⟩]) := by
          unfold stp; rw [if_pos (by rw [hb9])]
        rw [e] at hend
        clear e hmd hb9
        replace hbb := Lib.hid hbb
        generalize x.1 % W = p at *
        generalize x.1 / W = q at *
        gi_wp2_with (refine ⟨trivial, ?_⟩; gi_at_call 20; refine (CallsIn.inRound y (callsIn_wide.2 h20.out)).mono ?_; rintro e V' ⟨rfl, ho9⟩; have o9 : Hid (Only No V V') := Lib.hid (by obtain ⟨nn, rfl⟩ := ho9; exact (Only.refl No V).drewN nn); clear ho9; clear h20; have nb : Blk (V'.alloc (.cells #[.int .i64 0, .int .i64 0, .int .i64 0, .int .i64 0] 31)) V'.heap.size 31 #[.int .i64 0, .int .i64 0, .int .i64 0, .int .i64 0] := Blk.new _ _ _; have n0 := nb.cell 0; have n1 := nb.cell 1; have n2 := nb.cell 2; have n3 := nb.cell 3; simp only [List.getElem?_toArray, List.getElem?_cons_zero, List.getElem?_cons_succ] at n0 n1 n2 n3; have m0 := nb.frozen 0; have m1 := nb.frozen 1; have m2 := nb.frozen 2; have m3 := nb.frozen 3)
        obtain ⟨V1, hV1⟩ : ∃ V1, V1 = V'.alloc (.cells #[.int .i64 p, .int .i64 q, .int .i64 0, .int .i64 0] 31) := ⟨_, rfl⟩
        rw [← hV1]
        have hT1 : Hid (Blk V1 V'.heap.size 31 #[.int .i64 p, .int .i64 q, .int .i64 ((0 : Nat) : Int), .int .i64 ((0 : Nat) : Int)]) := Lib.hid (by rw [hV1]; exact Blk.new _ _ _)
        have o1' : Hid (Only No V V1) := Lib.hid (o9.out.trans (by rw [hV1]; exact (Only.refl No V').alloc _))
        have hVT : V.heap.size ≤ V'.heap.size := o9.out.size
        clear n0 n1 n2 n3 m0 m1 m2 m3 nb hV1 o9
        generalize V'.heap.size = T at *
        clear V'
        obtain ⟨f1, f2, f3, f4, f5, f6, f7⟩ := hF.out
        have hSmT : Hid (∀ k, Sm R A' k → k < T) := Lib.hid fun k hk => by have := f3 k hk; omega
        have hT4 : b4 ≠ T := by omega
        have hT3 : w.heap.size ≠ T := by omega
        have hW8 := H1.out.w8
        have hH8 := H1.out.h8
        gi_loopw [] (fun wr => ∃ a : Nat, Hid (wid r W H p q W 0 = wid r W H p q (W - a) a ∧ p + a ≤ W ∧ Blk wr T 31 #[.int .i64 p, .int .i64 q, .int .i64 (a : Int), .int .i64 ((0 : Nat) : Int)] ∧ Only (One T) V1 wr)) (fun wr => W - aOf wr T 2)
        case atStart => exact ⟨0, Lib.hid ⟨rfl, by omega, hT1.out, Only.refl _ _⟩⟩
        case round =>
          obtain ⟨a, hI⟩ := hrel
          obtain ⟨i1, i2, i3, i4⟩ := hI.out
          have oa : Only (One T) V wr := (o1'.out.mono (fun _ h => h.elim)).trans i4
          have hMr := hm.out.only oa (fun k hk e => by have := hSmT.out k hk; have e : k = T := e; omega)
          have z4r := (h4.out.only oa (fun e => hT4 e)).cell 0
          simp only [List.getElem?_toArray, List.getElem?_cons_zero] at z4r
          have c2 := i3.cell 2
          have fz2 := i3.frozen 2
          simp only [List.getElem?_toArray, List.getElem?_cons_zero, List.getElem?_cons_succ] at c2
          have hme := aOf_eq c2
          have h20 := Lib.hid (has20 hMr ((p + a : Nat) : Int) (q : Int))
          have e1 : IntKind.i64.wrap ((p : Int) + (a : Int)) = ((p + a : Nat) : Int) := by rw [IntWalk.i64_in _ (by omega)]; push_cast; rfl
          have e2 : IntKind.i64.wrap ((a : Int) + 1) = ((a + 1 : Nat) : Int) := by rw [IntWalk.i64_in _ (by omega)]; push_cast; rfl
          replace hMr := Lib.hid hMr
          replace oa := Lib.hid oa
          clear i1 i2 i3 i4
          cases hB : hasB W H r ((p + a : Nat) : Int) (q : Int)
          · have ha0 : 0 < a := by
              rcases Nat.eq_zero_or_pos a with rfl | h
              · have := hbb.out
                rw [Nat.add_zero] at hB
                rw [hB] at this
                cases this
              · exact h
            have hwid : Hid (wid r W H p q W 0 = a) := Lib.hid (hI.out.1.trans (wid_no _ hB))
            have hpa := hI.out.2.1
            rw [hB] at h20
            rw [hwid.out] at hend
            clear hB hbb hwid
            gi_wp2_with (refine ⟨trivial, ?_⟩; gi_at_call 20; refine (CallsIn.inRound y (callsIn_wide.2 h20.out)).mono ?_; rintro e V' ⟨rfl, ho9⟩; have o9 : Hid (Only No wr V') := Lib.hid (by obtain ⟨nn, rfl⟩ := ho9; exact (Only.refl No wr).drewN nn); clear ho9; clear h20)
            have hT2 : Hid (Blk V' T 31 #[.int .i64 p, .int .i64 q, .int .i64 (a : Int), .int .i64 ((0 : Nat) : Int)]) := Lib.hid (hI.out.2.2.1.only o9.out id)
            have o2' : Hid (Only (One T) V V') := Lib.hid (oa.out.trans (o9.out.mono fun _ h => h.elim))
            have hM2 : Hid (MapN V' R A' c' W H r 0) := Lib.hid (hMr.out.no o9.out)
            clear hI oa hMr o9 z4r c2 fz2 hme e2
            gi_loopw [] (fun wq => ∃ (b : Nat) (rr : List Bool), Hid (hig W H p q a r H 0 = hig W H p q a rr (H - b) b ∧ q + b ≤ H ∧ MapN wq R A' c' W H rr 0 ∧ Blk wq T 31 #[.int .i64 p, .int .i64 q, .int .i64 (a : Int), .int .i64 (b : Int)] ∧ Only (fun k => k = T ∨ Sm R A' k) V wq)) (fun wq => H - aOf wq T 3)
            case atStart => exact ⟨0, r, Lib.hid ⟨rfl, by omega, hM2.out, hT2.out, o2'.out.mono fun _ h => .inl h⟩⟩
            case round =>
              obtain ⟨b, rr, hI⟩ := hrel
              obtain ⟨i1, i2, i3, i4, i5⟩ := hI.out
              have z4r := (h4.out.only i5 (fun e => by rcases e with e | e; exact hT4 e; exact f6 e)).cell 0
              have z3r := (h3.out.only i5 (fun e => by rcases e with e | e; exact hT3 e; exact absurd (f5 _ e) (Nat.lt_irrefl _))).cell 0
              have d0 := i4.cell 0
              have d1 := i4.cell 1
              have d2 := i4.cell 2
              have d3 := i4.cell 3
              simp only [List.getElem?_toArray, List.getElem?_cons_zero, List.getElem?_cons_succ] at z4r z3r d0 d1 d2 d3
              have fz3 := i4.frozen 3
              have hme := aOf_eq d3
              have hlt9 := i4.lt
              have h26 := Lib.hid (take26 i3 p q a b ha0 hpa i2)
              have e2 : IntKind.i64.wrap ((b : Int) + 1) = ((b + 1 : Nat) : Int) := by rw [IntWalk.i64_in _ (by omega)]; push_cast; rfl
              clear i1 i3 i4 i5
              by_cases hB : q + b < H ∧ okR rr ((q + b) * W + p) a = true
              · have hst := hig_yes hB.1 hB.2
                rw [decide_eq_true hB] at h26
                have hHid := Lib.hid hB
                clear hB
                replace hst := Lib.hid hst
                gi_wp2_with (refine ⟨trivial, ?_⟩; gi_at_call 26; refine (CallsIn.inRound y (callsIn_wide.2 h26.out)).mono ?_; rintro e V'' ⟨rfl, hy, _⟩; have hy := Lib.hid (hy hHid.out); clear h26; have i4' := hI.out.2.2.2.1.only hy.out.2 (fun e => by have := hSmT.out _ e; omega); have c3' := i4'.cell 3; have fz3' := i4'.frozen 3; simp only [List.getElem?_toArray, List.getElem?_cons_zero, List.getElem?_cons_succ] at c3')
                go_roundw
                case rel => exact ⟨b + 1, _, Lib.hid ⟨hI.out.1.trans hst.out, by have := hHid.out.1; omega, hy.out.1.only ((Only.refl (One T) V'').setCell (p := ⟨T, 3, none⟩) (.inl rfl) _) (fun k hk e => by have := hSmT.out k hk; have e : k = T := e; omega), i4'.set 3 _, (hI.out.2.2.2.2.trans (hy.out.2.mono fun _ h => .inr h)).setCell (p := ⟨T, 3, none⟩) (.inl (.inl rfl)) _⟩⟩
                case measure =>
                  have c2'' := (i4'.set 3 (.int .i64 ((b + 1 : Nat) : Int))).cell 3
                  simp only [List.getElem?_toArray, List.getElem?_cons_zero, List.getElem?_cons_succ, List.setIfInBounds_toArray, List.set_cons_succ, List.set_cons_zero] at c2''
                  have e3 : ((b : Int) + 1) = ((b + 1 : Nat) : Int) := by push_cast; rfl
                  rw [e3, aOf_eq c2'', hme]
                  have := hHid.out.1
                  omega
              · have hst := hig_no (H - b) hB
                rw [decide_eq_false hB] at h26
                rw [hI.out.1.trans hst] at hend
                have hHid := Lib.hid hB
                clear hB hst
                have hown1 : wr.ownsRow w2.heap.size 31 4 Lv bs.length (bxC bs) := own_only hown.out hI.out.2.2.2.2 fun i hi e => by
                  have l1 := own_ge hown.out i hi
                  have l2 := own_lt hown.out i hi
                  rcases e with e | e
                  · omega
                  · have := f3 i e
                    omega
                obtain ⟨i0, hi0, hz0, hz1, hz2⟩ := info_parts info31
                have hnl : bs.length + 1 ≤ 67108865 := by omega
                replace hown1 := Lib.hid hown1
                have hsz9 : w2.heap.size ≤ wr.heap.size := Nat.le_trans hsz hI.out.2.2.2.2.size
                have hbk3 := Lib.hid (h3.out.only hI.out.2.2.2.2 (fun e => by rcases e with e | e; exact hT3 e; exact absurd (f5 _ e) (Nat.lt_irrefl _)))
                gi_wp2_with (first
                  | (refine ⟨trivial, ?_⟩; gi_at_call 26; refine (CallsIn.inRound y (callsIn_wide.2 h26.out)).mono ?_; rintro e V'' ⟨rfl, _, hy⟩; have hy := Lib.hid (hy hHid.out); clear h26; have i4' := hI.out.2.2.2.1.only hy.out id; have d0' := i4'.cell 0; have d1' := i4'.cell 1; have d2' := i4'.cell 2; have d3' := i4'.cell 3; have z3' := (hbk3.out.only hy.out id).cell 0; simp only [List.getElem?_toArray, List.getElem?_cons_zero, List.getElem?_cons_succ] at d0' d1' d2' d3' z3'; have hown2 := Lib.hid (own_only hown1.out hy.out fun _ _ => id); have hsz8 : w2.heap.size ≤ V''.heap.size := Nat.le_trans hsz9 hy.out.size)
                  | (gi_at_builtin; refine wpListIn_append_any _ rfl _ _ _ rfl w2.heap.size 31 i0 (.agg #[.int .i64 0, .int .i64 0, .int .i64 0, .int .i64 0]) 4 32 Try.underlying28 hi0 hz0 hz1 hz2 rfl (by decide) Lv bs.length (bxC bs) rfl (own_only hown2.out ((Only.refl No V'').alloc _) fun _ _ => id) (some ⟨V''.heap.size, 0, none⟩) 1 1 [.int .i64 p, .int .i64 q, .int .i64 a, .int .i64 b] rfl (Rds.fresh (n := 1) (size := 4) (Blk.new V'' 31 #[.int .i64 p, .int .i64 q, .int .i64 a, .int .i64 b]) rfl) (by simp [Value.oneCell']) (by show bs.length + 1 ≤ 9223372036854775807; omega) (by omega) (by simp; omega) ?_; intro v' w4 hown4 o4 _; obtain ⟨A4, c4, rfl⟩ := own_slice hown4; have hb34 := (((hbk3.out.only hy.out id).alloc (.cells #[.int .i64 p, .int .i64 q, .int .i64 a, .int .i64 b] 31)).only o4 (fun e => by have := own_ge hown.out _ e; omega)); have z34 := hb34.cell 0; have fz34 := hb34.frozen 0; simp only [List.getElem?_toArray, List.getElem?_cons_zero] at z34))
                have oA : Only (fun k => Sm R A' k ∨ Lv.ownBlock = some k ∨ k = w.heap.size) V (w4.setCell { block := w.heap.size, off := 0 } (Value.slice A4 (bs.length + 1) c4)) := by
                  have k1 : Only (fun k => Sm R A' k ∨ Lv.ownBlock = some k ∨ k = w.heap.size) V wr := (Only.refl _ V).then hI.out.2.2.2.2 fun i hi => by
                    rcases hi with e | e
                    · exact .inr (by omega)
                    · exact .inl (.inl e)
                  have k2 := k1.trans (hy.out.mono fun _ h => h.elim)
                  have k3 := (k2.alloc (.cells #[.int .i64 p, .int .i64 q, .int .i64 a, .int .i64 b] 31)).trans (o4.mono fun i hi => .inr (.inl hi))
                  exact k3.setCell (p := ⟨w.heap.size, 0, none⟩) (.inl (.inr (.inr rfl))) _
                have oB : Only (fun k => Lv.ownBlock = some k ∨ k = w.heap.size) wr (w4.setCell { block := w.heap.size, off := 0 } (Value.slice A4 (bs.length + 1) c4)) := by
                  have k2 : Only (fun k => Lv.ownBlock = some k ∨ k = w.heap.size) wr V'' := hy.out.mono fun _ h => h.elim
                  have k3 := (k2.alloc (.cells #[.int .i64 p, .int .i64 q, .int .i64 a, .int .i64 b] 31)).trans (o4.mono fun i hi => .inl hi)
                  exact k3.setCell (p := ⟨w.heap.size, 0, none⟩) (.inl (.inr rfl)) _
                have hge := own_ge hown.out
                have hge4 := own_ge hown4
                refine ⟨(KeepsOthers.of_only oA ?_).from _, KpB.only oA fun k hk => ⟨Nat.lt_of_lt_of_le (hTq k hk).2 hsz, ?_⟩, hend.out _ (.slice A4 (bs.length + 1) c4) ?_ ?_ (Blk.set0 hb34 _) ?_ ?_ (Nat.le_trans hsz oA.size)⟩
                · rintro k (e | e | rfl)
                  · exact hm.out.cellsObj k e
                  · exact own_cellsObj hown.out k e
                  · exact ⟨_, _, _, h3.out⟩
                · have h1 := hTq k hk
                  rintro (e | e | e)
                  · have := f3 k e
                    omega
                  · have := hge k e
                    omega
                  · omega
                · refine hI.out.2.2.1.only oB fun k hk => ?_
                  have h1 := f3 k hk
                  have h2 := f5 k hk
                  rintro (e | e)
                  · have := hge k e
                    omega
                  · omega
                · refine h4.out.only oA ?_
                  rintro (e | e | e)
                  · exact f6 e
                  · have := hge _ e
                    omega
                  · omega
                · have := own_only hown4 ((Only.refl (One w.heap.size) w4).setCell (p := ⟨w.heap.size, 0, none⟩) (.inl rfl) (Value.slice A4 (bs.length + 1) c4)) (fun i hi e => by
                    have := hge4 i hi
                    have e : i = w.heap.size := e
                    omega)
                  rw [bxC_snoc, List.length_append]
                  exact this
                · exact ho.out.then oA fun i hi => .inr (by
                    rcases hi with e | e | e
                    · have := f5 i e
                      omega
                    · have := hge i e
                      have := ow.size
                      omega
                    · omega)
          · have hxa := (hasB_lt hB).1
            have hst := wid_yes hxa hB
            rw [hB] at h20
            clear hB
            replace hst := Lib.hid hst
            gi_wp2_with (refine ⟨trivial, ?_⟩; gi_at_call 20; refine (CallsIn.inRound y (callsIn_wide.2 h20.out)).mono ?_; rintro e V' ⟨rfl, ho9⟩; have o9 : Hid (Only No wr V') := Lib.hid (by obtain ⟨nn, rfl⟩ := ho9; exact (Only.refl No wr).drewN nn); clear ho9; clear h20; have i3' := hI.out.2.2.1.only o9.out id; have c2' := i3'.cell 2; have fz2' := i3'.frozen 2; simp only [List.getElem?_toArray, List.getElem?_cons_zero, List.getElem?_cons_succ] at c2')
            go_roundw
            case rel => exact ⟨a + 1, Lib.hid ⟨hI.out.1.trans hst.out, by omega, i3'.set 2 _, (hI.out.2.2.2.trans (o9.out.mono fun _ h => h.elim)).setCell (p := ⟨T, 2, none⟩) (.inl rfl) _⟩⟩
            case measure =>
              have c2'' := (i3'.set 2 (.int .i64 ((a + 1 : Nat) : Int))).cell 2
              simp only [List.getElem?_toArray, List.getElem?_cons_zero, List.getElem?_cons_succ, List.setIfInBounds_toArray, List.set_cons_succ, List.set_cons_zero] at c2''
              have e3 : ((a : Int) + 1) = ((a + 1 : Nat) : Int) := by push_cast; rfl
              rw [e3, aOf_eq c2'', hme]
              omega
    case done =>
      rintro D ys V hD rfl hJ hK
      obtain ⟨Lv, hm, h4, h3, hown, ho, hsz⟩ := hJ.out
      have hc := h3.cell 0
      simp only [List.getElem?_toArray, List.getElem?_cons_zero] at hc
      have o9 : Only (fun k => k = D) V (V.putObj D (.deferred none)) := (Only.of_grown (grownBy_putObj' V D (.deferred none))).mono fun k e => by cases e; rfl
      have hD2 : V.heap[D]? = some (.deferred (some [])) := hK
      have hfin : (V.putObj D (.deferred none)).ownsRow w.heap.size 31 4 Lv (bxs W H l ((upF l l.length).map (·.1))).2.length (bxC (bxs W H l ((upF l l.length).map (·.1))).2) := by
        refine own_base (own_only hown o9 fun i hi e => ?_) (fun i hi => Nat.le_trans ow.size (own_ge hown i hi))
        obtain ⟨cs, t, m, e2⟩ := own_cellsObj hown i hi
        rw [show i = D from e, hD2] at e2
        cases e2
      have ofin : Only No w (V.putObj D (.deferred none)) := ho.then o9 fun i hi => .inr (by have := ow.size; omega)
      replace hfin := Lib.hid hfin
      replace ofin := Lib.hid ofin
      clear hm h4 h3 hown ho hsz
      go_wp2_with fail
      refine ⟨by simp, .inl ⟨_, _, rfl, run_takeDeferred hK, ?_⟩⟩
      exact ⟨_, results_tmp rfl _ _ _, Lv, rfl, hfin.out, ofin.out⟩
    case stop =>
      rintro D c pre V _ _ h _
      exact h.elim
end Go.Proofs.Ytclidonogebgkaa.Ct
