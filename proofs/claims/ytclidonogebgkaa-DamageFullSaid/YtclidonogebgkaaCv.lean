/- Maps of damage: the rectangles are the damage: the plain law. -/
import Derived.Test.YtclidonogebgkaaDj
namespace Go.Proofs.Ytclidonogebgkaa.Ct
open Go.ChangeShapes Go.WideShapes Go.RowKit Mm
def inBx (W : Nat) (b : Bx) (i : Nat) : Bool := decide (b.y ≤ i / W ∧ i / W < b.y + b.b ∧ b.x ≤ i % W ∧ i % W < b.x + b.a)
def tms (W : Nat) (bs : List Bx) (i : Nat) : Nat := bs.countP fun b => inBx W b i
theorem okR_get {r : List Bool} {k m : Nat} (h : okR r k m = true) (hk : k + m ≤ r.length) (i : Nat) (h1 : k ≤ i) (h2 : i < k + m) : r.getD i false = true := by
  have hi : i < r.length := by omega
  have := (List.all_eq_true.1 h) r[i] (by
    rw [List.mem_iff_getElem]
    exact ⟨i - k, by simp; omega, by simp [show k + (i - k) = i by omega]⟩)
  simpa [List.getD_eq_getElem?_getD, hi] using this
theorem row_iff {W x a yy : Nat} (hW : 0 < W) (ha : x + a ≤ W) (i : Nat) : (yy * W + x ≤ i ∧ i < yy * W + x + a) ↔ (i / W = yy ∧ x ≤ i % W ∧ i % W < x + a) := by
  have e := Nat.div_add_mod i W
  have hm := Nat.mod_lt i hW
  constructor
  · rintro ⟨h1, h2⟩
    have e1 : i / W = yy := by
      apply Nat.div_eq_of_lt_le
      · omega
      · rw [Nat.succ_mul]; omega
    rw [e1, Nat.mul_comm] at e
    exact ⟨e1, by omega, by omega⟩
  · rintro ⟨rfl, h2, h3⟩
    rw [Nat.mul_comm W] at e
    omega
theorem hasB_get {W H : Nat} {r : List Bool} {x y : Nat} (h : hasB W H r (x : Int) (y : Int) = true) : x < W ∧ y < H ∧ r.getD (y * W + x) false = true := by
  have hi : inB W H (x : Int) (y : Int) = true := by unfold hasB at h; simp at h; exact h.1
  obtain ⟨a, b, e1, e2, h1, h2⟩ := of_inB hi
  have e1 : x = a := by omega
  have e2 : y = b := by omega
  subst e1; subst e2
  exact ⟨h1, h2, (hasB_nat h1 h2).symm.trans h⟩
theorem wid_spec (r : List Bool) (W H x y : Nat) : ∀ (f a : Nat), a ≤ wid r W H x y f a ∧ ∀ j, a ≤ j → j < wid r W H x y f a → hasB W H r ((x + j : Nat) : Int) (y : Int) = true := by
  intro f
  induction f with
  | zero => intro a; exact ⟨Nat.le_refl _, fun j h1 h2 => absurd h2 (by unfold wid; omega)⟩
  | succ f ih =>
    intro a
    unfold wid
    split
    · rename_i h
      obtain ⟨h1, h2⟩ := ih (a + 1)
      refine ⟨by omega, fun j h3 h4 => ?_⟩
      by_cases e : j = a
      · rw [e]; exact h
      · exact h2 j (by omega) h4
    · exact ⟨Nat.le_refl _, fun j h1 h2 => absurd h2 (by omega)⟩
theorem wid_pos {r : List Bool} {W H x y f : Nat} (hf : 0 < f) (h : hasB W H r (x : Int) (y : Int) = true) : 1 ≤ wid r W H x y f 0 := by
  obtain ⟨f, rfl⟩ : ∃ k, f = k + 1 := ⟨f - 1, by omega⟩
  unfold wid
  rw [if_pos (by simpa using h)]
  exact (wid_spec r W H x y f 1).1
theorem hig_spec {W H x y a : Nat} (hW : 0 < W) (hx : x + a ≤ W) : ∀ (f : Nat) (r : List Bool) (b : Nat), r.length = W * H → y + b ≤ H →
    b ≤ (hig W H x y a r f b).2 ∧ y + (hig W H x y a r f b).2 ≤ H ∧ (hig W H x y a r f b).1.length = W * H ∧
    (∀ i, y + b ≤ i / W → i / W < y + (hig W H x y a r f b).2 → x ≤ i % W → i % W < x + a → r.getD i false = true) ∧
    ∀ i, (hig W H x y a r f b).1.getD i false = if y + b ≤ i / W ∧ i / W < y + (hig W H x y a r f b).2 ∧ x ≤ i % W ∧ i % W < x + a then false else r.getD i false := by
  intro f
  induction f with
  | zero =>
    intro r b hl hb
    unfold hig
    refine ⟨Nat.le_refl _, hb, hl, fun i h1 h2 => by omega, fun i => ?_⟩
    rw [if_neg (by omega)]
  | succ f ih =>
    intro r b hl hb
    unfold hig
    split
    · rename_i h
      have hk : (y + b) * W + x + a ≤ r.length := by
        have h2 : (y + b + 1) * W ≤ H * W := Nat.mul_le_mul_right _ h.1
        rw [Nat.succ_mul] at h2
        rw [hl, Nat.mul_comm W H]
        omega
      obtain ⟨i1, i2, i3, i4, i5⟩ := ih (fillL r ((y + b) * W + x) a) (b + 1) (by rw [fillL_len hk, hl]) (by omega)
      generalize hig W H x y a (fillL r ((y + b) * W + x) a) f (b + 1) = q at *
      have hg := okR_get h.2 hk
      refine ⟨by omega, i2, i3, fun i h1 h2 h3 h4 => ?_, fun i => ?_⟩
      · by_cases e : i / W = y + b
        · have := (row_iff hW hx i).2 ⟨e, h3, h4⟩
          exact hg i this.1 this.2
        · have := i4 i (by omega) h2 h3 h4
          rw [fillL_get hk] at this
          split at this
          · cases this
          · exact this
      · rw [i5 i, fillL_get hk]
        have hr := row_iff hW hx (yy := y + b) i
        by_cases c1 : y + (b + 1) ≤ i / W ∧ i / W < y + q.2 ∧ x ≤ i % W ∧ i % W < x + a
        · rw [if_pos c1, if_pos (by omega)]
        · rw [if_neg c1]
          by_cases c2 : i / W = y + b ∧ x ≤ i % W ∧ i % W < x + a
          · rw [if_pos (hr.2 c2), if_pos (by omega)]
          · rw [if_neg (fun h => c2 (hr.1 h)), if_neg (by omega)]
    · refine ⟨Nat.le_refl _, hb, hl, fun i h1 h2 => by omega, fun i => ?_⟩
      rw [if_neg (by omega)]
theorem hig_pos {W H x y a : Nat} {r : List Bool} {f : Nat} (hf : 0 < f) (hW : 0 < W) (hx : x + a ≤ W) (hl : r.length = W * H) (h : y < H ∧ okR r (y * W + x) a = true) : 1 ≤ (hig W H x y a r f 0).2 := by
  obtain ⟨f, rfl⟩ : ∃ k, f = k + 1 := ⟨f - 1, by omega⟩
  unfold hig
  rw [if_pos (by simpa using h)]
  have hk : (y + 0) * W + x + a ≤ r.length := by
    have h2 : (y + 1) * W ≤ H * W := Nat.mul_le_mul_right _ h.1
    rw [Nat.succ_mul] at h2
    rw [hl, Nat.mul_comm W H, Nat.add_zero]
    omega
  exact (hig_spec hW hx f _ 1 (by rw [fillL_len hk, hl]) (by omega)).1
/-- the rectangles so far -/
structure CI (W H : Nat) (l : List Bool) (k : Nat) (st : List Bool × List Bx) : Prop where
  len : st.1.length = W * H
  sum : ∀ i, i < W * H → tms W st.2 i + (if st.1.getD i false then 1 else 0) = if l.getD i false then 1 else 0
  done : ∀ j, j < k → st.1.getD j false = false
  box : ∀ b ∈ st.2, 1 ≤ b.a ∧ 1 ≤ b.b ∧ b.x + b.a ≤ W ∧ b.y + b.b ≤ H
  ord : st.2.Pairwise fun p q => W * p.y + p.x < W * q.y + q.x
  last : ∀ b ∈ st.2, W * b.y + b.x < k
theorem ci_zero {W H : Nat} {l : List Bool} (hl : l.length = W * H) : CI W H l 0 (l, []) :=
  ⟨hl, fun i _ => by simp [tms], fun j h => by omega, fun b h => by simp at h, List.Pairwise.nil, fun b h => by simp at h⟩
theorem ci_step {W H : Nat} {l : List Bool} {k : Nat} {st : List Bool × List Bx} (h : CI W H l k st) (hk : k < W * H) (e : st.1.getD k false = true) : CI W H l (k + 1) (stp W H st k) := by
  obtain ⟨r, bs⟩ := st
  have hW : 0 < W := Nat.pos_of_ne_zero fun e => by rw [e] at hk; simp at hk
  have hx : k % W < W := Nat.mod_lt _ hW
  have hy : k / W < H := Nat.div_lt_of_lt_mul hk
  have ek : W * (k / W) + k % W = k := Nat.div_add_mod k W
  have e0 : r.getD k false = true := e
  unfold stp
  rw [if_pos e]
  have hB : hasB W H r ((k % W : Nat) : Int) ((k / W : Nat) : Int) = true := by rw [hasB_nat hx hy, Nat.mul_comm, ek]; exact e0
  have w1 := wid_pos (f := W) hW hB
  obtain ⟨_, w2⟩ := wid_spec r W H (k % W) (k / W) W 0
  show CI W H l (k + 1) ((hig W H (k % W) (k / W) (wid r W H (k % W) (k / W) W 0) r H 0).1, bs ++ [⟨k % W, k / W, wid r W H (k % W) (k / W) W 0, (hig W H (k % W) (k / W) (wid r W H (k % W) (k / W) W 0) r H 0).2⟩])
  generalize wid r W H (k % W) (k / W) W 0 = a at *
  have w3 := hasB_get (w2 (a - 1) (by omega) (by omega))
  have hxa : k % W + a ≤ W := by omega
  have hl : r.length = W * H := h.len
  have hok : okR r (k / W * W + k % W) a = true := by
    unfold okR
    rw [List.all_eq_true]
    intro v hv
    obtain ⟨j, hj, rfl⟩ := List.mem_iff_getElem.1 hv
    have hj' : j < a := by simp at hj; omega
    have := (hasB_get (w2 j (by omega) hj')).2.2
    simp at hj
    rw [List.getElem_take, List.getElem_drop]
    have hrow : (k / W + 1) * W ≤ H * W := Nat.mul_le_mul_right _ hy
    rw [Nat.succ_mul] at hrow
    have hlt : k / W * W + k % W + j < r.length := by rw [hl, Nat.mul_comm W H]; omega
    rw [List.getD_eq_getElem?_getD, show k / W * W + (k % W + j) = k / W * W + k % W + j by omega, List.getElem?_eq_getElem hlt] at this
    simpa using this
  obtain ⟨h1, h2, h3, h4, h5⟩ := hig_spec (y := k / W) hW hxa H r 0 hl (show k / W + 0 ≤ H from Nat.le_of_lt hy)
  have hp := hig_pos (f := H) (Nat.lt_of_le_of_lt (Nat.zero_le _) hy) hW hxa hl ⟨hy, hok⟩
  generalize hig W H (k % W) (k / W) a r H 0 = q at *
  refine ⟨h3, fun i hi => ?_, fun j hj => ?_, fun b hb => ?_, ?_, fun b hb => ?_⟩
  · have hs : tms W bs i + (if r.getD i false then 1 else 0) = if l.getD i false then 1 else 0 := h.sum i hi
    show tms W (bs ++ _) i + (if q.1.getD i false then 1 else 0) = _
    rw [← hs, h5 i]
    unfold tms
    rw [List.countP_append, List.countP_singleton]
    by_cases c : k / W ≤ i / W ∧ i / W < k / W + q.2 ∧ k % W ≤ i % W ∧ i % W < k % W + a
    · rw [if_pos (show inBx W _ i = true by unfold inBx; exact decide_eq_true c), @if_pos (k / W + 0 ≤ i / W ∧ i / W < k / W + q.2 ∧ k % W ≤ i % W ∧ i % W < k % W + a) _ (by rw [Nat.add_zero]; exact c), h4 i (by rw [Nat.add_zero]; exact c.1) c.2.1 c.2.2.1 c.2.2.2]
      simp
    · rw [if_neg (show ¬ inBx W _ i = true by unfold inBx; exact fun h => c (of_decide_eq_true h)), @if_neg (k / W + 0 ≤ i / W ∧ i / W < k / W + q.2 ∧ k % W ≤ i % W ∧ i % W < k % W + a) _ (by rw [Nat.add_zero]; exact c)]
      simp
  · show q.1.getD j false = false
    rw [h5 j]
    by_cases e' : j = k
    · subst e'
      rw [if_pos (by omega)]
    · split
      · rfl
      · exact h.done j (by omega)
  · rcases List.mem_append.1 hb with hb | hb
    · exact h.box b hb
    · obtain rfl := List.mem_singleton.1 hb
      exact ⟨w1, hp, hxa, h2⟩
  · show (bs ++ _).Pairwise _
    rw [List.pairwise_append]
    refine ⟨h.ord, List.pairwise_singleton _ _, fun p hp q hq => ?_⟩
    obtain rfl := List.mem_singleton.1 hq
    have := h.last p hp
    show _ < W * (k / W) + k % W
    omega
  · rcases List.mem_append.1 hb with hb | hb
    · have := h.last b hb
      omega
    · obtain rfl := List.mem_singleton.1 hb
      show W * (k / W) + k % W < _
      omega
theorem ci_skip {W H : Nat} {l : List Bool} {k : Nat} {st : List Bool × List Bx} (h : CI W H l k st) (e : st.1.getD k false = false) : CI W H l (k + 1) st :=
  ⟨h.len, h.sum, fun j hj => by
    by_cases e' : j = k
    · rw [e']; exact e
    · exact h.done j (by omega), h.box, h.ord, fun b hb => Nat.lt_succ_of_lt (h.last b hb)⟩
theorem ci_all {W H : Nat} {l : List Bool} (hl : l.length = W * H) : ∀ k, k ≤ l.length → CI W H l k (bxs W H l ((upF l k).map (·.1))) := by
  intro k
  induction k with
  | zero => intro _; exact ci_zero hl
  | succ k ih =>
    intro hk
    have h := ih (by omega)
    rw [upF_succ l (show k < l.length by omega)]
    by_cases e : l.getD k false = true
    · rw [if_pos e, List.map_append, List.map_cons, List.map_nil, bxs_snoc]
      show CI W H l (k + 1) (stp W H _ k)
      generalize bxs W H l ((upF l k).map (·.1)) = st at *
      by_cases e2 : st.1.getD k false = true
      · exact ci_step h (by omega) e2
      · have e3 : st.1.getD k false = false := by simpa using e2
        unfold stp
        rw [if_neg e2]
        exact ci_skip h e3
    · rw [if_neg e]
      refine ci_skip h ?_
      have := h.sum k (by omega)
      rw [if_neg e] at this
      split at this
      · omega
      · rename_i e2; simpa using e2
theorem cover {W H : Nat} {l : List Bool} (hl : l.length = W * H) :
    (∀ b ∈ (bxs W H l ((upF l l.length).map (·.1))).2, 1 ≤ b.a ∧ 1 ≤ b.b ∧ b.x + b.a ≤ W ∧ b.y + b.b ≤ H) ∧
    (bxs W H l ((upF l l.length).map (·.1))).2.Pairwise (fun p q => W * p.y + p.x < W * q.y + q.x) ∧
    ∀ i, i < W * H → tms W (bxs W H l ((upF l l.length).map (·.1))).2 i = if l.getD i false then 1 else 0 := by
  have h := ci_all hl l.length (Nat.le_refl _)
  refine ⟨h.box, h.ord, fun i hi => ?_⟩
  have := h.sum i hi
  rw [h.done i (by omega)] at this
  simpa using this
end Go.Proofs.Ytclidonogebgkaa.Ct
