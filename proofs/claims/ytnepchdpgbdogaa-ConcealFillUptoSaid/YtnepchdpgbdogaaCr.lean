/- A grid under way: a row of its own in a cell; what appends to others leave of it. -/
import Derived.Test.YtnepchdpgbdogaaMi
namespace Go.Proofs.Ytnepchdpgbdogaa.Ct
open Go.ChangeShapes Go.WideShapes Go.RowKit Mm
structure CR (w : World) (K : Nat) (h1 h2 : Int) (B : Nat) (f : Nat → List Int) (n : Nat) (v : Value) : Prop where
  blk : Blk w K 24 #[.int .i64 h1, .int .i64 h2, v]
  own : w.ownsRow B 48 64 v n (bsC (lst f n))
def Own (v : Value) : Nat → Prop := fun k => v.ownBlock = some k
section
variable {w w0 w1 : World} {K K' : Nat} {h1 h2 h1' h2' : Int} {B B' : Nat} {f f' : Nat → List Int} {n n' : Nat} {v v' u : Value}
theorem CR.no (h : CR w K h1 h2 B f n v) (o : Only No w w1) : CR w1 K h1 h2 B f n v := ⟨h.blk.only o id, own_only h.own o fun _ _ => id⟩
theorem CR.notK (h : CR w K h1 h2 B f n v) : ¬ v.ownBlock = some K := own_blk h.own h.blk (by decide)
/-- the append onto it, and its store -/
theorem CR.app (h : CR w K h1 h2 B f n v) (o : Only No w w0) (o1 : Only (Own v) w0 w1) (hv : w1.ownsRow B 48 64 v' (n + 1) (bsC (lst f n) ++ blC (f n))) : CR (w1.setCell ⟨K, 2, none⟩ v') K h1 h2 B f (n + 1) v' := by
  have hb := (h.no o).blk.only o1 h.notK
  have e : bsC (lst f n) ++ blC (f n) = bsC (lst f (n + 1)) := by rw [lst_succ, bsC, bsC, List.flatMap_append]; simp
  rw [e] at hv
  refine ⟨hb.set 2 _, own_only hv ((Only.refl (One K) w1).setCell (p := ⟨K, 2, none⟩) (.inl rfl) _) fun i hi h => ?_⟩
  have h : i = K := h
  subst h
  exact own_blk hv hb (by decide) hi
/-- the append onto another one -/
theorem CR.other (h : CR w K h1 h2 B f n v) (o : Only No w w0) (o1 : Only (Own u) w0 w1) (hu : ¬ u.ownBlock = some K) (hd : ∀ i, u.ownBlock = some i → ¬ v.ownBlock = some i) : CR w1 K h1 h2 B f n v :=
  ⟨(h.no o).blk.only o1 hu, own_only (h.no o).own o1 fun i hi hu' => hd i hu' hi⟩
theorem CR.cell (h : CR w K h1 h2 B f n v) (hne : K ≠ K') (u : Value) (hv : ¬ v.ownBlock = some K') : CR (w.setCell ⟨K', 2, none⟩ u) K h1 h2 B f n v :=
  ⟨h.blk.far hne u, own_only h.own ((Only.refl (One K') w).setCell (p := ⟨K', 2, none⟩) (.inl rfl) _) fun i hi h => by have h : i = K' := h; subst h; exact hv hi⟩
theorem CR.lt (h : CR w K h1 h2 B f n v) : ∀ i, v.ownBlock = some i → i < w.heap.size := own_lt h.own
end
section
variable {S : Nat → Prop} {wS wx w0 w1 : World} {K K' : Nat} {a1 a2 b1 b2 : Int} {B : Nat} {fL fT : Nat → List Int} {k m n : Nat} {vL vT vB v' : Value} {xs : List Value}
/-- a block more for one of two grids -/
theorem step_one (hSK : S K) (hL : CR wx K a1 a2 B fL k vL) (hT : CR wx K' b1 b2 B fT m vT) (hB : wx.ownsRow B 4 1 vB n xs) (hd : ∀ i, vL.ownBlock = some i → ¬ vT.ownBlock = some i) (ho : Only S wS wx) (hBs : wS.heap.size ≤ B) (hne : K ≠ K')
    (o : Only No wx w0) (o1 : Only (Own vL) w0 w1) (hv : w1.ownsRow B 48 64 v' (k + 1) (bsC (lst fL k) ++ blC (fL k))) (hat : v'.ownBlock = vL.ownBlock ∨ v'.ownBlock = some w0.heap.size) :
    CR (w1.setCell ⟨K, 2, none⟩ v') K a1 a2 B fL (k + 1) v' ∧ CR (w1.setCell ⟨K, 2, none⟩ v') K' b1 b2 B fT m vT ∧ (w1.setCell ⟨K, 2, none⟩ v').ownsRow B 4 1 vB n xs ∧ (∀ i, v'.ownBlock = some i → ¬ vT.ownBlock = some i) ∧ Only S wS (w1.setCell ⟨K, 2, none⟩ v') := by
  refine ⟨hL.app o o1 hv, (hT.other o o1 (own_blk hL.own hT.blk (by decide)) hd).cell (fun h => hne h.symm) _ (own_blk hT.own hL.blk (by decide)), ?_, fun i hi => ?_, ?_⟩
  · refine own_only (own_only (own_only hB o fun _ _ => id) o1 fun i hi h => own_ne hB hL.own (by decide) i hi h) ((Only.refl (One K) w1).setCell (p := ⟨K, 2, none⟩) (.inl rfl) _) fun i hi h => ?_
    have h : i = K := h
    subst h
    exact own_blk hB hL.blk (by decide) hi
  · rcases hat with h | h
    · exact hd i (by rw [← h]; exact hi)
    · rw [h] at hi
      injection hi with hi
      intro hT'
      have := hT.lt i hT'
      have := o.size
      omega
  · exact (((ho.trans (o.mono fun _ h => h.elim)).then o1 fun i hi => .inr (by have := own_ge hL.own i hi; omega))).setCell (p := ⟨K, 2, none⟩) (.inl hSK) _
/-- a flag more -/
theorem step_flag (hL : CR wx K a1 a2 B fL k vL) (hB : wx.ownsRow B 4 1 vB n xs) (o : Only No wx w0) (o1 : Only (Own vB) w0 w1) : CR w1 K a1 a2 B fL k vL :=
  hL.other o o1 (own_blk hB hL.blk (by decide)) fun i hi => own_ne hB hL.own (by decide) i hi
theorem only_own (ho : Only S wS wx) (hBs : wS.heap.size ≤ B) {e : TypeId} {size : Nat} (hB : wx.ownsRow B e size vB n xs) (o : Only No wx w0) (o1 : Only (Own vB) w0 w1) : Only S wS w1 :=
  (ho.trans (o.mono fun _ h => h.elim)).then o1 fun i hi => .inr (by have := own_ge hB i hi; omega)
end
theorem blC_set (b : List Int) (v : Int) : (blC b).toArray.setIfInBounds 0 (.int .i16 v) = (blC (b.set 0 v)).toArray := by
  simp [blC, List.map_set]
/-- the left grid (in cell K) and the turned one (in cell K'), with the left one's flags, k places of each -/
def Ms (wS wx : World) (K K' : Nat) (h1 h2 : Int) (fL fT : Nat → List Int) (fB : Nat → Bool) (k : Nat) (v : Value) : Prop :=
  ∃ vL vT, CR wx K h1 h2 wS.heap.size fL k vL ∧ CR wx K' h1 h2 wS.heap.size fT k vT ∧ wx.ownsRow wS.heap.size 4 1 v k (boC (lst fB k)) ∧ (∀ i, vL.ownBlock = some i → ¬ vT.ownBlock = some i) ∧ Only (fun b => b = K ∨ b = K') wS wx
theorem Rds.far {w : World} {size n : Nat} {A : Option Addr} {xs : List Value} (h : Rds w size A n xs) (hn : 0 < n) : ∀ ad, A = some ad → ad.block < w.heap.size := by
  obtain ⟨ad', e, hb, _⟩ := h.2 hn
  intro ad h'
  rw [e] at h'
  cases h'
  exact hb
theorem far_one {A : Option Addr} {n c k : Nat} (h : ¬ (Value.slice A n c).ownBlock = some k) : Far (One k) A := fun ad e h' => h (by rw [e]; exact congrArg some h')
/-- the swapped grid (in cell K), with its flags, k places of each -/
def Ss (wS wx : World) (K : Nat) (h1 h2 : Int) (fL : Nat → List Int) (fB : Nat → Bool) (k : Nat) (v : Value) : Prop :=
  ∃ vL, CR wx K h1 h2 wS.heap.size fL k vL ∧ wx.ownsRow wS.heap.size 4 1 v k (boC (lst fB k)) ∧ Only (One K) wS wx
/-- a block more for one grid alone -/
theorem step_alone {wS wx w0 w1 : World} {K : Nat} {a1 a2 : Int} {B : Nat} {fL : Nat → List Int} {k n : Nat} {vL vB v' : Value} {xs : List Value} (hL : CR wx K a1 a2 B fL k vL) (hB : wx.ownsRow B 4 1 vB n xs) (ho : Only (One K) wS wx) (hBs : wS.heap.size ≤ B)
    (o : Only No wx w0) (o1 : Only (Own vL) w0 w1) (hv : w1.ownsRow B 48 64 v' (k + 1) (bsC (lst fL k) ++ blC (fL k))) :
    CR (w1.setCell ⟨K, 2, none⟩ v') K a1 a2 B fL (k + 1) v' ∧ (w1.setCell ⟨K, 2, none⟩ v').ownsRow B 4 1 vB n xs ∧ Only (One K) wS (w1.setCell ⟨K, 2, none⟩ v') := by
  refine ⟨hL.app o o1 hv, ?_, ?_⟩
  · refine own_only (own_only (own_only hB o fun _ _ => id) o1 fun i hi h => own_ne hB hL.own (by decide) i hi h) ((Only.refl (One K) w1).setCell (p := ⟨K, 2, none⟩) (.inl rfl) _) fun i hi h => ?_
    have h : i = K := h
    subst h
    exact own_blk hB hL.blk (by decide) hi
  · exact (((ho.trans (o.mono fun _ h => h.elim)).then o1 fun i hi => .inr (by have := own_ge hL.own i hi; omega))).setCell (p := ⟨K, 2, none⟩) (.inl rfl) _
/-- what DC tells is no less than -32767, if no DC is -/
theorem dcP_above {W H : Nat} (hW : W ≤ 8192) (hH : H ≤ 8192) {l : List Bool} {D : Nat → Int} (hD : ∀ i, -32768 ≤ D i ∧ D i ≤ 32767) (hD' : ∀ i, -32767 ≤ D i) {x y : Int} (hi : inB W H x y = true) : -32767 ≤ dcP W H l D x y ∧ dcP W H l D x y ≤ 32767 := by
  obtain ⟨a, b, rfl, rfl, ha, hb⟩ := of_inB hi
  unfold dcP
  rw [if_pos hi]
  split
  · by_cases h : ∃ j, j < W * H ∧ l.getD j false = false
    · obtain ⟨j, hj, hf⟩ := h
      exact stP_within hW hH hD (by omega) (by omega) (fun j _ _ => ⟨hD' j, (hD j).2⟩) hj hf
    · rw [stP_zero fun j hj => by
        cases hf : l.getD j false
        · exact absurd ⟨j, hj, hf⟩ h
        · rfl]
      omega
  · exact ⟨hD' _, (hD _).2⟩
end Go.Proofs.Ytnepchdpgbdogaa.Ct
