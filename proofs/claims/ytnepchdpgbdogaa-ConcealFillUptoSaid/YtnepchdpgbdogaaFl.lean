/- Fill: what it is; the walk. -/
import Derived.Test.YtnepchdpgbdogaaFc
import Derived.Deep.RegionLaw
import Derived.Laws.ResultCell
namespace Go.Proofs.Ytnepchdpgbdogaa.Ct
open Go.ChangeShapes Go.WideShapes Go.RowKit Mm
/-- a block of Fill's answer -/
def flB (W H : Nat) (l : List Bool) (bs : List (List Int)) (i : Nat) : List Int := if l.getD i false = true then stP W H l (dcs bs) ((i % W : Nat) : Int) ((i / W : Nat) : Int) :: List.replicate 63 0 else bs.getD i []
def flL (W H : Nat) (l : List Bool) (bs : List (List Int)) : List (List Int) := (List.range bs.length).map (flB W H l bs)
theorem flL_len (W H : Nat) (l : List Bool) (bs : List (List Int)) : (flL W H l bs).length = bs.length := by simp [flL]
theorem flL_get (W H : Nat) (l : List Bool) (bs : List (List Int)) (i : Nat) (hi : i < bs.length) : (flL W H l bs).getD i [] = flB W H l bs i := by simp [flL, hi]
theorem stP_bounds {W H : Nat} (hW : W ≤ 8192) (hH : H ≤ 8192) {l : List Bool} {D : Nat → Int} (hD : ∀ i, -32768 ≤ D i ∧ D i ≤ 32767) {x y : Int} (hx : 0 ≤ x ∧ x < W) (hy : 0 ≤ y ∧ y < H) : -32768 ≤ stP W H l D x y ∧ stP W H l D x y ≤ 32767 := by
  unfold stP
  split
  · exact mnP_bounds l hD _
  · exact siP_bounds (nbL_nbs hW hH hD hx hy) (by assumption)
theorem flB_ok {W H : Nat} (hW : W ≤ 8192) (hH : H ≤ 8192) {l : List Bool} {bs : List (List Int)} (hb : Bls bs) (hl : bs.length = W * H) {i : Nat} (hi : i < bs.length) : (flB W H l bs i).length = 64 ∧ ∀ v ∈ flB W H l bs i, -32768 ≤ v ∧ v ≤ 32767 := by
  obtain ⟨k1, k2, k3, _⟩ := idx_of (show i < W * H by omega)
  unfold flB
  split
  · refine ⟨by simp, fun v hv => ?_⟩
    rcases List.mem_cons.1 hv with rfl | hv
    · exact stP_bounds hW hH (dcs_bounds hb) ⟨Int.natCast_nonneg _, Int.ofNat_lt.2 k2⟩ ⟨Int.natCast_nonneg _, Int.ofNat_lt.2 k3⟩
    · have := (List.mem_replicate.1 hv).2
      subst this
      omega
  · rw [show bs.getD i [] = bs[i] by simp [hi]]
    exact hb _ (List.getElem_mem hi)
theorem flL_bls {W H : Nat} (hW : W ≤ 8192) (hH : H ≤ 8192) {l : List Bool} {bs : List (List Int)} (hb : Bls bs) (hl : bs.length = W * H) : Bls (flL W H l bs) := by
  intro b h
  unfold flL at h
  obtain ⟨i, hi, rfl⟩ := List.mem_map.1 h
  exact flB_ok hW hH hb hl (List.mem_range.1 hi)
/-- the answer's block, of which the first i are done -/
def Part (w : World) (g n : Nat) (f : Nat → List Int) (i : Nat) : Prop := ∃ es, Blk w g 48 es ∧ es.size = n * 64 ∧ ∀ j, j < i → ∀ r, r < 64 → es[j * 64 + r]? = some (.int .i16 ((f j).getD r 0))
theorem Part.only {S : Nat → Prop} {w w' : World} {g n i : Nat} {f : Nat → List Int} (h : Part w g n f i) (ho : Only S w w') (hg : ¬ S g) : Part w' g n f i := by
  obtain ⟨es, a, b, c⟩ := h
  exact ⟨es, a.only ho hg, b, c⟩
theorem Part.step {w : World} {g n i : Nat} {f : Nat → List Int} (h : Part w g n f i) (hi : i < n) (hf : (f i).length = 64) : Part (w.setCells g (i * 64) (blC (f i))) g n f (i + 1) := by
  obtain ⟨es, a, b, c⟩ := h
  have hb : (blC (f i)).length = 64 := by rw [blC_length, hf]
  obtain ⟨fs, f1, f2, f3, f4⟩ := setCells_blk g 48 (blC (f i)) (i * 64) w es a (by omega)
  refine ⟨fs, f1, by omega, fun j hj r hr => ?_⟩
  by_cases hji : j = i
  · subst hji
    rw [f3 r (by omega)]
    have hrl : r < (f j).length := by omega
    simp [blC, hrl]
  · rw [f4 _ (.inl (by omega))]
    exact c j (by omega) r hr
theorem Part.there {w : World} {g n i : Nat} {f : Nat → List Int} (h : Part w g n f i) (hi : i < n) : w.there g (i * 64) 64 := by
  obtain ⟨es, a, b, c⟩ := h
  intro j hj
  refine ⟨?_, a.frozen _⟩
  rw [a.cell, Array.getElem?_eq_getElem (by omega)]
  rfl
theorem Part.whole {w : World} {g : Nat} {L : List (List Int)} (hL : Bls L) {f : Nat → List Int} (h : Part w g L.length f L.length) (hf : ∀ j, j < L.length → L.getD j [] = f j) : Blk w g 48 (bsC L).toArray := by
  obtain ⟨es, a, b, c⟩ := h
  have : es = (bsC L).toArray := by
    apply Array.ext_getElem?
    intro k
    by_cases hk : k < L.length * 64
    · have h1 : k / 64 < L.length := by omega
      have h2 := c (k / 64) h1 (k % 64) (by omega)
      have h3 := bsC_get hL (k / 64) (k % 64) h1 (by omega)
      rw [show k / 64 * 64 + k % 64 = k by omega] at h2 h3
      rw [h2, List.getElem?_toArray, h3, hf _ h1]
    · rw [Array.getElem?_eq_none (by omega), Array.getElem?_eq_none (by rw [List.size_toArray, bsC_length hL]; omega)]
  rw [← this]
  exact a
section
variable {ops : Array Oper} {rest : List Oper} {a : Act} {w : World} {Q : Exit → Act → World → Prop} {d : Option Tmp} {x y : Operand} {ty : TypeId} {p : String} {af : Array Edge}
theorem wl_storePart (g n i : Nat) (f : Nat → List Int) (b : List Int) (hfb : f i = b) (ad : Addr) (hx : a.eval x = .pointer (some ad)) (had : ad = ⟨g, i * 64, none⟩) (hy : a.eval y = .agg (blC b).toArray) (hp : Part w g n f i) (hi : i < n) (hf : (f i).length = 64)
    (h : ∀ w', Part w' g n f (i + 1) → Only (One g) w w' → wpList Try.prog ops Q rest (a.put d undef) w') : wpList Try.prog ops Q (⟨d, .store 48 x y, ty, p, af, none⟩ :: rest) a w := by
  subst had
  subst hfb
  have hb : (blC (f i)).length = 64 := by rw [blC_length, hf]
  refine wpList_store_mid rfl 48 x y rfl g (i * 64) (blC (f i)).toArray hx hy (by rw [List.size_toArray, hb]; exact hp.there hi) (by rw [info48, List.size_toArray, hb]) (all_oneCell_toArray (blC_one _)) ?_
  rw [List.toList_toArray]
  exact h _ (hp.step hi hf) (setCells_only (S := One g) g (.inl rfl) _ _ w (Only.refl _ _))
end
theorem flB_not {W H : Nat} {l : List Bool} {bs : List (List Int)} {i : Nat} (h : l.getD i false = false) : flB W H l bs i = bs.getD i [] := by unfold flB; rw [if_neg (by rw [h]; decide)]
theorem flB_yes {W H : Nat} {l : List Bool} {bs : List (List Int)} {i : Nat} (h : l.getD i false = true) : flB W H l bs i = stP W H l (dcs bs) ((i % W : Nat) : Int) ((i / W : Nat) : Int) :: List.replicate 63 0 := by unfold flB; rw [if_pos h]
theorem info48z : ∃ i, Try.prog.info? 48 = some i ∧ (∃ z, i.zero = some z) ∧ i.size = 64 ∧ i.bytes = 128 := by
  have h : (Try.prog.info? 48).map (fun i => (i.zero.isSome, i.size, i.bytes)) = some (true, 64, 128) := by kernel_rfl
  cases hq : Try.prog.info? 48 with
  | none => simp [hq] at h
  | some i =>
    simp only [hq, Option.map_some, Option.some.injEq, Prod.mk.injEq] at h
    exact ⟨i, rfl, Option.isSome_iff_exists.1 h.1, h.2.1, h.2.2⟩
end Go.Proofs.Ytnepchdpgbdogaa.Ct
