/- The mirrored grids, place by place: plain laws. -/
import Derived.Test.YtnepchdpgbdogaaMl
import Derived.Test.YtnepchdpgbdogaaRw
namespace Go.Proofs.Ytnepchdpgbdogaa.Ct
open Go.ChangeShapes Go.WideShapes Go.RowKit Mm
theorem dm {W x y : Nat} (h : x < W) : (y * W + x) / W = y ∧ (y * W + x) % W = x := by
  rw [Nat.mul_comm y W, Nat.mul_add_div (by omega), Nat.div_eq_of_lt h, Nat.mul_add_mod, Nat.mod_eq_of_lt h]
  omega
def clB (b : List Int) : List Int := if b.getD 0 0 = -32768 then b.set 0 (-32767) else b
def clL (bs : List (List Int)) (n : Nat) : List (List Int) := (List.range bs.length).map fun j => if j < n then clB (bs.getD j []) else bs.getD j []
def ngB (b : List Int) : List Int := b.set 0 (-(b.getD 0 0))
def Ok (b : List Int) : Prop := b.length = 64 ∧ ∀ v ∈ b, -32768 ≤ v ∧ v ≤ 32767
theorem getD_ok {b : List Int} (h : Ok b) (i : Nat) : -32768 ≤ b.getD i 0 ∧ b.getD i 0 ≤ 32767 := by
  by_cases hi : i < b.length
  · have e : b.getD i 0 = b[i] := by simp [hi]
    rw [e]
    exact h.2 _ (List.getElem_mem _)
  · have e : b.getD i 0 = 0 := by simp [List.getD, List.getElem?_eq_none (Nat.le_of_not_lt hi)]
    omega
theorem set_ok {b : List Int} (h : Ok b) (i : Nat) {v : Int} (hv : -32768 ≤ v ∧ v ≤ 32767) : Ok (b.set i v) :=
  ⟨by rw [List.length_set]; exact h.1, fun x hx => by
    rcases List.mem_or_eq_of_mem_set hx with h' | h'
    · exact h.2 x h'
    · rw [h']; exact hv⟩
theorem clB_ok {b : List Int} (h : Ok b) : Ok (clB b) := by
  unfold clB
  split
  · exact set_ok h 0 (by omega)
  · exact h
theorem clB_dc {b : List Int} (h : Ok b) : -32767 ≤ (clB b).getD 0 0 := by
  have h0 := getD_ok h 0
  have hl := h.1
  unfold clB
  split
  · have : 0 < b.length := by omega
    simp [this]
  · omega
theorem ngB_ok {b : List Int} (h : Ok b) (hd : -32767 ≤ b.getD 0 0) : Ok (ngB b) := set_ok h 0 (by have := getD_ok h 0; omega)
theorem ngB_dc {b : List Int} (h : Ok b) : (ngB b).getD 0 0 = - b.getD 0 0 := by
  have : 0 < b.length := by have := h.1; omega
  simp [ngB, this]
theorem bls_get {bs : List (List Int)} (h : Bls bs) {i : Nat} (hi : i < bs.length) : Ok (bs.getD i []) := by
  have e : bs.getD i [] = bs[i] := by simp [hi]
  rw [e]
  exact h _ (List.getElem_mem _)
theorem clL_len (bs : List (List Int)) (n : Nat) : (clL bs n).length = bs.length := by simp [clL]
theorem clL_get (bs : List (List Int)) (n j : Nat) (hj : j < bs.length) : (clL bs n).getD j [] = if j < n then clB (bs.getD j []) else bs.getD j [] := by simp [clL, hj]
theorem clL_bls {bs : List (List Int)} (h : Bls bs) (n : Nat) : Bls (clL bs n) := by
  intro b hb
  obtain ⟨j, hj, rfl⟩ := List.mem_map.1 hb
  have hj := List.mem_range.1 hj
  split
  · exact clB_ok (bls_get h hj)
  · exact bls_get h hj
theorem clL_zero (bs : List (List Int)) : clL bs 0 = bs := by
  refine List.ext_getElem (by rw [clL_len]) fun j h1 h2 => ?_
  simp [clL, List.getD, h2]
theorem clL_succ (bs : List (List Int)) (n : Nat) : clL bs (n + 1) = (clL bs n).set n (clB (bs.getD n [])) := by
  refine List.ext_getElem (by rw [List.length_set, clL_len, clL_len]) fun j h1 h2 => ?_
  have key : ∀ k (h : j < (clL bs k).length), (clL bs k)[j] = if j < k then clB (bs.getD j []) else bs.getD j [] := fun k h => by simp [clL]
  rw [List.getElem_set, key]
  by_cases hj : n = j
  · subst hj
    rw [if_pos rfl, if_pos (by omega)]
  · rw [if_neg hj, key]
    have : (j < n + 1) = (j < n) := by simp; omega
    simp only [this]
theorem clL_keep {bs : List (List Int)} {n : Nat} (h : ¬ (bs.getD n []).getD 0 0 = -32768) : clL bs (n + 1) = clL bs n := by
  unfold clL
  refine List.map_congr_left fun j _ => ?_
  by_cases hj : j = n
  · subst hj
    rw [if_pos (by omega), if_neg (by omega), clB, if_neg h]
  · have : (j < n + 1) = (j < n) := by simp; omega
    simp only [this]
theorem clL_dc {bs : List (List Int)} (h : Bls bs) {n j : Nat} (hn : bs.length ≤ n) : -32767 ≤ dcs (clL bs n) j := by
  unfold dcs
  by_cases hj : j < bs.length
  · rw [clL_get bs n j hj, if_pos (by omega)]
    exact clB_dc (bls_get h hj)
  · simp [List.getD, List.getElem?_eq_none (show (clL bs n).length ≤ j by rw [clL_len]; omega)]
/-! ### lists made place by place -/
def lst {α : Type} (f : Nat → α) (n : Nat) : List α := (List.range n).map f
theorem lst_len {α : Type} (f : Nat → α) (n : Nat) : (lst f n).length = n := by simp [lst]
theorem lst_succ {α : Type} (f : Nat → α) (n : Nat) : lst f (n + 1) = lst f n ++ [f n] := by simp [lst, List.range_succ]
theorem lst_get {α : Type} (f : Nat → α) (n j : Nat) (d : α) (hj : j < n) : (lst f n).getD j d = f j := by simp [lst, hj]
theorem lst_bls {f : Nat → List Int} {n : Nat} (h : ∀ j, j < n → Ok (f j)) : Bls (lst f n) := by
  intro b hb
  obtain ⟨j, hj, rfl⟩ := List.mem_map.1 hb
  exact h j (List.mem_range.1 hj)
/-- from the other side -/
def lf (W j : Nat) : Nat := j / W * W + (W - 1 - j % W)
/-- rows and columns exchanged -/
def sw (W H j : Nat) : Nat := j % H * W + j / H
theorem lf_at {W x y : Nat} (h : x < W) : lf W (y * W + x) = y * W + (W - 1 - x) := by
  unfold lf
  rw [(dm h).1, (dm h).2]
theorem sw_at {W H x y : Nat} (h : y < H) : sw W H (x * H + y) = y * W + x := by
  unfold sw
  rw [(dm h).1, (dm h).2]
theorem lf_lt {W H j : Nat} (h : j < W * H) : lf W j < W * H := by
  obtain ⟨h1, h2, h3, _⟩ := idx_of h
  exact idx_lt (show W - 1 - j % W < W by omega) h3
theorem sw_lt {W H j : Nat} (h : j < H * W) : sw W H j < W * H := by
  obtain ⟨h1, h2, h3, _⟩ := idx_of h
  exact idx_lt h3 h2
theorem lefts_of {W H : Nat} {l : List Bool} {qs : List (List Int)} : Lefts W H l (lst (fun j => l.getD (lf W j) false) (W * H)) (dcs qs) (dcs (lst (fun j => qs.getD (lf W j) []) (W * H))) := by
  refine ⟨fun x y hx hy => ?_, fun x y hx hy => ?_⟩
  · rw [lst_get _ _ _ _ (idx_lt (by omega) hy), lf_at (by omega), show W - 1 - (W - 1 - x) = x by omega]
  · unfold dcs
    rw [lst_get _ _ _ _ (idx_lt (by omega) hy), lf_at (by omega), show W - 1 - (W - 1 - x) = x by omega]
theorem swaps_of {W H : Nat} {l : List Bool} {qs : List (List Int)} : Swaps W H l (lst (fun j => l.getD (sw W H j) false) (H * W)) (dcs qs) (dcs (lst (fun j => qs.getD (sw W H j) []) (H * W))) := by
  refine ⟨fun x y hx hy => ?_, fun x y hx hy => ?_⟩
  · rw [lst_get _ _ _ _ (idx_lt (W := H) hy hx), sw_at hy]
  · unfold dcs
    rw [lst_get _ _ _ _ (idx_lt (W := H) hy hx), sw_at hy]
theorem turns_of {qs : List (List Int)} (h : Bls qs) {n : Nat} (hn : qs.length = n) : ∀ j, j < n → dcs (lst (fun j => ngB (qs.getD j [])) n) j = - dcs qs j := by
  intro j hj
  unfold dcs
  rw [lst_get _ _ _ _ hj]
  exact ngB_dc (bls_get h (by omega))
/-! ### a row that may be empty -/
def RowO (w : World) (A : Option Addr) (L : List (List Int)) : Prop := L = [] ∨ ∃ G, A = some ⟨G, 0, none⟩ ∧ Row w G L
theorem RowO.only {S : Nat → Prop} {w w' : World} {A : Option Addr} {L : List (List Int)} (h : RowO w A L) (ho : Only S w w') (hS : ∀ G, A = some ⟨G, 0, none⟩ → ¬ S G) : RowO w' A L :=
  h.imp id fun ⟨G, e, hr⟩ => ⟨G, e, hr.only ho (hS G e)⟩
theorem RowO.of_own {w : World} {base n c : Nat} {A : Option Addr} {L : List (List Int)} (hL : Bls L) (h : w.ownsRow base 48 64 (.slice A n c) n (bsC L)) : RowO w A L := by
  by_cases h0 : L = []
  · exact .inl h0
  · rcases h.2 with ⟨_, hn⟩ | ⟨g, cap, cur, hv, _⟩
    · have := h.1
      rw [bsC_length hL, hn] at this
      have : L.length = 0 := by omega
      exact absurd (List.eq_nil_of_length_eq_zero this) h0
    · injection hv with hA _ hc
      subst hA hc
      exact .inr ⟨g, rfl, Row.of_own hL h⟩
theorem RowO.rds {w : World} {A : Option Addr} {n : Nat} {L : List (List Int)} (hL : Bls L) (hn : L.length = n) (h : RowO w A L) : Rds w 64 A n (bsC L) := by
  subst hn
  rcases h with rfl | ⟨G, rfl, hr⟩
  · exact ⟨rfl, fun h => by simp at h⟩
  · have := hr.rds hL (Nat.le_refl _)
    rwa [List.take_length] at this
theorem Row.set0 {w : World} {g i : Nat} {L : List (List Int)} {b : List Int} {v : Int} (h : Row w g L) (hb : b = L.getD i []) (hi : i < L.length) (hl : b.length = 64) : Row (w.setCell ⟨g, i * 64, none⟩ (.int .i16 v)) g (L.set i (b.set 0 v)) := by
  obtain ⟨es, a, h2, c⟩ := h
  refine ⟨_, a.set (i * 64) _, by rw [List.length_set, Array.size_setIfInBounds]; exact h2, fun j hj r hr => ?_⟩
  rw [List.length_set] at hj
  have hcj := c j hj r hr
  have hsz : i * 64 < es.size := by omega
  by_cases hji : j = i
  · subst hji
    rw [← hb] at hcj
    have e : (L.set j (b.set 0 v)).getD j [] = b.set 0 v := by simp [hj]
    rw [e]
    by_cases hr0 : r = 0
    · subst hr0
      have h0 : 0 < b.length := by omega
      simp [hsz, h0]
    · have h1 : (b.set 0 v).getD r 0 = b.getD r 0 := by
        have : 0 ≠ r := fun h => hr0 h.symm
        simp [List.getD, this]
      rw [h1, ← hcj]
      exact Array.getElem?_setIfInBounds_ne (by omega)
  · have e : (L.set i (b.set 0 v)).getD j [] = L.getD j [] := by
      have : i ≠ j := fun h => hji h.symm
      simp [List.getD, this]
    rw [e, ← hcj]
    exact Array.getElem?_setIfInBounds_ne (by omega)
end Go.Proofs.Ytnepchdpgbdogaa.Ct
