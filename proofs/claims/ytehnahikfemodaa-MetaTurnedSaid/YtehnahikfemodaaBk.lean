/- What was laid into segments comes back: the plain law. -/
import Derived.Test.YtehnahikfemodaaPr
import Derived.Test.YtehnahikfemodaaWp
namespace Go.Proofs.Ytehnahikfemodaa.Ct
open Go.ChangeShapes Go.WideShapes Go.RowKit Mm
theorem begins_app (p x : ByteArray) : begins (p ++ x) p = true := by
  unfold begins
  rw [ByteArray.extract_append_eq_left rfl, ByteArray.size_append]
  simp
theorem byteAt_right (a b : ByteArray) (i : Nat) : byteAt (a ++ b) (a.size + i) = byteAt b i := by
  unfold byteAt
  rw [ByteArray.data_append, Array.getElem?_append_right (by show a.data.size ≤ _; have : a.data.size = a.size := rfl; omega)]
  have : a.data.size = a.size := rfl
  rw [this, Nat.add_sub_cancel_left]
theorem byteAt_left (a b : ByteArray) (i : Nat) (h : i < a.size) : byteAt (a ++ b) i = byteAt a i := by
  unfold byteAt
  rw [ByteArray.data_append, Array.getElem?_append_left h]
theorem byteAt_nums (xs : List Int) (i : Nat) (h : i < xs.length) (h0 : 0 ≤ xs[i] ∧ xs[i] ≤ 255) : byteAt (strOfNums xs) i = xs[i] := by
  unfold byteAt strOfNums
  simp only [List.getElem?_toArray, List.getElem?_map, List.getElem?_eq_getElem h, Option.map_some, Option.getD_some]
  rw [UInt8.toNat_ofNat']
  omega
theorem nm_piece (s : ByteArray) (k : Nat) (h : k + 1 ≤ 255) : nm (pieceP s k) = k + 1 := by
  have hd14 : 12 < headP.size + (0 + 1 + 1) := by decide
  unfold nm pieceP
  dsimp only
  rw [byteAt_left _ _ 12 (by rw [ByteArray.size_append, strOfNums_size]; simp only [List.length_cons, List.length_nil]; exact hd14)]
  have := byteAt_right headP (strOfNums [(k : Int) + 1, (allP s : Int)]) 0
  rw [show headP.size + 0 = 12 from rfl] at this
  rw [this, byteAt_nums _ 0 (by simp) (by simp; omega)]
  rfl
theorem ct_piece (s : ByteArray) (k : Nat) (h : allP s ≤ 255) : ct (pieceP s k) = allP s := by
  have hd14 : 13 < headP.size + (0 + 1 + 1) := by decide
  unfold ct pieceP
  dsimp only
  rw [byteAt_left _ _ 13 (by rw [ByteArray.size_append, strOfNums_size]; simp only [List.length_cons, List.length_nil]; exact hd14)]
  have := byteAt_right headP (strOfNums [(k : Int) + 1, (allP s : Int)]) 1
  rw [show headP.size + 1 = 13 from rfl] at this
  rw [this, byteAt_nums _ 1 (by simp) (by simp; omega)]
  rfl
theorem tt_piece (s : ByteArray) (k : Nat) : tt (pieceP s k) = s.extract (k * 65519) (min ((k + 1) * 65519) s.size) := by
  unfold tt pieceP
  dsimp only
  refine ByteArray.extract_append_eq_right ?_ ?_
  · rw [ByteArray.size_append, strOfNums_size]; rfl
  · rw [ByteArray.size_append]
theorem isPc_piece (s : ByteArray) (k : Nat) : isPc (pieceP s k) = true := by
  unfold isPc isKind pieceP
  dsimp only
  rw [show iccH = headP from rfl, ByteArray.append_assoc, begins_app]
  have h2 : (14 : Int) ≤ ((headP ++ (strOfNums [(k : Int) + 1, (allP s : Int)] ++ s.extract (k * 65519) (min ((k + 1) * 65519) s.size))).size : Int) := by
    rw [ByteArray.size_append, ByteArray.size_append, strOfNums_size]
    have : headP.size = 12 := rfl
    simp only [List.length_cons, List.length_nil]
    omega
  rw [decide_eq_true h2]
  rfl
theorem allP_le (s : ByteArray) (h : s.size ≤ 16707345) : allP s ≤ 255 := by unfold allP; omega
theorem wpl_mem {s : ByteArray} {N : Nat} {x : Ex} (h : x ∈ wpl s N) : ∃ k, k < N ∧ x = pieceP s k := by
  unfold wpl at h
  obtain ⟨k, hk, rfl⟩ := List.mem_map.1 h
  exact ⟨k, List.mem_range.1 hk, rfl⟩
theorem wpl_pw (s : ByteArray) (h : s.size ≤ 16707345) : Pf.Pw nm ct (wpl s (allP s)) := by
  unfold Pf.Pw wpl
  have hN := allP_le s h
  rw [List.pairwise_map]
  refine List.Pairwise.imp_of_mem ?_ List.pairwise_lt_range
  intro a b ha hb hab
  rw [List.mem_range] at ha hb
  rw [nm_piece s a (by omega), nm_piece s b (by omega), ct_piece s a hN, ct_piece s b hN]
  exact ⟨by omega, rfl⟩
section
set_option linter.unusedSectionVars false
variable {s : ByteArray} (h : s.size ≤ 16707345) {p : List Ex} (hp : p.Perm (wpl s (allP s)))
include h hp
theorem perm_len : p.length = allP s := by rw [hp.length_eq, wpl_len]
theorem perm_mem {x : Ex} (hx : x ∈ p) : ∃ k, k < allP s ∧ x = pieceP s k := wpl_mem (hp.mem_iff.1 hx)
theorem perm_in {k : Nat} (hk : k < allP s) : pieceP s k ∈ p := hp.mem_iff.2 (by unfold wpl; exact List.mem_map.2 ⟨k, List.mem_range.2 hk, rfl⟩)
theorem perm_good : Pf.Good nm ct p := by
  have hN := allP_le s h
  have hpw : Pf.Pw nm ct p := by
    unfold Pf.Pw
    rw [hp.pairwise_iff (fun {a b} hh => ⟨Ne.symm hh.1, hh.2.symm⟩)]
    exact wpl_pw s h
  refine ⟨hpw, ?_, fun k h1 h2 => ?_⟩
  · rw [perm_len h hp]
    rcases List.eq_nil_or_concat p with he | ⟨q, x, he⟩
    · have := perm_len h hp
      rw [he] at this ⊢
      simp only [List.length_nil] at this
      rw [← this]; rfl
    · rw [List.concat_eq_append] at he
      obtain ⟨k, hk, rfl⟩ := perm_mem h hp (x := x) (by rw [he]; simp)
      rw [he, Pf.lastC_snoc, ct_piece s k hN]
  · rw [perm_len h hp] at h2
    exact ⟨pieceP s (k - 1), perm_in h hp (by omega), by rw [nm_piece s (k - 1) (by omega)]; omega⟩
theorem perm_tx {j : Nat} (hj : j < allP s) : Pf.tx nm tt p ((j + 1 : Nat) : Int) = s.extract (j * 65519) (min ((j + 1) * 65519) s.size) := by
  have hN := allP_le s h
  unfold Pf.tx
  have hm := perm_in h hp hj
  cases hf : p.find? (fun x => nm x == ((j + 1 : Nat) : Int)) with
  | none =>
    rw [List.find?_eq_none] at hf
    exact absurd (by rw [nm_piece s j (by omega)]; simp) (hf _ hm)
  | some x =>
    obtain ⟨k, hk, rfl⟩ := perm_mem h hp (List.mem_of_find?_eq_some hf)
    have := List.find?_some hf
    rw [nm_piece s k (by omega)] at this
    have e : k = j := by simp at this; omega
    rw [e, Option.map_some, Option.getD_some, tt_piece]
theorem perm_cat (j : Nat) (hj : j ≤ allP s) : Pf.cat nm tt p j = s.extract 0 (min (j * 65519) s.size) := by
  induction j with
  | zero =>
    apply ByteArray.ext
    simp [Pf.cat]
  | succ j ih =>
    have hlt : j * 65519 < s.size := by unfold allP at hj; omega
    rw [Pf.cat, ih (by omega), perm_tx h hp (by omega)]
    rw [Nat.min_eq_left (by omega : j * 65519 ≤ s.size)]
    have e := ByteArray.extract_eq_extract_append_extract (a := s) (i := 0) (k := min ((j + 1) * 65519) s.size) (j * 65519) (by omega) (by omega)
    exact e.symm
theorem prof_perm : Pf.prof nm ct tt p = (s, 0) := by
  rw [prof_good (perm_good h hp), perm_len h hp, perm_cat h hp _ (Nat.le_refl _)]
  have : s.size ≤ allP s * 65519 := by unfold allP; omega
  rw [Nat.min_eq_right this, ByteArray.extract_zero_size]
end
end Go.Proofs.Ytehnahikfemodaa.Ct
