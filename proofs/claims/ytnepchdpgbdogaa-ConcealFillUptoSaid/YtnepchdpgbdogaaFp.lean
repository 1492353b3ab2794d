/- Rows kept back (long), a row turned round. -/
import Derived.Test.YtnepchdpgbdogaaFv
namespace Go.Proofs.Ytnepchdpgbdogaa.Ct
open Go.ChangeShapes Go.WideShapes Go.RowKit Mm
theorem own_addr {w : World} {base size n c : Nat} {e : TypeId} {A : Option Addr} {xs : List Value} (h : w.ownsRow base e size (.slice A n c) n xs) (hn : 0 < n) : ∃ g, A = some ⟨g, 0, none⟩ := by
  obtain ⟨h1, h2⟩ := h
  rcases h2 with ⟨h0, hx⟩ | ⟨g, cap, cur, hv, _⟩
  · injection h0 with hA hm
    omega
  · injection hv with hA
    exact ⟨g, hA⟩
/-- four grids, of which the first i have been turned into marks and handed on as longer rows -/
structure Lg (w0 wx : World) (a b : Nat → Int) (n : Nat → Nat) (L : Nat → List (List Int)) (vg : Value) (vs us : Nat → Value) (i : Nat) (v : Value) : Prop where
  got : wx.ownsRow w0.heap.size 24 3 vg 4 (gcC a b vs 4)
  long : wx.ownsRow w0.heap.size 22 1 v i ((List.range i).map us)
  done : ∀ j, j < i → wx.ownsRow w0.heap.size 48 64 (us j) (n j + 9) (bsC (lgL (n j) j 9))
  left : ∀ k, i ≤ k → k < 4 → wx.ownsRow w0.heap.size 48 64 (vs k) (n k) (bsC (L k))
  apart : ∀ j k, j < i → i ≤ k → k < 4 → ∀ q, (us j).ownBlock = some q → ¬ (vs k).ownBlock = some q
  two : ∀ j k, j < k → k < i → ∀ q, (us j).ownBlock = some q → ¬ (us k).ownBlock = some q
  only : Only No w0 wx
theorem lg_start {w0 wx : World} {a b : Nat → Int} {n : Nat → Nat} {L : Nat → List (List Int)} {vg : Value} {vs us : Nat → Value} (h1 : wx.ownsRow w0.heap.size 24 3 vg 4 (gcC a b vs 4)) (h2 : ∀ j, j < 4 → wx.ownsRow w0.heap.size 48 64 (vs j) (n j) (bsC (L j))) (h4 : Only No w0 wx) :
    Lg w0 wx a b n L vg vs us 0 (.slice none 0 0) :=
  ⟨h1, World.ownsRow_nil _ _ _ _, fun j hj => by omega, fun k _ hk => h2 k hk, fun j k hj => by omega, fun j k _ hk => by omega, h4⟩
theorem range_map_congr (i : Nat) (f g : Nat → Value) (h : ∀ j, j < i → f j = g j) : (List.range i).map f = (List.range i).map g :=
  List.map_congr_left fun j hj => h j (List.mem_range.1 hj)
theorem Lg.step {w0 wx w1 w1' w2 : World} {a b : Nat → Int} {n : Nat → Nat} {L : Nat → List (List Int)} {vg : Value} {vs us : Nat → Value} {i : Nat} {v v' u : Value} (h : Lg w0 wx a b n L vg vs us i v) (hi : i < 4)
    (hvd : ∀ j k, j < k → k < 4 → ∀ q, (vs j).ownBlock = some q → ¬ (vs k).ownBlock = some q)
    (o1 : Only (Own (vs i)) wx w1) (hu : w1.ownsRow w0.heap.size 48 64 u (n i + 9) (bsC (lgL (n i) i 9))) (hub : ∀ q, u.ownBlock = some q → (vs i).ownBlock = some q ∨ wx.heap.size ≤ q)
    (o0 : Only No w1 w1') (o2 : Only (Own v) w1' w2) (hv : w2.ownsRow w0.heap.size 22 1 v' (i + 1) ((List.range i).map us ++ [u])) :
    Lg w0 w2 a b n L vg vs (fun j => if j = i then u else us j) (i + 1) v' := by
  have hL := h.left i (Nat.le_refl _) hi
  have e1 : w1'.ownsRow w0.heap.size 22 1 v i ((List.range i).map us) := own_only (own_only h.long o1 (own_ne h.long hL (by decide))) o0 (fun _ _ => id)
  have key : ∀ (x : Value) (e : TypeId) (s m : Nat) ys, wx.ownsRow w0.heap.size e s x m ys → (∀ q, x.ownBlock = some q → ¬ (vs i).ownBlock = some q) → e ≠ 22 → w2.ownsRow w0.heap.size e s x m ys := fun x e s m ys hx hq he => by
    have f1 := own_only (own_only hx o1 hq) o0 (fun _ _ => id)
    exact own_only f1 o2 (own_ne f1 e1 he)
  have hu2 : w2.ownsRow w0.heap.size 48 64 u (n i + 9) (bsC (lgL (n i) i 9)) := by
    have f1 := own_only hu o0 (fun _ _ => id)
    exact own_only f1 o2 (own_ne f1 e1 (by decide))
  refine ⟨key _ _ _ _ _ h.got (own_ne h.got hL (by decide)) (by decide), ?_, fun j hj => ?_, fun k hk hk4 => ?_, fun j k hj hk hk4 q hq hq' => ?_, fun j k hj hk q hq hq' => ?_, ?_⟩
  · rw [List.range_succ, List.map_append, range_map_congr i _ us (fun j hj => if_neg (by omega))]
    simpa using hv
  · by_cases hji : j = i
    · subst hji
      simp only [if_true]
      exact hu2
    · simp only [if_neg hji]
      exact key _ _ _ _ _ (h.done j (by omega)) (fun q hq => h.apart j i (by omega) (Nat.le_refl _) hi q hq) (by decide)
  · exact key _ _ _ _ _ (h.left k (by omega) hk4) (fun q hq hq' => hvd i k (by omega) hk4 q hq' hq) (by decide)
  · by_cases hji : j = i
    · subst hji
      simp only [if_true] at hq
      rcases hub q hq with h5 | h5
      · exact hvd j k (by omega) hk4 q h5 hq'
      · have := own_lt (h.left k (by omega) hk4) q hq'
        omega
    · simp only [if_neg hji] at hq
      exact h.apart j k (by omega) (by omega) hk4 q hq hq'
  · have hji : ¬ j = i := by omega
    simp only [if_neg hji] at hq
    by_cases hki : k = i
    · subst hki
      simp only [if_true] at hq'
      rcases hub q hq' with h5 | h5
      · exact h.apart j k (by omega) (Nat.le_refl _) hi q hq h5
      · have := own_lt (h.done j (by omega)) q hq
        omega
    · simp only [if_neg hki] at hq'
      exact h.two j k hj (by omega) q hq hq'
  · exact ((h.only.then o1 (fun q hq => .inr (own_ge hL q hq))).trans o0).then o2 (fun q hq => .inr (own_ge h.long q hq))
/-- the row being turned round: the first i blocks are the last ones -/
def rvL (bs : List (List Int)) (i : Nat) : List (List Int) := bs.reverse.take i ++ bs.drop i
theorem rvL_zero (bs : List (List Int)) : rvL bs 0 = bs := rfl
theorem rvL_len (bs : List (List Int)) (i : Nat) (h : i ≤ bs.length) : (rvL bs i).length = bs.length := by
  unfold rvL; rw [List.length_append, List.length_take, List.length_drop, List.length_reverse]; omega
theorem rvL_all (bs : List (List Int)) : rvL bs bs.length = bs.reverse := by
  unfold rvL
  rw [List.drop_length, List.append_nil, List.take_of_length_le (by simp)]
theorem rvL_succ (bs : List (List Int)) (i : Nat) (h : i < bs.length) : rvL bs (i + 1) = (rvL bs i).set i (bs.getD (bs.length - 1 - i) []) := by
  unfold rvL
  have hl : (bs.reverse.take i).length = i := by rw [List.length_take, List.length_reverse]; omega
  have h2 : bs.reverse.take (i + 1) = bs.reverse.take i ++ [bs.getD (bs.length - 1 - i) []] := by
    rw [List.take_add_one, List.getElem?_reverse h, List.getD_eq_getElem?_getD]
    rw [List.getElem?_eq_getElem (by omega)]
    rfl
  rw [h2, List.set_append_right _ _ (by omega), hl, Nat.sub_self, List.drop_eq_getElem_cons h, List.set_cons_zero, List.append_assoc]
  rfl
theorem bls_reverse {bs : List (List Int)} (h : Bls bs) : Bls bs.reverse := fun b hb => h b (List.mem_reverse.1 hb)
theorem bls_rvL {bs : List (List Int)} (h : Bls bs) (i : Nat) : Bls (rvL bs i) := by
  intro b hb
  rcases List.mem_append.1 hb with h' | h'
  · exact h b (List.mem_reverse.1 (List.mem_of_mem_take h'))
  · exact h b (List.mem_of_mem_drop h')
end Go.Proofs.Ytnepchdpgbdogaa.Ct
