/- MeasureOrdered: plain laws. -/
import Derived.Test.YtfaciljklligeaaOm
import Derived.Test.YtfaciljklligeaaOn
namespace Go.Proofs.Ytfaciljklligeaa.Ct
open Go.ChangeShapes Go.WideShapes Go.RowKit Mm
abbrev oG (a b : Nat) : Option Ordering := FloatKind.f64.format.order a b
theorem nan_ofe {a b : Nat} (h : FEq a b) (k : NaN b) : NaN a := h.elim (fun e => e ▸ k) (fun e => e.1)
def nanB (x : Nat) : Bool := decide (Fp.infR < x % 2 ^ 63)
theorem nanB_true {x : Nat} : nanB x = true ↔ NaN x := by unfold nanB; rw [decide_eq_true_eq, nan_iff]
def cnt (p : Nat → Bool) (l : List Nat) (i : Nat) : Int := ((l.take i).countP p : Nat)
theorem cnt_zero (p : Nat → Bool) (l : List Nat) : cnt p l 0 = 0 := rfl
theorem cnt_succ (p : Nat → Bool) {l : List Nat} {i : Nat} (h : i < l.length) : cnt p l (i + 1) = cnt p l i + (if p (l.getD i 0) then 1 else 0) := by
  unfold cnt
  rw [List.take_succ_eq_append_getElem h, List.countP_append, show l.getD i 0 = l[i] by simp [h]]
  by_cases hp : p l[i] <;> simp [hp]
theorem cnt_bound (p : Nat → Bool) (l : List Nat) (i : Nat) : 0 ≤ cnt p l i ∧ cnt p l i ≤ i := by
  unfold cnt
  have h1 := List.countP_le_length (p := p) (l := l.take i)
  have h2 : (l.take i).length ≤ i := by rw [List.length_take]; omega
  omega
theorem cnt_perm (p : Nat → Bool) {a b : List Nat} (h : a.Perm b) {n : Nat} (hn : n = b.length) : cnt p a n = cnt p b n := by
  unfold cnt
  subst hn
  rw [List.take_length, show a.take b.length = a by rw [← h.length_eq, List.take_length], h.countP_eq]
/-- a place and the one ahead -/
theorem step_ok {ms : List Nat} (hs : Sorted ms) (hb : ∀ x ∈ ms, x < 2 ^ 64) {i : Nat} (h0 : 0 < i) (hi : i < ms.length) :
    (NaN (ms.getD i 0) ∧ oG (ms.getD i 0) (ms.getD (i - 1) 0) = none) ∨ (¬ NaN (ms.getD i 0) ∧ ¬ NaN (ms.getD (i - 1) 0) ∧ (oG (ms.getD i 0) (ms.getD (i - 1) 0) = some .gt ∨ oG (ms.getD i 0) (ms.getD (i - 1) 0) = some .eq)) := by
  have hk := sorted_le hs (show i - 1 < i by omega) hi
  have bx : ms.getD i 0 < 2 ^ 64 := by rw [show ms.getD i 0 = ms[i] by simp [hi]]; exact hb _ (List.getElem_mem hi)
  have bp : ms.getD (i - 1) 0 < 2 ^ 64 := by rw [show ms.getD (i - 1) 0 = ms[i - 1] by simp [show i - 1 < ms.length by omega]]; exact hb _ (List.getElem_mem _)
  generalize ms.getD i 0 = x at *
  generalize ms.getD (i - 1) 0 = p at *
  by_cases hn : NaN x
  · exact .inl ⟨hn, (order_nan hn p).1⟩
  · have hkx := key_lt_nan bx hn
    have hp : ¬ NaN p := fun k => by rw [key_nan k] at hk; omega
    have ho := ord_key bx bp hn hp
    have e1 := key_kz hn
    have e2 := key_kz hp
    refine .inr ⟨hn, hp, ?_⟩
    by_cases e : kz x = kz p
    · exact .inr (ho.2.1.2 e)
    · refine .inl (ho.2.2.2 ?_)
      rw [e1, e2] at hk
      clear ho e1 e2 hkx hn hp hs hb
      unfold kz at *
      by_cases c1 : 2 ^ 63 ≤ x <;> by_cases c2 : 2 ^ 63 ≤ p <;> simp only [c1, c2, if_true, if_false] at * <;> omega
end Go.Proofs.Ytfaciljklligeaa.Ct
