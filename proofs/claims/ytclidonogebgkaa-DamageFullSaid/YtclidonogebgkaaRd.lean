/- Maps of damage: Read: the plain function; Lines' call; does it fit. -/
import Derived.Test.YtclidonogebgkaaLi
import Derived.Laws.ResultCell
namespace Go.Proofs.Ytclidonogebgkaa.Ct
open Go.ChangeShapes Go.WideShapes Go.RowKit Go.Shelf Mm
def okc (x : UInt8) : Bool := x == 35 || x == 46
/-- what has been read: the width, the height, the flags -/
structure RdS where
  W : Nat
  H : Nat
  l : List Bool
def rd1 (st : RdS) (x : List UInt8) : Option RdS :=
  if st.H > 0 ∧ x.length ≠ st.W then none else if x.all okc then some ⟨x.length, st.H + 1, st.l ++ x.map (· == 35)⟩ else none
def rdG : List Ln → RdS → Option RdS
  | [], st => some st
  | x :: ls, st => (rd1 st x.1).bind (rdG ls)
theorem rdG_app (a b : List Ln) (st : RdS) : rdG (a ++ b) st = (rdG a st).bind (rdG b) := by
  induction a generalizing st with
  | nil => rfl
  | cons x a ih =>
    show (rd1 st x.1).bind (rdG (a ++ b)) = ((rd1 st x.1).bind (rdG a)).bind (rdG b)
    cases rd1 st x.1 with
    | none => rfl
    | some s1 => exact ih s1
def rdL (ls : List Ln) : Option RdS := rdG ls ⟨0, 0, []⟩
theorem rdL_snoc (ls : List Ln) (x : Ln) : rdL (ls ++ [x]) = (rdL ls).bind (fun st => rd1 st x.1) := by
  unfold rdL
  rw [rdG_app]
  cases rdG ls ⟨0, 0, []⟩ with
  | none => rfl
  | some s1 =>
    show (rd1 s1 x.1).bind (rdG []) = rd1 s1 x.1
    cases rd1 s1 x.1 <;> rfl
/-- what is known of what has been read -/
def RdOk (n : Nat) (st : RdS) : Prop := st.l.length = st.W * st.H ∧ st.W ≤ 8192 ∧ st.H = n ∧ (st.H = 0 → st.W = 0)
theorem rd1_ok {n : Nat} {s0 st : RdS} {x : Ln} (h : rd1 s0 x.1 = some st) (hk : RdOk n s0) : RdOk (n + 1) st := by
  obtain ⟨k1, k2, k3, k4⟩ := hk
  unfold rd1 at h
  have hx := x.2
  split at h
  · cases h
  · rename_i hh
    split at h
    · injection h with h
      subst h
      refine ⟨?_, hx, ?_, fun e => by simp at e⟩
      · show (s0.l ++ x.1.map (· == 35)).length = x.1.length * (s0.H + 1)
        rw [List.length_append, List.length_map, k1, Nat.mul_succ]
        rcases Nat.eq_zero_or_pos s0.H with e | e
        · rw [e]
          simp
        · have : x.1.length = s0.W := by
            by_cases e2 : x.1.length = s0.W
            · exact e2
            · exact absurd ⟨e, e2⟩ hh
          rw [this]
      · show s0.H + 1 = _
        rw [k3]
    · cases h
theorem rdG_ok (ls : List Ln) : ∀ (n : Nat) (s0 st : RdS), RdOk n s0 → rdG ls s0 = some st → RdOk (n + ls.length) st := by
  induction ls with
  | nil =>
    intro n s0 st hk h
    injection h with h
    subst h
    exact hk
  | cons x ls ih =>
    intro n s0 st hk h
    have h : (rd1 s0 x.1).bind (rdG ls) = some st := h
    cases h1 : rd1 s0 x.1 with
    | none => rw [h1] at h; cases h
    | some s1 =>
      rw [h1] at h
      have := ih (n + 1) s1 st (rd1_ok h1 hk) h
      rw [List.length_cons, show n + (ls.length + 1) = n + 1 + ls.length by omega]
      exact this
theorem rd_ok (ls : List Ln) (st : RdS) (h : rdL ls = some st) : RdOk ls.length st := by
  have := rdG_ok ls 0 ⟨0, 0, []⟩ st ⟨rfl, Nat.zero_le _, rfl, fun _ => rfl⟩ h
  rw [Nat.zero_add] at this
  exact this
theorem rd_none {ls : List Ln} {k : Nat} (h : rdL (ls.take k) = none) : rdL ls = none := by
  have e : ls = ls.take k ++ ls.drop k := (List.take_append_drop k ls).symm
  unfold rdL at h ⊢
  rw [e, rdG_app, h]
  rfl
theorem lines28 (w : World) (s : ByteArray) : Calls Try.prog 28 #[.string s] w fun e w' => e = .returned (.func (.func 37) #[] #[P w.heap.size]) ∧ w' = w.alloc (.cells #[.string s] 9) := by
  have hmf : ∀ (fn : Fn) (first cap : Array Value) (w : World), (Instr.makeFunc fn first cap).run Try.prog w = .ok (.func fn first cap) w := fun _ _ _ _ => rfl
  go_enter Try.func28, Try.ntmps28
  go_wp2_with fail
  go_ret
  exact ⟨rfl, rfl⟩
theorem fits29_no (w : World) (W H : Nat) (hH : 8192 < H) : Calls Try.prog 29 #[.int .i64 W, .int .i64 H] w fun e w' => e = .returned (.bool false) ∧ w' = w := by
  have h2 : ¬ (H : Int) ≤ 8192 := by omega
  have h3 : (0 : Int) ≤ H := by omega
  by_cases h1 : (W : Int) ≤ 8192
  · go_enter Try.func29, Try.ntmps29
    go_wp2_with fail
    go_ret
    exact ⟨rfl, rfl⟩
  · have e3 : decide ((W : Int) ≤ 8192) = false := decide_eq_false h1
    go_enter Try.func29, Try.ntmps29
    go_wp2_with fail
    go_ret
    exact ⟨rfl, rfl⟩
theorem flat_end {ls : List Ln} (h : ls ≠ []) : ∃ a, flat ls = a ++ [10] := by
  refine ⟨flat ls.dropLast ++ (ls.getLast h).1, ?_⟩
  conv => lhs; rw [← List.dropLast_concat_getLast h]
  simp [flat]
theorem flat_suffix {ls : List Ln} (h : ls ≠ []) : Lib.hasSuffix (flat ls) [10] = true := by
  obtain ⟨a, e⟩ := flat_end h
  unfold Lib.hasSuffix
  rw [List.isSuffixOf_iff_suffix, e]
  exact ⟨a, rfl⟩
end Go.Proofs.Ytclidonogebgkaa.Ct
