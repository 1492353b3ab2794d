/- Best: the plain law and the walk. -/
import Derived.Test.YtjkeampckinniaaRw
namespace Go.Proofs.Ytjkeampckinniaa.Ct
open Go.ChangeShapes Go.WideShapes Go.RowKit Mm
/-- whole numbers as cells -/
def inC (l : List Int) : List Value := l.map fun n => .int .i64 n
theorem inC_len (l : List Int) : (inC l).length = l.length := by simp [inC]
theorem inC_get {l : List Int} {i : Nat} (h : i < l.length) : (inC l)[i]? = some (.int .i64 (l.getD i 0)) := by simp [inC, h]
/-- may a count be? -/
def mayB (n : Int) : Bool := decide (0 ≤ n ∧ n ≤ 1099511627776)
/-- the things that come -/
def thg (cs : List Int) : List Nat := (List.range cs.length).filter fun i => decide (0 < cs.getD i 0)
def cwI (cs : List Int) (t : Nat) : Nat := (cs.getD t 0).toNat
/-- what Best answers: a number that says why not, or lengths -/
def bestP (cs : List Int) (limit : Int) : Nat ⊕ List Nat :=
  if 1024 < cs.length then .inl 4
  else if cs.all mayB = false then .inl 1
  else if (thg cs).length = 0 then .inl 50
  else if limit < 1 ∨ 32 < limit ∨ 2 ^ limit.toNat < (thg cs).length then .inl 51
  else .inr (rowsP (thg cs) (cwI cs) cs.length limit.toNat)
def BestPost (w : World) (cs : List Int) (limit : Int) (e : Ending) (w' : World) : Prop :=
  match bestP cs limit with
  | .inl k => e = .returned (.tuple #[.slice none 0 0, .int .i64 (k : Nat)]) ∧ Only No w w'
  | .inr ls => ∃ T, e = .returned (.tuple #[.slice (some ⟨T, 0, none⟩) cs.length cs.length, .int .i64 0]) ∧ w'.ownsRow w.heap.size 3 1 (.slice (some ⟨T, 0, none⟩) cs.length cs.length) cs.length (nC ls) ∧ Only No w w'
theorem may46 (w : World) (n : Int) : Calls Try.prog 46 #[.int .i64 n] w fun e w' => e = .returned (.bool (mayB n)) ∧ w' = w := by
  unfold mayB
  by_cases h1 : 0 ≤ n
  · by_cases h2 : n ≤ 1099511627776
    · rw [decide_eq_true ⟨h1, h2⟩]
      go_enter Try.func46, Try.ntmps46
      go_wp2_with fail
      go_ret
      exact ⟨rfl, rfl⟩
    · rw [decide_eq_false (fun h => h2 h.2)]
      have h3 : decide (n ≤ 1099511627776) = false := decide_eq_false h2
      go_enter Try.func46, Try.ntmps46
      go_wp2_with fail
      go_ret
      exact ⟨rfl, rfl⟩
  · rw [decide_eq_false (fun h => h1 h.1)]
    have h3 : decide (0 ≤ n) = false := decide_eq_false h1
    go_enter Try.func46, Try.ntmps46
    go_wp2_with fail
    go_ret
    exact ⟨rfl, rfl⟩
theorem get48 (w : World) (gb : Nat) (A : Option Addr) (c : Nat) (cs : List Int) (hb : Blk w gb 22 #[.slice A cs.length c]) (hr : Rds w 1 A cs.length (inC cs)) (t : Nat) (ht : t < cs.length) : Calls Try.prog 48 #[.int .i64 (t : Nat), P gb] w fun e w' => e = .returned (.int .i64 (cs.getD t 0)) ∧ w' = w := by
  have hc := hb.cell 0
  simp only [List.getElem?_toArray, List.getElem?_cons_zero] at hc
  obtain ⟨ad, rfl, hcell⟩ := hr.at_ (i := t) (by omega) (inC_get ht)
  have ht' : (t : Int) < cs.length := by omega
  generalize cs.getD t 0 = x at *
  clear hb hr
  go_enter Try.func48, Try.ntmps48
  go_wp2_with fail
  go_ret
  exact ⟨rfl, rfl⟩
theorem thg_mem {cs : List Int} {t : Nat} (h : t ∈ thg cs) : t < cs.length ∧ 0 < cs.getD t 0 := by
  unfold thg at h
  rw [List.mem_filter] at h
  exact ⟨List.mem_range.1 h.1, of_decide_eq_true h.2⟩
theorem thg_nodup (cs : List Int) : (thg cs).Nodup := List.Pairwise.filter _ List.nodup_range
theorem thg_len (cs : List Int) : (thg cs).length ≤ cs.length := by
  unfold thg
  refine Nat.le_trans (List.length_filter_le _ _) ?_
  simp
def thgTo (cs : List Int) (i : Nat) : List Nat := (List.range i).filter fun i => decide (0 < cs.getD i 0)
theorem thgTo_succ (cs : List Int) (i : Nat) : thgTo cs (i + 1) = if 0 < cs.getD i 0 then thgTo cs i ++ [i] else thgTo cs i := by
  unfold thgTo
  rw [List.range_succ, List.filter_append]
  by_cases h : 0 < cs.getD i 0
  · rw [if_pos h, List.filter_cons, if_pos (decide_eq_true h)]
    rfl
  · rw [if_neg h, List.filter_cons, if_neg (fun k => h (of_decide_eq_true k))]
    simp
theorem all_take {cs : List Int} {i : Nat} (h : i < cs.length) (e : mayB (cs.getD i 0) = true) (ha : (cs.take i).all mayB = true) : (cs.take (i + 1)).all mayB = true := by
  rw [List.take_succ_eq_append_getElem h, List.all_append, ha]
  simp [List.getD_eq_getElem?_getD, h] at e
  simp [e]
theorem all_bad {cs : List Int} {i : Nat} (h : i < cs.length) (e : mayB (cs.getD i 0) = false) : cs.all mayB = false := by
  rw [List.all_eq_false]
  refine ⟨cs[i], List.getElem_mem h, ?_⟩
  simp [List.getD_eq_getElem?_getD, h] at e
  simp [e]
end Go.Proofs.Ytjkeampckinniaa.Ct
