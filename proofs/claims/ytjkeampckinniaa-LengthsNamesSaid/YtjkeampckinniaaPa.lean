/- Piles in memory; the things of a pile are counted. -/
import Derived.Test.YtjkeampckinniaaPp
import Derived.Test.YtjkeampckinniaaProg
import Derived.Lib.Hide
import Derived.WalkKit
import Derived.Shelf.RegionOpen
namespace Go.Proofs.Ytjkeampckinniaa.Ct
open Go.ChangeShapes Go.WideShapes Go.RowKit Mm
abbrev P (g : Nat) : Value := .pointer (some ⟨g, 0, none⟩)
/-- a pile lies at a block -/
def PAt (w : World) : Pile → Nat → Prop
  | .one a t, g => Blk w g 121 #[.int .i64 a, .int .i64 t, .pointer none, .pointer none]
  | .two l r, g => ∃ gl gr, Blk w g 121 #[.int .i64 ((wt l + wt r : Nat) : Int), .int .i64 0, P gl, P gr] ∧ PAt w l gl ∧ PAt w r gr
/-- the head of a pile -/
theorem PAt.head {w : World} {p : Pile} {g : Nat} (h : PAt w p g) : ∃ x y z, Blk w g 121 #[.int .i64 (wt p : Nat), x, y, z] := by
  cases p with
  | one a t => exact ⟨_, _, _, h⟩
  | two l r =>
    obtain ⟨gl, gr, hb, _⟩ := h
    exact ⟨_, _, _, hb⟩
/-- no block of S is a pile's -/
def NoPile (w : World) (S : Nat → Prop) : Prop := ∀ k, S k → ∀ cs, ¬ Blk w k 121 cs
theorem PAt.only {S : Nat → Prop} {w w' : World} (o : Only S w w') (hS : NoPile w S) : ∀ {p : Pile} {g : Nat}, PAt w p g → PAt w' p g := by
  intro p
  induction p with
  | one a t => intro g h; exact Blk.only h o fun hs => hS g hs _ h
  | two l r ihl ihr =>
    rintro g ⟨gl, gr, hb, hl, hr⟩
    exact ⟨gl, gr, hb.only o fun hs => hS g hs _ hb, ihl hl, ihr hr⟩
theorem PAt.no {w w' : World} (o : Only No w w') {p : Pile} {g : Nat} (h : PAt w p g) : PAt w' p g := h.only o fun _ hk => hk.elim
theorem PAt.lt {w : World} {p : Pile} {g : Nat} (h : PAt w p g) : g < w.heap.size := by
  obtain ⟨_, _, _, hb⟩ := h.head
  exact hb.lt
/-- numbers as cells -/
def nC (l : List Nat) : List Value := l.map fun n => .int .i64 (n : Nat)
theorem nC_len (l : List Nat) : (nC l).length = l.length := by simp [nC]
theorem nC_get {l : List Nat} {i : Nat} (h : i < l.length) : (nC l)[i]? = some (.int .i64 (l.getD i 0 : Nat)) := by simp [nC, h]
theorem nC_set (l : List Nat) (i n : Nat) : (nC l).set i (.int .i64 (n : Nat)) = nC (l.set i n) := by unfold nC; rw [List.map_set]
/-- the blocks of a row of another type are no pile's -/
theorem noPile_own {w : World} {base : Nat} {e : TypeId} {size n : Nat} {v : Value} {xs : List Value} (h : w.ownsRow base e size v n xs) (he : e ≠ 121) : NoPile w (fun k => v.ownBlock = some k) :=
  fun _ hk _ hb => own_blk h hb he hk
theorem noPile_one {w : World} {base : Nat} {e : TypeId} {size n c : Nat} {T : Nat} {xs : List Value} (h : w.ownsRow base e size (.slice (some ⟨T, 0, none⟩) n c) n xs) (he : e ≠ 121) : NoPile w (One T) := by
  intro k hk cs hb
  have hk : k = T := hk
  subst hk
  exact own_blk h hb he (by simp [Value.ownBlock])
set_option maxHeartbeats 1000000 in
theorem add63 (base n c T : Nat) (p : Pile) : ∀ (w : World) (g : Nat) (l : List Nat), w.ownsRow base 3 1 (.slice (some ⟨T, 0, none⟩) n c) n (nC l) → PAt w p g → (∀ t ∈ leaves p, t < n) → (∀ t, l.getD t 0 + (leaves p).length ≤ 1152921504606846976) →
    Calls Try.prog 63 #[P g, .slice (some ⟨T, 0, none⟩) n c] w fun e w' => e = .returned (.tuple #[]) ∧ w'.ownsRow base 3 1 (.slice (some ⟨T, 0, none⟩) n c) n (nC (addP l p)) ∧ Only (One T) w w' := by
  induction p with
  | one a t =>
    intro w g l hown hp ht hb
    have c0 := Blk.cell hp 1
    have c2 := Blk.cell hp 2
    simp only [List.getElem?_toArray, List.getElem?_cons_zero, List.getElem?_cons_succ] at c0 c2
    have htn : t < n := ht t (by simp [leaves])
    have hln : l.length = n := by have := hown.1; rw [nC_len] at this; omega
    have htn' : (t : Int) < n := by omega
    have hc := hown.cellAt t (by omega)
    rw [nC_get (by omega)] at hc
    have hf := hown.frozenAt t
    have hv := hb t
    have hst := Lib.hid (hown.stored t (.int .i64 ((l.getD t 0 + 1 : Nat) : Int)))
    rw [nC_set] at hst
    generalize hx : l.getD t 0 = x at *
    have e1 : IntKind.i64.wrap ((x : Int) + 1) = ((x + 1 : Nat) : Int) := by rw [IntWalk.i64_in _ (by simp [leaves] at hv; omega)]; push_cast; rfl
    clear hown hp
    go_enter Try.func63, Try.ntmps63
    go_wp2_with fail
    refine bodyPost_ret (results_none rfl _ _ _) rfl ⟨rfl, ?_, ?_⟩
    · have := hst.out.1
      show World.ownsRow _ base 3 1 _ n (nC (bump l t))
      unfold bump
      rw [hx]
      simpa using this
    · exact (Only.of_grown hst.out.2).mono fun k hk => by injection hk with hk; exact hk.symm
  | two a b iha ihb =>
    rintro w g l hown ⟨gl, gr, hb0, hl, hr⟩ ht hb
    have c2 := hb0.cell 2
    simp only [List.getElem?_toArray, List.getElem?_cons_zero, List.getElem?_cons_succ] at c2
    have hlen : (leaves (.two a b)).length = (leaves a).length + (leaves b).length := by simp [leaves]
    rw [hlen] at hb
    have hln : l.length = n := by have := hown.1; rw [nC_len] at this; omega
    have h1 := Lib.hid (iha w gl l hown hl (fun t h => ht t (by simp [leaves, h])) (fun t => by have := hb t; omega))
    have hno := noPile_one hown (by decide)
    have hnx := Lib.hid (fun w' (o : Only (One T) w w') => (hr.only o hno : PAt w' b gr))
    have hbx := Lib.hid (fun w' (o : Only (One T) w w') => (hb0.only o fun e => hno g e _ hb0))
    have ht' := Lib.hid ht
    have hb' := Lib.hid hb
    clear hown hb0 hl hr hno ht hb
    go_enter Try.func63, Try.ntmps63
    go_wp2_with fail
    refine h1.out.mono ?_
    rintro e w1 ⟨rfl, own1, o1⟩
    have c3 := (hbx.out w1 o1).cell 3
    simp only [List.getElem?_toArray, List.getElem?_cons_zero, List.getElem?_cons_succ] at c3
    have h2 := Lib.hid (ihb w1 gr (addP l a) own1 (hnx.out w1 o1) (fun t h => ht'.out t (by simp [leaves, h])) (fun t => by
      have := hb'.out t
      unfold addP
      rw [foldl_bump_get _ _ _ (fun x hx => by rw [hln]; exact ht'.out x (by simp [leaves, hx]))]
      have := List.count_le_length (a := t) (l := leaves a)
      omega))
    replace o1 := Lib.hid o1
    clear own1 h1
    go_wp2_with fail
    refine h2.out.mono ?_
    rintro e w2 ⟨rfl, own2, o2⟩
    have o3 := Lib.hid (o1.out.trans o2)
    have own3 := Lib.hid own2
    clear own2 o2 h2
    go_wp2_with fail
    go_end0
    refine ⟨rfl, ?_, o3.out⟩
    have := own3.out
    unfold addP at this ⊢
    rw [show leaves (.two a b) = leaves a ++ leaves b from rfl, List.foldl_append]
    exact this
end Go.Proofs.Ytjkeampckinniaa.Ct
