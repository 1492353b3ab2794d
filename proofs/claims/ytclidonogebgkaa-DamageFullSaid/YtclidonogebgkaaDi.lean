/- Maps of damage: the rectangles (Boxes): the plain function; the ground. -/
import Derived.Test.YtclidonogebgkaaDh
namespace Go.Proofs.Ytclidonogebgkaa.Ct
open Go.ChangeShapes Go.WideShapes Go.RowKit Go.Shelf Mm
attribute [local go_sem] Oper.semAt_some
/-- a rectangle -/
structure Bx where
  x : Nat
  y : Nat
  a : Nat
  b : Nat
deriving DecidableEq
/-- how wide it is -/
def wid (r : List Bool) (W H x y : Nat) : Nat → Nat → Nat
  | 0, a => a
  | f + 1, a => if hasB W H r ((x + a : Nat) : Int) (y : Int) then wid r W H x y f (a + 1) else a
/-- how high it is, and what is left -/
def hig (W H x y a : Nat) : List Bool → Nat → Nat → List Bool × Nat
  | r, 0, b => (r, b)
  | r, f + 1, b => if y + b < H ∧ okR r ((y + b) * W + x) a = true then hig W H x y a (fillL r ((y + b) * W + x) a) f (b + 1) else (r, b)
def stp (W H : Nat) (st : List Bool × List Bx) (i : Nat) : List Bool × List Bx :=
  if st.1.getD i false then
    ((hig W H (i % W) (i / W) (wid st.1 W H (i % W) (i / W) W 0) st.1 H 0).1, st.2 ++ [⟨i % W, i / W, wid st.1 W H (i % W) (i / W) W 0, (hig W H (i % W) (i / W) (wid st.1 W H (i % W) (i / W) W 0) st.1 H 0).2⟩])
  else st
def bxs (W H : Nat) (l : List Bool) (ys : List Nat) : List Bool × List Bx := ys.foldl (stp W H) (l, [])
theorem bxs_snoc (W H : Nat) (l : List Bool) (ys : List Nat) (i : Nat) : bxs W H l (ys ++ [i]) = stp W H (bxs W H l ys) i := by simp [bxs]
theorem bxs_len (W H : Nat) (l : List Bool) (ys : List Nat) : (bxs W H l ys).2.length ≤ ys.length := by
  have : ∀ (ys : List Nat) (st : List Bool × List Bx), (ys.foldl (stp W H) st).2.length ≤ st.2.length + ys.length := by
    intro ys
    induction ys with
    | nil => intro st; simp
    | cons i ys ih =>
      intro st
      rw [List.foldl_cons]
      refine Nat.le_trans (ih _) ?_
      rw [List.length_cons]
      unfold stp
      split
      · simp; omega
      · omega
  have h := this ys (l, [])
  rw [List.length_nil, Nat.zero_add] at h
  exact h
def bxC (bs : List Bx) : List Value := bs.flatMap fun b => [.int .i64 b.x, .int .i64 b.y, .int .i64 b.a, .int .i64 b.b]
theorem bxC_len (bs : List Bx) : (bxC bs).length = bs.length * 4 := by
  induction bs with
  | nil => rfl
  | cons b bs ih => simp [bxC] at ih ⊢; omega
theorem bxC_snoc (bs : List Bx) (b : Bx) : bxC (bs ++ [b]) = bxC bs ++ [.int .i64 b.x, .int .i64 b.y, .int .i64 b.a, .int .i64 b.b] := by simp [bxC]
/-! ### steps of the width and of the height -/
theorem wid_yes {r : List Bool} {W H x y a : Nat} (ha : x + a < W) (h : hasB W H r ((x + a : Nat) : Int) (y : Int) = true) : wid r W H x y (W - a) a = wid r W H x y (W - (a + 1)) (a + 1) := by
  have e : W - a = (W - (a + 1)) + 1 := by omega
  rw [e]
  conv => lhs; unfold wid
  rw [if_pos h]
theorem wid_no {r : List Bool} {W H x y a : Nat} (f : Nat) (h : hasB W H r ((x + a : Nat) : Int) (y : Int) = false) : wid r W H x y f a = a := by
  cases f with
  | zero => rfl
  | succ f => unfold wid; rw [if_neg (by rw [h]; simp)]
theorem hig_yes {r : List Bool} {W H x y a b : Nat} (hb : y + b < H) (h : okR r ((y + b) * W + x) a = true) : hig W H x y a r (H - b) b = hig W H x y a (fillL r ((y + b) * W + x) a) (H - (b + 1)) (b + 1) := by
  have e : H - b = (H - (b + 1)) + 1 := by omega
  rw [e]
  conv => lhs; unfold hig
  rw [if_pos ⟨hb, h⟩]
theorem hig_no {r : List Bool} {W H x y a b : Nat} (f : Nat) (h : ¬ (y + b < H ∧ okR r ((y + b) * W + x) a = true)) : hig W H x y a r f b = (r, b) := by
  cases f with
  | zero => rfl
  | succ f => unfold hig; rw [if_neg h]
theorem hasB_lt {W H x y : Nat} {r : List Bool} (h : hasB W H r (x : Int) (y : Int) = true) : x < W ∧ y < H := by
  unfold hasB inB at h
  simp at h
  omega
/-- in a round: append -/
theorem wpListIn_append_any {F : Fence} {nF : Nat} {P : Program} (w : World) {ops : Array Oper} {rest : List Oper} {o : Oper} {a : Act} {Q : Exit → Act → World → Prop} (hgd : o.guard = none) (s x : Operand) (t : TypeId)
    (ho : o.op = .call { callee := .builtin .append, args := #[s, x], argTypes := #[t, t] })
    (base : Nat) (e : TypeId) (i : TypeInfo) (z : Value) (size bytes : Nat) (ht : P.underlying t = some (.slice e)) (hi : P.info? e = some i) (hz : i.zero = some z)
    (hsize : i.size = size) (hby : i.bytes = bytes) (hzs : z.cells.size = size) (hsz : 0 < size)
    (v : Value) (n : Nat) (xs : List Value) (hs : a.eval s = v) (hown : w.ownsRow base e size v n xs)
    (A : Option Addr) (m c : Nat) (news : List Value) (hx : a.eval x = .slice A m c) (hr : Rds w size A m news) (h1 : ∀ u ∈ news, u.oneCell' = true)
    (h63 : n + m ≤ maxLen) (hbytes : (n + m) * bytes ≤ 140737488355328) (hbase : base ≤ w.heap.size)
    (h : ∀ v' w', w'.ownsRow base e size v' (n + m) (xs ++ news) → Only (fun k => v.ownBlock = some k) w w' → (v'.ownBlock = v.ownBlock ∨ v'.ownBlock = some w.heap.size) → wpListIn F nF P ops Q rest (a.put o.dst v') w') : wpListIn F nF P ops Q (o :: rest) a w := by
  refine wpListIn_plain hgd fun K hK => ?_
  obtain ⟨v', w', hrun, h2, h3, h4⟩ := run_append_any (P := P) w base t o.type e i z size bytes ht hi hz hsize hby hzs hsz v n xs hown A m c news hr h1 h63 hbytes hbase
  unfold Oper.wpIn
  refine ⟨by simp [Oper.about, ho, resolve, Target.leads, Sem.run_pure], ?_⟩
  rw [Oper.semAt_plain F _ _ (by rw [ho]; intro c hc'; cases hc')]
  simp [execOp, ho, resolve, invoke, builtin, hs, hx, hrun, Result.andThen]
  exact hK _ _ (h v' w' h2 h3 h4)
/-- what is written are cells -/
theorem KeepsOthers.of_only {S : Nat → Prop} {w w' : World} (o : Only S w w') (hS : ∀ k, S k → ∃ cs t m, w.heap[k]? = some (.cells cs t m)) : KeepsOthers w w' :=
  ⟨o.size, fun k ob h1 h2 => (o.block k (Array.getElem?_eq_some_iff.1 h1).1 fun hs => by
    obtain ⟨cs, t, m, e⟩ := hS k hs
    rw [e] at h1
    cases h1
    cases h2).trans h1⟩
theorem MapN.cellsObj {w : World} {g : Nat} {A : Option Addr} {c W H n : Nat} {l : List Bool} (h : MapN w g A c W H l n) : ∀ k, Sm g A k → ∃ cs t m, w.heap[k]? = some (.cells cs t m) := by
  rintro k (rfl | ⟨ad, rfl, rfl⟩)
  · exact ⟨_, _, _, h.blk⟩
  · rcases h.own.2 with ⟨hv, _⟩ | ⟨g', cap, cur, hv, _, hg, _⟩
    · simp at hv
    · injection hv with hv
      injection hv with hv
      subst hv
      exact ⟨_, _, _, hg⟩
theorem own_cellsObj {w : World} {base n size : Nat} {e : TypeId} {v : Value} {xs : List Value} (h : w.ownsRow base e size v n xs) : ∀ k, v.ownBlock = some k → ∃ cs t m, w.heap[k]? = some (.cells cs t m) := by
  intro k hk
  rcases h.2 with ⟨rfl, _⟩ | ⟨g', cap, cur, rfl, _, hg, _⟩
  · simp [Value.ownBlock] at hk
  · simp [Value.ownBlock] at hk
    subst hk
    exact ⟨_, _, _, hg⟩
end Go.Proofs.Ytclidonogebgkaa.Ct
