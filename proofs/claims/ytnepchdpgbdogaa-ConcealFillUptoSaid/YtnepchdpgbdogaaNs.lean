/- The neighbours of a place. -/
import Derived.Test.YtnepchdpgbdogaaNbW
namespace Go.Proofs.Ytnepchdpgbdogaa.Ct
open Go.ChangeShapes Go.WideShapes Go.RowKit Mm
def nlC (L : List (Int × Nat)) : List Value := L.flatMap fun p => [.int .i64 p.1, .int .i64 p.2]
def nbL (W H : Nat) (l : List Bool) (D : Nat → Int) (x y : Int) : List (Int × Nat) :=
  (nb W H l D x y (-1) 0).toList ++ (nb W H l D x y 1 0).toList ++ (nb W H l D x y 0 (-1)).toList ++ (nb W H l D x y 0 1).toList
theorem nbC_eq (o : Option (Int × Nat)) : nbC o = nlC o.toList := by cases o <;> rfl
theorem nbN_eq (o : Option (Int × Nat)) : nbN o = o.toList.length := by cases o <;> rfl
theorem nbN_le (o : Option (Int × Nat)) : nbN o ≤ 1 := by cases o <;> simp [nbN]
theorem nlC_append (a b : List (Int × Nat)) : nlC (a ++ b) = nlC a ++ nlC b := List.flatMap_append
theorem blk_ne {w : World} {a b : Nat} {t u : TypeId} {cs ds : Array Value} (h : Blk w a t cs) (k : Blk w b u ds) (hne : t ≠ u) : a ≠ b := by
  rintro rfl
  unfold Blk at h k
  rw [h] at k
  injection k with k
  injection k with _ k
  exact hne k
theorem Caps.only {S : Nat → Prop} {w w' : World} {B W H : Nat} {l : List Bool} {bs : List (List Int)} {x y : Int} {bx bby bg bm : Nat} (h : Caps w B W H l bs x y bx bby bg bm) (ho : Only S w w') (h1 : ¬ S bx) (h2 : ¬ S bby) (h3 : ¬ S bg) (h4 : ¬ S bm) (hS : ∀ b, b < B → ¬ S b) : Caps w' B W H l bs x y bx bby bg bm := by
  obtain ⟨A, c, g1, g2, g3⟩ := h.cg
  obtain ⟨g, m1, m2⟩ := h.cm
  exact ⟨h.cx.only ho h1, h.cy.only ho h2, ⟨A, c, g1.only ho h3, g2.only ho (fun _ ad e => hS _ (g3 ad e)), g3⟩, ⟨g, m1.only ho h4, m2.only ho hS⟩, h.len, h.bls, h.px, h.py⟩
theorem Looked.caps {w w' : World} {B bl k : Nat} {v : Value} {xs : List Value} {W H : Nat} {l : List Bool} {bs : List (List Int)} {x y : Int} {bx bby bg bm : Nat} (h : Caps w B W H l bs x y bx bby bg bm) (hl : Blk w bl 71 #[v]) (ho : w.ownsRow B 74 2 v k xs) (hB : B ≤ bl) (hL : Only (fun i => i = bl ∨ v.ownBlock = some i) w w') : Caps w' B W H l bs x y bx bby bg bm := by
  obtain ⟨A, c, g1, g2, g3⟩ := h.cg
  obtain ⟨g, m1, m2⟩ := h.cm
  exact h.only hL (fun e => e.elim (blk_ne h.cx hl (by decide)) (own_blk ho h.cx (by decide))) (fun e => e.elim (blk_ne h.cy hl (by decide)) (own_blk ho h.cy (by decide)))
    (fun e => e.elim (blk_ne g1 hl (by decide)) (own_blk ho g1 (by decide))) (fun e => e.elim (blk_ne m1 hl (by decide)) (own_blk ho m1 (by decide)))
    (fun b hb e => e.elim (fun e => by omega) (fun e => by have := own_ge ho _ e; omega))
theorem nbL_len (W H : Nat) (l : List Bool) (D : Nat → Int) (x y : Int) : (nbL W H l D x y).length ≤ 4 := by
  have h1 := nbN_le (nb W H l D x y (-1) 0)
  have h2 := nbN_le (nb W H l D x y 1 0)
  have h3 := nbN_le (nb W H l D x y 0 (-1))
  have h4 := nbN_le (nb W H l D x y 0 1)
  rw [nbN_eq] at h1 h2 h3 h4
  unfold nbL
  simp only [List.length_append]
  omega
/-- a grid's value -/
def gridV (W H : Nat) (A : Option Addr) (n c : Nat) : Value := .agg #[.int .i64 W, .int .i64 H, .slice A n c]
structure GridAt (w : World) (B W H : Nat) (A : Option Addr) (bs : List (List Int)) : Prop where
  rds : Rds w 64 A bs.length (bsC bs)
  far : ∀ ad, A = some ad → ad.block < B
  len : bs.length = W * H
  bls : Bls bs
theorem GridAt.only {S : Nat → Prop} {w w' : World} {B W H : Nat} {A : Option Addr} {bs : List (List Int)} (h : GridAt w B W H A bs) (ho : Only S w w') (hS : ∀ b, b < B → ¬ S b) : GridAt w' B W H A bs :=
  ⟨h.rds.only ho (fun _ ad e => hS _ (h.far ad e)), h.far, h.len, h.bls⟩
theorem GridAt.no {w w' : World} {B W H : Nat} {A : Option Addr} {bs : List (List Int)} (h : GridAt w B W H A bs) (ho : Only No w w') : GridAt w' B W H A bs := h.only ho fun _ _ => id
theorem GridAt.mono {w : World} {B B' W H : Nat} {A : Option Addr} {bs : List (List Int)} (h : GridAt w B W H A bs) (hB : B ≤ B') : GridAt w B' W H A bs := ⟨h.rds, fun ad e => Nat.lt_of_lt_of_le (h.far ad e) hB, h.len, h.bls⟩
theorem blk_new1 (w : World) (o : Obj) (t : TypeId) (cs : Array Value) : Blk ((w.alloc o).alloc (.cells cs t)) (w.heap.size + 1) t cs := by
  have := Blk.new (w.alloc o) t cs
  simpa using this
theorem blk_new2 (w : World) (o o2 : Obj) (t : TypeId) (cs : Array Value) : Blk (((w.alloc o).alloc o2).alloc (.cells cs t)) (w.heap.size + 1 + 1) t cs := by
  have := Blk.new ((w.alloc o).alloc o2) t cs
  simpa using this
theorem blk_new3 (w : World) (o o2 o3 : Obj) (t : TypeId) (cs : Array Value) : Blk ((((w.alloc o).alloc o2).alloc o3).alloc (.cells cs t)) (w.heap.size + 1 + 1 + 1) t cs := by
  have := Blk.new (((w.alloc o).alloc o2).alloc o3) t cs
  simpa using this
theorem blk_new4 (w : World) (o o2 o3 o4 : Obj) (t : TypeId) (cs : Array Value) : Blk (((((w.alloc o).alloc o2).alloc o3).alloc o4).alloc (.cells cs t)) (w.heap.size + 1 + 1 + 1 + 1) t cs := by
  have := Blk.new ((((w.alloc o).alloc o2).alloc o3).alloc o4) t cs
  simpa using this
set_option maxHeartbeats 1600000 in
theorem neighbours38 (w : World) (B W H : Nat) (l : List Bool) (bs : List (List Int)) (A : Option Addr) (c g : Nat) (hg : GridAt w B W H A bs) (hm : MapAt w B g W H l) (hB : B ≤ w.heap.size) (x y : Int) (px : 0 ≤ x ∧ x < W) (py : 0 ≤ y ∧ y < H) :
    Calls Try.prog 38 #[gridV W H A bs.length c, P g, .int .i64 x, .int .i64 y] w fun e w' => ∃ v, e = .returned v ∧ w'.ownsRow w.heap.size 74 2 v (nbL W H l (dcs bs) x y).length (nlC (nbL W H l (dcs bs) x y)) ∧ Only No w w' := by
  have hg1 := Lib.hid (hg.mono hB)
  have hm1 := Lib.hid (hm.mono hB)
  replace hg := Lib.hid hg
  replace hm := Lib.hid hm
  unfold gridV
  go_enter Try.func38, Try.ntmps38
  go_wp2_with fail
  generalize hw5 : (((((w.alloc (Obj.cells #[.int .i64 W, .int .i64 H, .slice A bs.length c] 24)).alloc (Obj.cells #[P g] 31)).alloc (Obj.cells #[.int .i64 x] 3)).alloc (Obj.cells #[.int .i64 y] 3)).alloc (Obj.cells #[.slice none 0 0] 71)) = w5
  have b0 : Blk w5 w.heap.size 24 #[.int .i64 W, .int .i64 H, .slice A bs.length c] := by rw [← hw5]; exact ((((Blk.new w 24 _).alloc _).alloc _).alloc _).alloc _
  have b1 : Blk w5 (w.heap.size + 1) 31 #[P g] := by rw [← hw5]; exact (((blk_new1 w _ 31 _).alloc _).alloc _).alloc _
  have b2 : Blk w5 (w.heap.size + 1 + 1) 3 #[.int .i64 x] := by rw [← hw5]; exact ((blk_new2 w _ _ 3 _).alloc _).alloc _
  have b3 : Blk w5 (w.heap.size + 1 + 1 + 1) 3 #[.int .i64 y] := by rw [← hw5]; exact (blk_new3 w _ _ _ 3 _).alloc _
  have b4 : Blk w5 (w.heap.size + 1 + 1 + 1 + 1) 71 #[.slice none 0 0] := by rw [← hw5]; exact blk_new4 w _ _ _ _ 71 _
  have o5 : Only No w w5 := by rw [← hw5]; exact (((((Only.refl No w).alloc _).alloc _).alloc _).alloc _).alloc _
  have K5 : Caps w5 w.heap.size W H l bs x y (w.heap.size + 1 + 1) (w.heap.size + 1 + 1 + 1) w.heap.size (w.heap.size + 1) :=
    ⟨b2, b3, ⟨A, c, b0, (hg1.out.no o5).rds, hg1.out.far⟩, ⟨g, b1, hm1.out.no o5⟩, hg1.out.len, hg1.out.bls, px, py⟩
  replace K5 := Lib.hid K5
  have L5 := Lib.hid b4
  have O5 := Lib.hid o5
  have s5 := Lib.hid o5.size
  clear b0 b1 b2 b3 b4 o5 hw5
  generalize hn0 : w.heap.size = n0 at *
  refine (look43 w5 n0 W H l bs x y _ _ _ _ _ 0 (.slice none 0 0) [] K5.out L5.out (World.ownsRow_nil _ _ _ _) (by omega) s5.out (by omega) (-1) 0 (.inl ⟨rfl, rfl⟩)).mono ?_
  rintro e w6 ⟨rfl, v6, hl6, ho6, on6⟩
  have K6 := Lib.hid (Looked.caps K5.out L5.out (World.ownsRow_nil _ n0 74 2) (by omega) on6)
  have O6 : Hid (Only No w w6) := Lib.hid (O5.out.then on6 (fun i h => .inr (h.elim (fun e => by omega) (fun e => by simp [Value.ownBlock] at e))))
  have L6 := Lib.hid hl6
  have R6 := Lib.hid ho6
  clear hl6 ho6 on6 K5 L5 O5
  go_wp2_with fail
  refine (look43 w6 n0 W H l bs x y _ _ _ _ _ _ v6 _ K6.out L6.out R6.out (by have := nbN_le (nb W H l (dcs bs) x y (-1) 0); omega) (by have := O6.out.size; omega) (by omega) 1 0 (.inr (.inl ⟨rfl, rfl⟩))).mono ?_
  rintro e w7 ⟨rfl, v7, hl7, ho7, on7⟩
  have K7 := Lib.hid (Looked.caps K6.out L6.out R6.out (by omega) on7)
  have O7 : Hid (Only No w w7) := Lib.hid (O6.out.then on7 (fun i h => .inr (h.elim (fun e => by omega) (fun e => by have := own_ge R6.out _ e; omega))))
  have L7 := Lib.hid hl7
  have R7 := Lib.hid ho7
  clear hl7 ho7 on7 K6 L6 O6 R6
  go_wp2_with fail
  refine (look43 w7 n0 W H l bs x y _ _ _ _ _ _ v7 _ K7.out L7.out R7.out (by have := nbN_le (nb W H l (dcs bs) x y (-1) 0); have := nbN_le (nb W H l (dcs bs) x y 1 0); omega) (by have := O7.out.size; omega) (by omega) 0 (-1) (.inr (.inr (.inl ⟨rfl, rfl⟩)))).mono ?_
  rintro e w8 ⟨rfl, v8, hl8, ho8, on8⟩
  have K8 := Lib.hid (Looked.caps K7.out L7.out R7.out (by omega) on8)
  have O8 : Hid (Only No w w8) := Lib.hid (O7.out.then on8 (fun i h => .inr (h.elim (fun e => by omega) (fun e => by have := own_ge R7.out _ e; omega))))
  have L8 := Lib.hid hl8
  have R8 := Lib.hid ho8
  clear hl8 ho8 on8 K7 L7 O7 R7
  go_wp2_with fail
  refine (look43 w8 n0 W H l bs x y _ _ _ _ _ _ v8 _ K8.out L8.out R8.out (by have := nbN_le (nb W H l (dcs bs) x y (-1) 0); have := nbN_le (nb W H l (dcs bs) x y 1 0); have := nbN_le (nb W H l (dcs bs) x y 0 (-1)); omega) (by have := O8.out.size; omega) (by omega) 0 1 (.inr (.inr (.inr ⟨rfl, rfl⟩)))).mono ?_
  rintro e w9 ⟨rfl, v9, hl9, ho9, on9⟩
  have O9 : Hid (Only No w w9) := Lib.hid (O8.out.then on9 (fun i h => .inr (h.elim (fun e => by omega) (fun e => by have := own_ge R8.out _ e; omega))))
  have c9 := hl9.cell 0
  simp only [List.getElem?_toArray, List.getElem?_cons_zero] at c9
  have R9 := Lib.hid ho9
  clear hl9 ho9 on9 K8 L8 O8 R8
  go_wp2_with fail
  go_ret
  refine ⟨v9, rfl, ?_, O9.out⟩
  have h := R9.out
  simp only [nbC_eq, nbN_eq, List.nil_append, Nat.zero_add, ← nlC_append] at h
  rw [show nlC (nbL W H l (dcs bs) x y) = nlC ((nb W H l (dcs bs) x y (-1) 0).toList ++ (nb W H l (dcs bs) x y 1 0).toList ++ (nb W H l (dcs bs) x y 0 (-1)).toList ++ (nb W H l (dcs bs) x y 0 1).toList) from rfl]
  unfold nbL
  simp only [List.length_append]
  first | exact h | exact hn0 ▸ h | (rw [hn0]; exact h)
end Go.Proofs.Ytnepchdpgbdogaa.Ct
