/- The contract of alive. -/
import Derived.Test.YtdbidojncboalaaPlace
namespace Go.Proofs.Ytdbidojncboalaa.Ct
open Go.ChangeShapes Go.WideShapes Go.RowKit Mm Rs

theorem slC_get (l : List Slot) (k : Nat) (h : k < l.length) : (slC l)[k * 2]? = some (.int .i64 l[k].1) ∧ (slC l)[k * 2 + 1]? = some (.int .i8 l[k].2) := by
  induction l generalizing k with
  | nil => simp at h
  | cons p ps ih =>
    cases k with
    | zero => simp [slC]
    | succ k =>
      have := ih k (by simpa using h)
      simp only [slC, List.flatMap_cons] at this ⊢
      simp only [List.getElem_cons_succ]
      refine ⟨?_, ?_⟩
      · rw [List.getElem?_append_right (by simp; omega)]; simpa [Nat.add_mul] using this.1
      · rw [List.getElem?_append_right (by simp; omega)]; have := this.2; simp only [List.length_cons, List.length_nil]; rw [← this]; congr 1; omega
/-- a row of slots, as it is read -/
theorem slots_at {w : World} {base : Nat} {v : Value} {l : List Slot} (h : w.ownsRow base 48 2 v l.length (slC l)) (hl : 0 < l.length) :
    ∃ g c, v = .slice (some ⟨g, 0, none⟩) l.length c ∧ base ≤ g ∧ g < w.heap.size ∧ ∀ k u, (slC l)[k]? = some u → w.cell? ⟨g, k, none⟩ = some u := by
  rcases h.2 with ⟨_, h0⟩ | ⟨g, cap, cur, rfl, hb, hg, _⟩
  · omega
  · refine ⟨g, cap, rfl, hb, (Array.getElem?_eq_some_iff.1 hg).1, fun k u hu => ?_⟩
    have := h.cells (g := g) rfl k u hu
    rwa [Mm.add_plain] at this

def Alive (w : World) (e : Ending) (w' : World) : Prop := e = .returned (.bool true) ∧ Only No w w'
set_option maxRecDepth 100000 in
set_option maxHeartbeats 3200000 in
theorem alive_any (w : World) : Calls Try.prog 22 #[] w (Alive w) := by
  go_enter Try.func22, Try.ntmps22
  go_wp2_with fail
  refine (place_yes (some ⟨w.heap.size, 0, none⟩) 4 4 [⟨0, 0, 0, 0⟩, ⟨0, 0, 1, 0⟩, ⟨0, 0, 2, 0⟩, ⟨0, 0, -1, 0⟩] 4 _ (by omega) (by omega) (Rds.fresh (Blk.new _ _ _) rfl) rfl (by omega) (by decide)).mono ?_
  rintro e w1 ⟨a, s, rfl, ha, hs, ho⟩
  have h1 : place (List.map (·.r) [⟨0, 0, 0, 0⟩, ⟨0, 0, 1, 0⟩, ⟨0, 0, 2, 0⟩, (⟨0, 0, -1, 0⟩ : Piece)]) 4 = ([(0, 0), (1, 0), (2, 0), (3, 0)], [], 4) := by decide +kernel
  rw [h1] at ha hs ⊢
  have o1 : Only No w w1 := ((Only.refl _ _).alloc _).trans ho
  obtain ⟨ga, ca, rfl, _, la, xa⟩ := slots_at ha (by simp)
  obtain ⟨As, cs, rfl⟩ := own_slice hs
  have HA := Lib.hid ha
  have HS := Lib.hid hs
  have O1 := Lib.hid o1
  have XA := Lib.hid xa
  clear ha hs o1 xa ho h1
  go_wp2_with fail
  refine (place_yes (some ⟨w1.heap.size, 0, none⟩) 3 3 [⟨0, 0, 0, 0⟩, ⟨0, 0, 2, 0⟩, ⟨0, 0, -1, 0⟩] 4 _ (by omega) (by omega) (Rds.fresh (Blk.new _ _ _) rfl) rfl (by omega) (by decide)).mono ?_
  rintro e w2 ⟨b, t, rfl, hb, ht, ho⟩
  have h1 : place (List.map (·.r) [⟨0, 0, 0, 0⟩, ⟨0, 0, 2, 0⟩, (⟨0, 0, -1, 0⟩ : Piece)]) 4 = ([(0, 0), (1, 5), (1, 5), (2, 0)], [], 3) := by decide +kernel
  rw [h1] at hb ht ⊢
  have o2 : Only No w1 w2 := ((Only.refl _ _).alloc _).trans ho
  obtain ⟨gb, cb, rfl, _, lb, xb⟩ := slots_at hb (by simp)
  obtain ⟨At, ct, rfl⟩ := own_slice ht
  have O2 := Lib.hid o2
  have XB := Lib.hid xb
  clear hb ht o2 xb ho h1
  go_wp2_with fail
  refine (place_yes (some ⟨w2.heap.size, 0, none⟩) 3 3 [⟨0, 0, 3, 0⟩, ⟨0, 0, 0, 0⟩, ⟨0, 0, -1, 0⟩] 2 _ (by omega) (by omega) (Rds.fresh (Blk.new _ _ _) rfl) rfl (by omega) (by decide)).mono ?_
  rintro e w3 ⟨c, u, rfl, hc, hu, ho⟩
  have h1 : place (List.map (·.r) [⟨0, 0, 3, 0⟩, ⟨0, 0, 0, 0⟩, (⟨0, 0, -1, 0⟩ : Piece)]) 2 = ([(1, 6), (2, 0)], [0], 3) := by decide +kernel
  rw [h1] at hc hu ⊢
  have o3 : Only No w2 w3 := ((Only.refl _ _).alloc _).trans ho
  obtain ⟨gc, cc, rfl, _, lc, xc⟩ := slots_at hc (by simp)
  obtain ⟨Au, cu, rfl⟩ := own_slice hu
  have o13 := O2.out.trans o3
  have ca0 : w3.cell? ⟨ga, 6, none⟩ = some (.int .i64 3) := (o13.cell la id).trans (XA.out 6 _ rfl)
  have ca1 : w3.cell? ⟨ga, 7, none⟩ = some (.int .i8 0) := (o13.cell la id).trans (XA.out 7 _ rfl)
  have cb0 : w3.cell? ⟨gb, 2, none⟩ = some (.int .i64 1) := (o3.cell lb id).trans (XB.out 2 _ rfl)
  have cb1 : w3.cell? ⟨gb, 3, none⟩ = some (.int .i8 5) := (o3.cell lb id).trans (XB.out 3 _ rfl)
  have cb2 : w3.cell? ⟨gb, 6, none⟩ = some (.int .i64 2) := (o3.cell lb id).trans (XB.out 6 _ rfl)
  have cb3 : w3.cell? ⟨gb, 7, none⟩ = some (.int .i8 0) := (o3.cell lb id).trans (XB.out 7 _ rfl)
  have cc0 : w3.cell? ⟨gc, 0, none⟩ = some (.int .i64 1) := xc 0 _ rfl
  have cc1 : w3.cell? ⟨gc, 1, none⟩ = some (.int .i8 6) := xc 1 _ rfl
  have cc2 : w3.cell? ⟨gc, 2, none⟩ = some (.int .i64 2) := xc 2 _ rfl
  have cc3 : w3.cell? ⟨gc, 3, none⟩ = some (.int .i8 0) := xc 3 _ rfl
  have O := Lib.hid (O1.out.trans o13)
  clear hc hu o13 o3 xc ho h1 XA XB O1 O2 HA HS
  go_wp2
  go_ret
  exact ⟨rfl, O.out⟩

end Go.Proofs.Ytdbidojncboalaa.Ct
