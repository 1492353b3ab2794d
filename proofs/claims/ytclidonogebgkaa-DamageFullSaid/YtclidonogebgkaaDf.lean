/- Maps of damage: All. -/
import Derived.Test.YtclidonogebgkaaDe
import Derived.Deep.RegionWith
import Derived.Deep.RegionHeld3
import Derived.Deep.DeepCutAuto
import Derived.Deep.CutRange
import Derived.Laws.EntriesVeiled
namespace Go.Proofs.Ytclidonogebgkaa.Ct
open Go.ChangeShapes Go.WideShapes Go.RowKit Mm
theorem pre1 {w w2 : World} {X : Value} {t : TypeId} (o : Only No (w.drew.alloc (.cells #[X] t)) w2) : w2.cell? ⟨w.heap.size, 0, none⟩ = some X ∧ w2.frozen? ⟨w.heap.size, 0, none⟩ = false ∧ w.heap.size < w2.heap.size := by
  have b : Blk w2 w.heap.size t #[X] := (Blk.new w.drew t #[X]).only o id
  exact ⟨by have := b.cell 0; simpa using this, b.frozen 0, b.lt⟩
theorem pre2 {w w2 : World} {X Y : Value} {t t2 : TypeId} (o : Only No ((w.drew.alloc (.cells #[X] t)).alloc (.cells #[Y] t2)) w2) : w2.cell? ⟨w.heap.size, 0, none⟩ = some X ∧ w2.frozen? ⟨w.heap.size, 0, none⟩ = false ∧ w.heap.size < w2.heap.size ∧
    w2.cell? ⟨w.heap.size + 1, 0, none⟩ = some Y ∧ w2.frozen? ⟨w.heap.size + 1, 0, none⟩ = false ∧ w.heap.size + 1 < w2.heap.size := by
  have b : Blk w2 w.heap.size t #[X] := ((Blk.new w.drew t #[X]).alloc _).only o id
  have b2 : Blk w2 (w.heap.size + 1) t2 #[Y] := by
    have := (Blk.new (w.drew.alloc (.cells #[X] t)) t2 #[Y]).only o id
    simpa using this
  exact ⟨by have := b.cell 0; simpa using this, b.frozen 0, b.lt, by have := b2.cell 0; simpa using this, b2.frozen 0, b2.lt⟩
theorem blk1 {w w2 : World} {X : Value} {t : TypeId} (o : Only No (w.drew.alloc (.cells #[X] t)) w2) : Hid (Blk w2 w.heap.size t #[X]) := Lib.hid ((Blk.new w.drew t #[X]).only o id)
theorem blk2 {w w2 : World} {X Y : Value} {t t2 : TypeId} (o : Only No ((w.drew.alloc (.cells #[X] t)).alloc (.cells #[Y] t2)) w2) : Hid (Blk w2 w.heap.size t #[X] ∧ Blk w2 (w.heap.size + 1) t2 #[Y]) :=
  Lib.hid ⟨((Blk.new w.drew t #[X]).alloc _).only o id, by
    have := (Blk.new (w.drew.alloc (.cells #[X] t)) t2 #[Y]).only o id
    simpa using this⟩
theorem Blk.set0 {w : World} {g : Nat} {t : TypeId} {x : Value} (h : Blk w g t #[x]) (u : Value) : Blk (w.setCell ⟨g, 0, none⟩ u) g t #[u] := h.set 0 u
theorem Blk.new' {w : World} {g : Nat} (t : TypeId) (cs : Array Value) (hg : g = w.heap.size) : Blk (w.alloc (.cells cs t)) g t cs := by subst hg; exact Blk.new w t cs
/-- what All gives -/
def AllPost (w : World) (W : Nat) (l : List Bool) (e : Ending) (w' : World) : Prop :=
  ∃ g3 g4 A c, e = .returned (.func (.func 34) #[] #[P g4, P g3]) ∧ Blk w' g3 3 #[.int .i64 W] ∧ Blk w' g4 22 #[.slice A l.length c] ∧ w'.ownsRow w.heap.size 4 1 (.slice A l.length c) l.length (boC l) ∧ w.heap.size ≤ g3 ∧ w.heap.size ≤ g4 ∧ Only No w w'
set_option maxHeartbeats 1600000 in
theorem all21 {w : World} {g : Nat} {A : Option Addr} {c W H : Nat} {l : List Bool} (h : MapAt w g A c W H l) : Calls Try.prog 21 #[P g] w (AllPost w W l) := by
  have hcl := Lib.hid (fun w' (ho : Only No w w') => clone25 w' A c l (h.rds.no ho) h.le h.nil)
  obtain ⟨c0, c1, c2, c3⟩ := h.cells
  have H0 := Lib.hid h
  have hl := h.blk.lt
  clear h
  go_enter Try.func21, Try.ntmps21
  go_wp2_with fail
  have hS : ∀ w', Only No w w' → w'.cell? ⟨g, 0, none⟩ = some (.int .i64 W) ∧ w'.cell? ⟨g, 2, none⟩ = some (.slice A l.length c) := fun w' ho => by
    obtain ⟨a, _, b, _⟩ := (H0.out.no ho).cells
    exact ⟨a, b⟩
  replace hS := Lib.hid hS
  have q0 : Only No w w := Only.refl No w
  go_cut [3, 4] from 5 to 13 (fun s3 s4 wx => ∃ g3 g4 A2 c2, s3 = P g3 ∧ s4 = P g4 ∧ Hid (Blk wx g3 3 #[.int .i64 W] ∧ Blk wx g4 22 #[.slice A2 l.length c2] ∧ wx.ownsRow w.heap.size 4 1 (.slice A2 l.length c2) l.length (boC l) ∧ w.heap.size ≤ g3 ∧ w.heap.size ≤ g4 ∧ Only No w wx))
  case first =>
    go_region_held3 (fun w' => Only No w w' ∧ w'.cell? ⟨g, 0, none⟩ = some (.int .i64 W) ∧ w'.cell? ⟨g, 2, none⟩ = some (.slice A l.length c))
      (first
        | (refine ⟨?_, hS.out _ ?_⟩ <;> (repeat (first | exact q2 | exact q0 | refine Only.drew ?_ | refine Only.alloc ?_ _ | refine Only.setCell ?_ (.inr (by first | exact Nat.le_refl _ | exact Nat.le_succ _ | assumption | (simp; done) | (simp; omega) | omega)) _))))
      (first
        | (go_at_call 25; (with_reducible refine (hcl.out _ ?_).mono ?_); (repeat (first | exact q0 | refine Only.drew ?_ | refine Only.alloc ?_ _)); rintro e w2 ⟨v, rfl, own, o2⟩; obtain ⟨A2, cc2, rfl⟩ := own_slice own; have q2 : Only No w w2 := Only.trans (by (repeat (first | exact q0 | refine Only.drew ?_ | refine Only.alloc ?_ _))) o2; have hsz := q2.size; have hgl : g < w2.heap.size := Nat.lt_of_lt_of_le hl hsz; first | (have xx := pre2 o2; obtain ⟨x0, x1, x2, x3, x4, x5⟩ := xx; have y := blk2 o2) | (have xx := pre1 o2; obtain ⟨x0, x1, x2⟩ := xx; have y := blk1 o2) | skip))
    all_goals go_wp2_with fail
    all_goals go_meet
    all_goals refine ⟨_, _, A2, cc2, rfl, rfl, Lib.hid ⟨?_, ?_, ?_, ?_, ?_, ?_⟩⟩
    all_goals first
      | (with_reducible ((repeat (first
            | exact Blk.new' _ _ (by first | rfl | (simp; done))
            | refine Blk.alloc ?_ _
            | apply Blk.set0
            | refine Blk.far ?_ (by first | (simp; done) | (simp; omega) | omega) _
            | exact y.out
            | exact y.out.1
            | exact y.out.2)); done))
      | (refine own_base (own_only (S := fun k => k < _) own ?_ fun i hi => Nat.not_lt.2 (own_ge own i hi)) fun i hi => Nat.le_trans ?_ (own_ge own i hi)
         · repeat (first | exact Only.refl _ _ | refine Only.drew ?_ | refine Only.alloc ?_ _ | refine Only.setCell ?_ (.inl (by first | (simp; done) | (simp; omega) | omega)) _)
         · first | exact Nat.le_refl _ | exact Nat.le_succ _ | (simp; done) | (simp; omega))
      | (first | exact Nat.le_refl _ | exact Nat.le_succ _ | assumption | omega)
      | (with_reducible exact (by assumption : Only _ _ _ ∧ _ ∧ _).1)
  case rest =>
    obtain ⟨g3, g4, A2, c2, rfl, rfl, hr⟩ := hcut
    have hmf : ∀ (fn : Fn) (first cap : Array Value) (w : World), (Instr.makeFunc fn first cap).run Try.prog w = .ok (.func fn first cap) w := fun _ _ _ _ => rfl
    go_wp2_with fail
    go_ret
    obtain ⟨b3, b4, own, h3, h4, o⟩ := hr.out
    exact ⟨g3, g4, A2, c2, rfl, b3, b4, own, h3, h4, o⟩
end Go.Proofs.Ytclidonogebgkaa.Ct
