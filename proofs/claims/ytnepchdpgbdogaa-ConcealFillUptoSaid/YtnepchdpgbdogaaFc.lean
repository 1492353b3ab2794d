/- The closure of Fill, that remembers the mean; a stand-in that asks it. -/
import Derived.Test.YtnepchdpgbdogaaDw
namespace Go.Proofs.Ytnepchdpgbdogaa.Ct
open Go.ChangeShapes Go.WideShapes Go.RowKit Mm
/-- what is remembered -/
def Rem (w : World) (bk bv : Nat) (M : Int) : Prop := ∃ (k : Bool) (v : Int), Blk w bk 4 #[.bool k] ∧ Blk w bv 35 #[.int .i16 v] ∧ (k = true → v = M)
theorem Rem.only {S : Nat → Prop} {w w' : World} {bk bv : Nat} {M : Int} (h : Rem w bk bv M) (ho : Only S w w') (h1 : ¬ S bk) (h2 : ¬ S bv) : Rem w' bk bv M := by
  obtain ⟨k, v, a, b, c⟩ := h
  exact ⟨k, v, a.only ho h1, b.only ho h2, c⟩
def Two (a b : Nat) : Nat → Prop := fun i => i = a ∨ i = b
theorem clo33 (w : World) (B W H : Nat) (l : List Bool) (bs : List (List Int)) (A : Option Addr) (c g bg bm bk bv : Nat) (hg : GridAt w B W H A bs) (hm : MapAt w B g W H l) (hB : B ≤ w.heap.size) (h1 : Blk w bg 24 #[.int .i64 W, .int .i64 H, .slice A bs.length c]) (h2 : Blk w bm 31 #[P g]) (hr : Rem w bk bv (mnP l (dcs bs) bs.length)) :
    Calls Try.prog 33 #[P bk, P bg, P bm, P bv] w fun e w' => e = .returned (.int .i16 (mnP l (dcs bs) bs.length)) ∧ Only (Two bk bv) w w' ∧ Rem w' bk bv (mnP l (dcs bs) bs.length) := by
  obtain ⟨k, v, r1, r2, r3⟩ := hr
  have c0 := h1.cell 0
  have c1 := h1.cell 1
  have c2 := h1.cell 2
  have c3 := h2.cell 0
  have c4 := r1.cell 0
  have c5 := r2.cell 0
  simp only [List.getElem?_toArray, List.getElem?_cons_zero, List.getElem?_cons_succ] at c0 c1 c2 c3 c4 c5
  replace hm := Lib.hid hm
  replace hg := Lib.hid hg
  replace h1 := Lib.hid h1
  replace h2 := Lib.hid h2
  cases k
  · have hne : bv ≠ bk := blk_ne r2 r1 (by decide)
    replace r1 := Lib.hid r1
    replace r2 := Lib.hid r2
    replace r3 := Lib.hid r3
    go_enter Try.func33, Try.ntmps33
    go_wp2_with fail
    refine (mean28 w B W H l bs A c g hg.out hm.out hB).mono ?_
    rintro e w2 ⟨rfl, o2⟩
    have q1 := r1.out.only o2 id
    have q2 := r2.out.only o2 id
    have d1 := q1.cell 0
    have d2 := q2.cell 0
    have f1 : w2.frozen? ⟨bk, 0, none⟩ = false := q1.frozen 0
    have f2 : w2.frozen? ⟨bv, 0, none⟩ = false := q2.frozen 0
    simp only [List.getElem?_toArray, List.getElem?_cons_zero] at d1 d2
    replace q1 := Lib.hid q1
    replace q2 := Lib.hid q2
    replace o2 := Lib.hid o2
    go_wp2_with fail
    go_ret
    refine ⟨by simp, ?_, ⟨true, _, ?_, ?_, fun _ => rfl⟩⟩
    · exact (((o2.out.mono (fun _ h => h.elim)).setCell (p := ⟨bk, 0, none⟩) (.inl (.inl rfl)) _)).setCell (p := ⟨bv, 0, none⟩) (.inl (.inr rfl)) _
    · exact (q1.out.set 0 _).far (p := ⟨bv, 0, none⟩) hne.symm _
    · exact ((q2.out.far (p := ⟨bk, 0, none⟩) hne _).set 0 _)
  · replace r3 := r3 rfl
    subst r3
    have R : Rem w bk bv (mnP l (dcs bs) bs.length) := ⟨true, _, r1, r2, fun _ => rfl⟩
    replace R := Lib.hid R
    clear r1 r2
    go_enter Try.func33, Try.ntmps33
    go_wp2_with fail
    go_ret
    exact ⟨by simp, Only.refl _ _, R.out⟩
theorem stand33 (w : World) (B W H : Nat) (l : List Bool) (bs : List (List Int)) (A : Option Addr) (c g bg bm bk bv : Nat) (hg : GridAt w B W H A bs) (hm : MapAt w B g W H l) (hB : B ≤ w.heap.size) (x y : Int) (px : 0 ≤ x ∧ x < W) (py : 0 ≤ y ∧ y < H) (h1 : Blk w bg 24 #[.int .i64 W, .int .i64 H, .slice A bs.length c]) (h2 : Blk w bm 31 #[P g]) (hr : Rem w bk bv (mnP l (dcs bs) bs.length)) :
    Calls Try.prog 26 #[gridV W H A bs.length c, P g, .int .i64 x, .int .i64 y, .func (.func 33) #[] #[P bk, P bg, P bm, P bv]] w fun e w' => e = .returned (.int .i16 (stP W H l (dcs bs) x y)) ∧ Only (Two bk bv) w w' ∧ Rem w' bk bv (mnP l (dcs bs) bs.length) := by
  have hk : ∀ w', Only No w w' → Rem w' bk bv (mnP l (dcs bs) bs.length) := fun w' ho => hr.only ho id id
  by_cases hne : nbL W H l (dcs bs) x y = []
  · refine (standIn26_none33 w B W H l bs A c g hg hm hB x y px py #[P bk, P bg, P bm, P bv] hne (fun v w' => v = .int .i16 (stP W H l (dcs bs) x y) ∧ Only (Two bk bv) w w' ∧ Rem w' bk bv (mnP l (dcs bs) bs.length)) (fun w' ho => ?_)).mono ?_
    · refine (clo33 w' B W H l bs A c g bg bm bk bv (hg.no ho) (hm.no ho) (Nat.le_trans hB ho.size) (h1.only ho id) (h2.only ho id) (hk w' ho)).mono ?_
      rintro e w2 ⟨rfl, o2, r2⟩
      exact ⟨_, rfl, by unfold stP; rw [if_pos hne, hg.len], (ho.mono (fun _ h => h.elim)).trans o2, r2⟩
    · rintro e w2 ⟨v, rfl, rfl, o, r⟩
      exact ⟨rfl, o, r⟩
  · refine (standIn26 w B W H l bs A c g hg hm hB x y px py 33 _ hne).mono ?_
    rintro e w2 ⟨rfl, o⟩
    exact ⟨by unfold stP; rw [if_neg hne], o.mono (fun _ h => h.elim), hk w2 o⟩
end Go.Proofs.Ytnepchdpgbdogaa.Ct
