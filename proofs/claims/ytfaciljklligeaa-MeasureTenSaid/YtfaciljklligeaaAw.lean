/- The law's waking test. -/
import Derived.Test.YtfaciljklligeaaTx
import Derived.Test.YtfaciljklligeaaOd
namespace Go.Proofs.Ytfaciljklligeaa.Ct
open Go.ChangeShapes Go.WideShapes Go.RowKit Mm
def AwPost (w : World) (e : Ending) (w' : World) : Prop := e = .returned (.bool true) ∧ Only No w w'
/-- the two, Apart-like: a pair of images, read -/
theorem nz {a b : Nat} (h2 : FEq a b) (h : ord b b = some .eq) : a = b := h2.elim id fun k => by rw [(order_nan k.2 b).1] at h; cases h
theorem add_zero' (a : Addr) : a.add 0 = a := by
  unfold Addr.add
  split <;> simp_all
theorem o25 : ord 4612811918334230528 4612811918334230528 = some .eq := by decide +kernel
theorem o125 : ord 4608308318706860032 4608308318706860032 = some .eq := by decide +kernel
theorem o1 : ord 4607182418800017408 4607182418800017408 = some .eq := by decide +kernel
theorem o20 : ord W20 W20 = some .eq := by decide +kernel
theorem bytT1 : Byts [10, 20] := by unfold Byts; intro x hx; simp at hx; omega
theorem bytT2 : Byts [13, 16] := by unfold Byts; intro x hx; simp at hx; omega
theorem ordT {ms : List Nat} (hp : ms.Perm [4613937818241073152, 4607182418800017408]) (hs : Sorted ms) : ms = [4607182418800017408, 4613937818241073152] := by
  have hk : key 4607182418800017408 < key 4613937818241073152 := by decide +kernel
  have hl := hp.length_eq
  match ms, hl with
  | [a, b], _ =>
    have hs' : key a ≤ key b := by
      unfold Sorted at hs
      simp at hs
      exact hs
    have ha : a ∈ [4613937818241073152, 4607182418800017408] := hp.mem_iff.1 (by simp)
    have hc := hp.count_eq 4607182418800017408
    simp at ha
    rcases ha with rfl | rfl
    · have hb : b ∈ [4613937818241073152, 4607182418800017408] := hp.mem_iff.1 (by simp)
      simp at hb
      rcases hb with rfl | rfl
      · simp at hc
      · omega
    · have hb : b ∈ [4613937818241073152, 4607182418800017408] := hp.mem_iff.1 (by simp)
      simp at hb
      rcases hb with rfl | rfl
      · rfl
      · simp at hc
set_option maxHeartbeats 3200000 in
theorem awake12 (w : World) : Calls Try.prog 12 #[] w (AwPost w) := by
  have hd26 := Lib.hid (fun w => dec26 (x := 4648930875306672128) (run650 Try.prog) w)
  rw [dec650] at hd26
  go_enter Try.func12, Try.ntmps12
  go_wp2_with fail
  have B1 := Blk.new w 25 #[Value.float FloatKind.f64 4607182418800017408, Value.float FloatKind.f64 4611686018427387904, Value.float FloatKind.f64 4613937818241073152, Value.float FloatKind.f64 4616189618054758400]
  have O1 := Lib.hid ((Only.refl No w).alloc (.cells #[Value.float FloatKind.f64 4607182418800017408, Value.float FloatKind.f64 4611686018427387904, Value.float FloatKind.f64 4613937818241073152, Value.float FloatKind.f64 4616189618054758400] 25))
  generalize hg : w.heap.size = g at *
  generalize (w.alloc (.cells #[Value.float FloatKind.f64 4607182418800017408, Value.float FloatKind.f64 4611686018427387904, Value.float FloatKind.f64 4613937818241073152, Value.float FloatKind.f64 4616189618054758400] 25)) = w1 at *
  refine (mean14 w1 (some ⟨g, 0, none⟩) 4 L1234 (Rds.fresh (size := 1) (n := 4) B1 rfl) (by decide)).mono ?_
  clear B1
  rintro e w2 ⟨m, s, d, hm, hs, rfl, rfl⟩
  obtain rfl : m = 4612811918334230528 := nz (mean1234 ▸ hm) o25
  obtain rfl : s = 4608308318706860032 := nz (spread1234 ▸ hs) o125
  have O2 := Lib.hid (O1.out.drewN d)
  generalize w1.drewN d = w2 at *
  clear hm hs O1 w1 hg
  go_wp2_with fail
  refine (two37 w2 10 20).mono ?_
  rintro e w3 ⟨A1, c1, rfl, R1, o1⟩
  replace O2 := Lib.hid (O2.out.trans o1)
  replace R1 := Lib.hid R1
  clear o1
  unfold imgV imgA
  go_wp2_with fail
  refine (two37 w3 13 16).mono ?_
  rintro e w4 ⟨A2, c2, rfl, R2, o1⟩
  replace O2 := Lib.hid (O2.out.trans o1)
  replace R1 := Lib.hid (R1.out _ o1)
  replace R2 := Lib.hid (R2 _ (.refl _ _))
  clear o1
  unfold imgV imgA
  go_wp2_with fail
  refine (apart19 w4 2 1 1 A1 c1 [10, 20] 2 1 1 A2 c2 [13, 16] R1.out R2.out bytT1 bytT2).mono ?_
  rintro e w5 ⟨rfl, o1⟩
  rw [if_pos (by exact pairT), apartT, show pairE 2 1 1 [10, 20].length 2 1 1 [13, 16].length = 0 from pairT]
  replace O2 := Lib.hid (O2.out.trans o1)
  clear o1 R1 R2
  go_wp2_with fail
  refine (two37 w5 10 20).mono ?_
  rintro e w6 ⟨A3, c3, rfl, R1, o1⟩
  replace O2 := Lib.hid (O2.out.trans o1)
  replace R1 := Lib.hid R1
  clear o1
  unfold imgV imgA
  go_wp2_with fail
  refine (two37 w6 13 16).mono ?_
  rintro e w7 ⟨A4, c4, rfl, R2, o1⟩
  replace O2 := Lib.hid (O2.out.trans o1)
  replace R1 := Lib.hid (R1.out _ o1)
  replace R2 := Lib.hid (R2 _ (.refl _ _))
  clear o1
  unfold imgV imgA
  go_wp2_with fail
  refine (peak21 w7 2 1 1 A3 c3 [10, 20] 2 1 1 A4 c4 [13, 16] R1.out R2.out bytT1 bytT2).mono ?_
  rintro e w8 ⟨rfl, o1⟩
  rw [if_pos (by exact pairT), show pkK [10, 20] [13, 16] [10, 20].length = 4 from peakT, show pairE 2 1 1 [10, 20].length 2 1 1 [13, 16].length = 0 from pairT]
  replace O2 := Lib.hid (O2.out.trans o1)
  clear o1 R1 R2
  go_wp2_with fail
  refine (two37 w8 10 20).mono ?_
  rintro e w9 ⟨A5, c5, rfl, R1, o1⟩
  replace O2 := Lib.hid (O2.out.trans o1)
  replace R1 := Lib.hid R1
  clear o1
  unfold imgV imgA
  go_wp2_with fail
  refine (two37 w9 10 20).mono ?_
  rintro e w10 ⟨A6, c6, rfl, R2, o1⟩
  replace O2 := Lib.hid (O2.out.trans o1)
  replace R1 := Lib.hid (R1.out _ o1)
  replace R2 := Lib.hid (R2 _ (.refl _ _))
  clear o1
  unfold imgV imgA
  go_wp2_with fail
  refine (alike23 w10 2 1 1 A5 c5 [10, 20] 2 1 1 A6 c6 [10, 20] R1.out R2.out bytT1 bytT1).mono ?_
  rintro e w11 ⟨r, hr, rfl, o1⟩
  rw [if_pos (by exact pairT)] at hr
  obtain rfl : r = 4607182418800017408 := nz (alikeT ▸ hr) Ct.o1
  rw [show pairE 2 1 1 [10, 20].length 2 1 1 [10, 20].length = 0 from pairT]
  replace O2 := Lib.hid (O2.out.trans o1)
  clear o1 R1 R2 hr
  go_wp2_with fail
  refine (hd26.out w11).mono ?_
  rintro e w12 ⟨a, d, ha, rfl, rfl⟩
  obtain rfl : a = W20 := nz ha o20
  replace O2 := Lib.hid (O2.out.drewN d)
  unfold W20
  generalize w11.drewN d = w12 at *
  clear ha hd26
  go_wp2_with fail
  have B1 := Blk.new w12 25 #[Value.float FloatKind.f64 4613937818241073152, Value.float FloatKind.f64 4607182418800017408]
  replace O2 := Lib.hid (O2.out.alloc (.cells #[Value.float FloatKind.f64 4613937818241073152, Value.float FloatKind.f64 4607182418800017408] 25))
  generalize w12.heap.size = g at *
  generalize (w12.alloc (.cells #[Value.float FloatKind.f64 4613937818241073152, Value.float FloatKind.f64 4607182418800017408] 25)) = w13 at *
  refine (order30 w13 (some ⟨g, 0, none⟩) 2 [4613937818241073152, 4607182418800017408] (Rds.fresh (size := 1) (n := 2) B1 rfl) (fun _ h => by cases h; rfl) (by decide) (by decide)).mono ?_
  rintro e w14 ⟨v, ms, rfl, hp, hs, own, o1⟩
  obtain rfl := ordT hp hs
  obtain ⟨A, c, rfl⟩ := own_slice own
  replace O2 := Lib.hid (O2.out.trans o1)
  obtain ⟨ad, rfl, q0⟩ := (Rds.of_own own).at_ (i := 0) (by decide) rfl
  have q1 : w14.cell? ad = some (.float .f64 4607182418800017408) := by rw [add_zero'] at q0; exact q0
  clear own o1 B1 hp hs
  rw [show [4613937818241073152, 4607182418800017408].length = 2 from rfl]
  go_wp2_with fail
  go_ret
  exact ⟨rfl, O2.out⟩
end Go.Proofs.Ytfaciljklligeaa.Ct
