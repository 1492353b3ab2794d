/- The document's likeness of a tile's sums: the walk. -/
import Derived.Test.YtfaciljklligeaaLl
namespace Go.Proofs.Ytfaciljklligeaa.Ct
open Go.ChangeShapes Go.WideShapes Go.RowKit Mm
theorem F.run {op : BinOp} {x y r : Nat} (h : F op x y r) : ∀ w, (binOp op 25 (.float .f64 x) (.float .f64 y)).run Try.prog w = .ok (.float .f64 r) w := fun w => run_float_arith w op 25 .f64 x y r h
def sumsV (n a b aa bb ab : Nat) : Array Value := #[.int .i64 n, .int .i64 a, .int .i64 b, .int .i64 aa, .int .i64 bb, .int .i64 ab]
set_option maxHeartbeats 1600000 in
theorem like41 (w : World) {n a b aa bb ab : Nat} (h : Sums n a b aa bb ab) : Calls Try.prog 41 #[.agg (sumsV n a b aa bb ab)] w fun e w' => e = .returned (.float .f64 (likeP n a b aa bb ab)) ∧ Only No w w' := by
  obtain ⟨p, q, pp, qq, pq, ga, gb, gg, u, v, x, p2, both, w2, b1, c1, above, d0, d, e0, e, below, r, L, _⟩ := like_ex h
  rw [L.eq]
  have a1 := L.hp.run
  have a2 := L.hq.run
  have a3 := L.hpp.run
  have a4 := L.hqq.run
  have a5 := L.hpq.run
  have a6 := L.hga.run
  have a7 := L.hgb.run
  have a8 := L.hgg.run
  have a9 := L.hu.run
  have a10 := L.hv.run
  have a11 := L.hw.run
  have a12 := L.hp2.run
  have a13 := L.hboth.run
  have a14 := L.hw2.run
  have a15 := L.hb1.run
  have a16 := L.hc1.run
  have a17 := L.habove.run
  have a18 := L.hd0.run
  have a19 := L.hd.run
  have a20 := L.he0.run
  have a21 := L.he.run
  have a22 := L.hbelow.run
  have a23 := L.hr.run
  unfold W2 WA WB foi at *
  have O := Lib.hid ((Only.refl No w).alloc (.cells (sumsV n a b aa bb ab) 56))
  replace L := Lib.hid L
  replace h := Lib.hid h
  unfold sumsV at *
  have cff := conv_ff
  go_enter Try.func41, Try.ntmps41
  go_wp2_with fail
  go_ret
  exact ⟨rfl, O.out⟩
end Go.Proofs.Ytfaciljklligeaa.Ct
