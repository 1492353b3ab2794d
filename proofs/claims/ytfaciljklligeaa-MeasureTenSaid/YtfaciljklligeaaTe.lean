/- The law's twin. -/
import Derived.Test.YtfaciljklligeaaTw
namespace Go.Proofs.Ytfaciljklligeaa.Ct
open Go.ChangeShapes Go.WideShapes Go.RowKit Mm
set_option maxHeartbeats 1600000 in
theorem twin18 (w : World) (W H C : Int) (A : Option Addr) (c : Nat) (l : List Nat) (hr : Rds w 1 A l.length (byC l)) (hl : l.length ≤ 140737488351232) :
    Calls Try.prog 18 #[imgV W H C A l.length c] w (TwinPost w W H C l) := by
  obtain ⟨i0, hi, hz0, hz1, hz2⟩ := info_parts info5
  unfold imgV imgA
  have HR := Lib.hid hr
  clear hr
  go_enter Try.func18, Try.ntmps18
  obtain ⟨b1, b2, o2⟩ := boxes w #[.int .i64 W, .int .i64 H, .int .i64 C, .slice A l.length c] #[.int .i64 0, .int .i64 0, .int .i64 0, .slice none 0 0]
  have B1 := Lib.hid b1
  have B2 := Lib.hid b2
  have O2 := Lib.hid o2
  have HR2 := Lib.hid (HR.out.no o2)
  clear b1 b2 o2
  go_wp2_with (at_builtin; refine wpList_append_any _ rfl (.tmp 4) (.tmp 6) 30 rfl (w.heap.size + 2) 5 i0 (.int .u8 0) 1 1 Try.underlying30 hi hz0 hz1 hz2 rfl (by decide) _ 0 [] rfl (World.ownsRow_nil _ _ _ _) A l.length c (byC l) rfl HR2.out (byC_one l) (by unfold maxLen; omega) (by omega) (by simp) ?_)
  intro v1 wr hown honly _
  have hO : Hid (Only No _ wr) := honly.mono (fun i hi => by simp [Value.ownBlock] at hi)
  have B1w := B1.out.only hO.out id
  have B2w := B2.out.only hO.out id
  replace O2 := Lib.hid (O2.out.trans hO.out)
  have HO : Hid (wr.ownsRow (w.heap.size + 2) 5 1 v1 l.length (byC l)) := hown
  clear hown honly hO HR2 HR B1 B2
  obtain ⟨A', c', rfl⟩ := own_slice HO.out
  obtain ⟨j0, j1, j2, j3⟩ := cells4 B1w
  have f3 := B1w.frozen 3
  have g0 := B2w.frozen 0
  have g1 := B2w.frozen 1
  have g2 := B2w.frozen 2
  have g3 := B2w.frozen 3
  obtain ⟨r0, r1, r2, r3⟩ := cells4 B2w
  replace B1w := Lib.hid B1w
  replace B2w := Lib.hid B2w
  go_wp2_with fail
  have OW : Only (fun b => b = w.heap.size ∨ b = w.heap.size + 1) wr _ := (((((Only.refl (fun b => b = w.heap.size ∨ b = w.heap.size + 1) wr).setCell (p := ⟨w.heap.size, 3, none⟩) (.inl (.inl rfl)) (.slice A' l.length c')).setCell (p := ⟨w.heap.size + 1, 0, none⟩) (.inl (.inr rfl)) (.int .i64 W)).setCell (p := ⟨w.heap.size + 1, 1, none⟩) (.inl (.inr rfl)) (.int .i64 H)).setCell (p := ⟨w.heap.size + 1, 2, none⟩) (.inl (.inr rfl)) (.int .i64 C)).setCell (p := ⟨w.heap.size + 1, 3, none⟩) (.inl (.inr rfl)) (.slice A' l.length c')
  refine bodyPost_ret (v := .agg #[.int .i64 W, .int .i64 H, .int .i64 C, .slice A' l.length c']) ?_ rfl ⟨A', c', rfl, own_base (own_only HO.out OW (fun i hi h => ?_)) (fun i hi => ?_), O2.out.then OW (fun i h => .inr (by omega))⟩
  · simp only [results, show Try.f18.results = #[.cell 2 32] from rfl]
    go_simp
  · have h1 := own_ge HO.out i hi
    omega
  · have h1 := own_ge (own_only HO.out OW (fun i hi h => by
      have h1 := own_ge HO.out i hi
      omega)) i hi
    omega
end Go.Proofs.Ytfaciljklligeaa.Ct
