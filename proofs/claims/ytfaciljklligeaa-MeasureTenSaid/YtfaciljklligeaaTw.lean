/- Twins of images; what is the same. -/
import Derived.Test.YtfaciljklligeaaAp
import Derived.Laws.ResultCell
namespace Go.Proofs.Ytfaciljklligeaa.Ct
open Go.ChangeShapes Go.WideShapes Go.RowKit Mm
theorem info5 : (Try.prog.info? 5).map (fun i => (i.zero, i.size, i.bytes)) = some (some (.int .u8 0), 1, 1) := by kernel_rfl
theorem info25 : (Try.prog.info? 25).map (fun i => (i.zero, i.size, i.bytes)) = some (some (.float .f64 0), 1, 8) := by kernel_rfl
theorem byC_length (l : List Nat) : (byC l).length = l.length := by simp [byC]
theorem byC_one (l : List Nat) : ∀ u ∈ byC l, u.oneCell' = true := by
  intro u hu
  obtain ⟨b, _, rfl⟩ := List.mem_map.1 hu
  rfl
theorem byC_snoc {l : List Nat} {k : Nat} (h : k < l.length) : byC (l.take k) ++ [.int .u8 ((l.getD k 0 : Nat) : Int)] = byC (l.take (k + 1)) := by
  rw [List.take_succ_eq_append_getElem h, show l.getD k 0 = l[k] by simp [h]]
  unfold byC
  rw [List.map_append]
  rfl
/-- what a twin of an image is -/
def TwinPost (w : World) (W H C : Int) (l : List Nat) (e : Ending) (w' : World) : Prop :=
  ∃ A c, e = .returned (imgV W H C A l.length c) ∧ w'.ownsRow w.heap.size 5 1 (.slice A l.length c) l.length (byC l) ∧ Only No w w'
set_option maxHeartbeats 1600000 in
theorem twin35 (w : World) (W H C : Int) (A : Option Addr) (c : Nat) (l : List Nat) (hr : Rds w 1 A l.length (byC l)) (hl : l.length ≤ 140737488351232) :
    Calls Try.prog 35 #[imgV W H C A l.length c] w (TwinPost w W H C l) := by
  obtain ⟨i0, hi, hz0, hz1, hz2⟩ := info_parts info5
  unfold imgV imgA
  have HR := Lib.hid hr
  clear hr
  go_enter Try.func35, Try.ntmps35
  go_wp2_with fail
  obtain ⟨b1, b2, o2⟩ := boxes w #[.int .i64 W, .int .i64 H, .int .i64 C, .slice A l.length c] #[.int .i64 0, .int .i64 0, .int .i64 0, .slice none 0 0]
  have z2 : ((w.alloc (Obj.cells #[.int .i64 W, .int .i64 H, .int .i64 C, .slice A l.length c] 32)).alloc (Obj.cells #[.int .i64 0, .int .i64 0, .int .i64 0, .slice none 0 0] 32)).heap.size = w.heap.size + 2 := by simp
  generalize ((w.alloc (Obj.cells #[.int .i64 W, .int .i64 H, .int .i64 C, .slice A l.length c] 32)).alloc (Obj.cells #[.int .i64 0, .int .i64 0, .int .i64 0, .slice none 0 0] 32)) = w2 at *
  have hN : w.heap.size + 2 ≤ w2.heap.size := by omega
  have Z2 := Lib.hid z2
  have B1 := Lib.hid b1
  have B2 := Lib.hid b2
  have O2 := Lib.hid o2
  clear b1 b2 o2 z2
  go_loopw [3, 4] (fun v i wr => ∃ k : Nat, k ≤ l.length ∧ i = .int .i64 k ∧ wr.ownsRow w2.heap.size 5 1 v k (byC (l.take k)) ∧ Hid (Only No w2 wr)) (fun _ i _ => l.length - (intOf i).toNat)
  case atStart => exact ⟨0, Nat.zero_le _, rfl, World.ownsRow_nil _ _ _ _, Only.refl _ _⟩
  case round =>
    obtain ⟨k, hk, rfl, hown, hO⟩ := hrel
    have B1w := B1.out.only hO.out id
    obtain ⟨j0, j1, j2, j3⟩ := cells4 B1w
    by_cases hlt : k < l.length
    · obtain ⟨ad, rfl, q1⟩ := (HR.out.no (O2.out.trans hO.out)).at_ (by omega) (byC_get hlt)
      have hs := Lib.hid (byC_snoc hlt)
      generalize l.getD k 0 = x at *
      have hOsz := hO.out.size
      replace B1w := Lib.hid B1w
      go_wp2_with (at_builtin; refine wpList_append_own _ rfl _ _ 30 rfl w2.heap.size 5 i0 (.int .u8 0) 1 1 Try.underlying30 hi hz0 hz1 hz2 rfl (by decide) _ _ _ rfl (hown.alloc _) ⟨wr.heap.size, 0, none⟩ 1 1 [.int .u8 x] rfl rfl ?c1 ?c2 ?c3 ?c4 ?c5 ?_)
      case c1 => exact cell_one_new _ _ _
      case c2 => intro u hu; simp at hu; subst hu; rfl
      case c3 => unfold maxLen; omega
      case c4 => omega
      case c5 => simp; omega
      intro v' w1 hown' hgrow _
      have hO1 : Hid (Only No w2 w1) := Lib.hid ((hO.out.alloc _).then (Only.of_grown hgrow) (fun i hi => .inr (own_ge hown i hi)))
      have hown1 := Lib.hid hown'
      clear hown' hgrow hown j0 j1 j2 j3 q1
      go_wp2
      go_roundw
      case rel => exact ⟨k + 1, by omega, by go_num, by rw [← hs.out]; exact hown1.out, hO1⟩
      case measure => simp [intOf]; omega
    · obtain rfl : k = l.length := by omega
      rw [List.take_length] at hown
      obtain ⟨A', c', rfl⟩ := own_slice hown
      have B2w := B2.out.only hO.out id
      have f3 := B1w.frozen 3
      have g0 := B2w.frozen 0
      have g1 := B2w.frozen 1
      have g2 := B2w.frozen 2
      have g3 := B2w.frozen 3
      obtain ⟨r0, r1, r2, r3⟩ := cells4 B2w
      have HO := Lib.hid hown
      replace B1w := Lib.hid B1w
      replace B2w := Lib.hid B2w
      clear hown
      go_wp2
      have O := O2.out.trans hO.out
      have OW : Only (fun b => b = w.heap.size ∨ b = w.heap.size + 1) wr _ := (((((Only.refl (fun b => b = w.heap.size ∨ b = w.heap.size + 1) wr).setCell (p := ⟨w.heap.size, 3, none⟩) (.inl (.inl rfl)) (.slice A' l.length c')).setCell (p := ⟨w.heap.size + 1, 0, none⟩) (.inl (.inr rfl)) (.int .i64 W)).setCell (p := ⟨w.heap.size + 1, 1, none⟩) (.inl (.inr rfl)) (.int .i64 H)).setCell (p := ⟨w.heap.size + 1, 2, none⟩) (.inl (.inr rfl)) (.int .i64 C)).setCell (p := ⟨w.heap.size + 1, 3, none⟩) (.inl (.inr rfl)) (.slice A' l.length c')
      refine bodyPost_ret (v := .agg #[.int .i64 W, .int .i64 H, .int .i64 C, .slice A' l.length c']) ?_ rfl ⟨A', c', rfl, own_base (own_only HO.out OW (fun i hi h => ?_)) (fun i hi => ?_), O.then OW (fun i h => .inr (by omega))⟩
      · simp only [results, show Try.f35.results = #[.cell 2 32] from rfl]
        go_simp
      · have h1 := own_ge HO.out i hi
        have h2 := Z2.out
        omega
      · have h1 := own_ge (own_only HO.out OW (fun i hi h => by
          have h1 := own_ge HO.out i hi
          have h2 := Z2.out
          omega)) i hi
        omega
end Go.Proofs.Ytfaciljklligeaa.Ct
