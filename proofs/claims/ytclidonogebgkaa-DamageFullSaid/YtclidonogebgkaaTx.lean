/- Maps of damage: Text. -/
import Derived.Test.YtclidonogebgkaaBld
namespace Go.Proofs.Ytclidonogebgkaa.Ct
open Go.ChangeShapes Go.WideShapes Go.RowKit Mm
def ch (b : Bool) : UInt8 := if b then 35 else 46
def rowT (W : Nat) (l : List Bool) (y : Nat) : List UInt8 := ((l.drop (y * W)).take W).map ch ++ [10]
def txt (W : Nat) (l : List Bool) : Nat → List UInt8
  | 0 => []
  | y + 1 => txt W l y ++ rowT W l y
theorem rowT_len {W H : Nat} {l : List Bool} (hl : l.length = W * H) {y : Nat} (hy : y < H) : (rowT W l y).length = W + 1 := by
  have : y * W + W ≤ l.length := by
    rw [hl, Nat.mul_comm W H, ← Nat.succ_mul]
    exact Nat.mul_le_mul_right _ hy
  simp [rowT]
  omega
theorem txt_len {W H : Nat} {l : List Bool} (hl : l.length = W * H) (y : Nat) (hy : y ≤ H) : (txt W l y).length = y * (W + 1) := by
  induction y with
  | zero => simp [txt]
  | succ y ih =>
    show (txt W l y ++ rowT W l y).length = _
    rw [List.length_append, ih (by omega), rowT_len hl (by omega), Nat.succ_mul]
theorem below_no {w w' : World} (h : Below w.heap.size w w') : Only No w w' := Only.of_below h
set_option maxRecDepth 100000 in
set_option maxHeartbeats 4000000 in
theorem text11 {w : World} {g : Nat} {A : Option Addr} {c W H n : Nat} {l : List Bool} (h : MapN w g A c W H l n) :
    Calls Try.prog 11 #[P g] w fun e w' => e = .returned (.string ⟨(txt W l H).toArray⟩) ∧ Only No w w' := by
  have hl := h.blk.lt
  have H0 := Lib.hid h
  have hW8 := h.w8
  have hH8 := h.h8
  have hle := h.le
  clear h
  go_enter Try.func11, Try.ntmps11
  obtain ⟨c0, c1, c2, c3⟩ := (H0.out.no ((Only.refl No w).alloc (.cells #[.pointer none, .slice none 0 0] 63))).cells
  go_wp2_with fail
  obtain ⟨w1, hw1⟩ : ∃ w1, w1 = w.alloc (.cells #[.pointer none, .slice none 0 0] 63) := ⟨_, rfl⟩
  have o1 : Hid (Below w.heap.size w w1) := Lib.hid (by rw [hw1]; exact (Below.refl _ w).alloc (Nat.le_refl _) _)
  have hb1 : Hid (Lib.IsBuilder 63 5 w.heap.size w.heap.size (Lib.byteCells (txt W l 0)) w1) := Lib.hid (.inl ⟨Nat.le_refl _, .slice none 0 0, by rw [hw1]; exact Blk.new w 63 _, World.ownsRow_nil _ _ _ _, by simp [Value.ownBlock]⟩)
  rw [← hw1]
  clear hw1 c0 c1 c2 c3
  have hws := Lib.hid (show ∀ w', Below w.heap.size w w' → w.heap.size ≤ w'.heap.size from fun w' h => h.size)
  generalize hBB : w.heap.size = B at *
  replace hBB := Lib.hid hBB
  go_loopw [11] (fun v11 wr => ∃ y : Nat, v11 = .int .i64 y ∧ y ≤ H ∧ Hid (Lib.IsBuilder 63 5 B B (Lib.byteCells (txt W l y)) wr ∧ Below B w wr)) (fun v11 _ => H - (intOf v11).toNat)
  case atStart => exact ⟨0, rfl, by omega, Lib.hid ⟨hb1.out, o1.out⟩⟩
  case round =>
    obtain ⟨y, rfl, hy, hI⟩ := hrel
    by_cases hlt : y < H
    · have hlt' : (y : Int) < H := by omega
      have oN : Only No w wr := Only.of_below (by rw [hBB.out]; exact hI.out.2)
      obtain ⟨c0, c1, c2, c3⟩ := (H0.out.no oN).cells
      have hpl : y * W + W ≤ l.length := by
        rw [H0.out.len, Nat.mul_comm W H, ← Nat.succ_mul]
        exact Nat.mul_le_mul_right _ hlt
      have hcap := own_cap H0.out.own
      have hlen := Lib.hid (txt_len H0.out.len y hy)
      have hyW : Hid (y * (W + 1) + W + 1 ≤ 67117056) := Lib.hid (by
        have h1 : y * (W + 1) + (W + 1) ≤ 8192 * (W + 1) := by rw [← Nat.succ_mul]; exact Nat.mul_le_mul_right _ (by omega)
        have h2 : 8192 * (W + 1) ≤ 8192 * 8193 := Nat.mul_le_mul_left _ (by omega)
        omega)
      have hrd := Lib.hid (fun w' (ho : Only No w w') => (H0.out.no ho).rds)
      have e1 : IntKind.i64.wrap ((y : Int) * (W : Int)) = ((y * W : Nat) : Int) := by rw [IntWalk.i64_in _ (by rw [← Int.natCast_mul]; omega), ← Int.natCast_mul]
      have hrow : Hid (∀ k, k < W → ((l.drop (y * W)).take (k + 1)).map ch = ((l.drop (y * W)).take k).map ch ++ [ch (l.getD (y * W + k) false)]) := Lib.hid fun k hk => by
        rw [List.take_succ_eq_append_getElem (by simp; omega), List.map_append]
        simp [show y * W + k < l.length by omega]
      have hend : Hid (txt W l (y + 1) = txt W l y ++ (((l.drop (y * W)).take W).map ch) ++ [10]) := Lib.hid (by show txt W l y ++ rowT W l y = _; unfold rowT; rw [List.append_assoc])
      have hz : Hid ((l.drop (y * W)).take 0 = []) := Lib.hid (by simp)
      generalize hj : y * W = j at *
      replace hj := Lib.hid hj
      clear oN
      rcases Nat.eq_zero_or_pos W with rfl | hW0
      · have hj0 : j = 0 := by have := hj.out; rw [Nat.mul_zero] at this; exact this.symm
        have hl0 : l.length = 0 := by have := H0.out.len; rw [Nat.zero_mul] at this; exact this
        obtain rfl : l = [] := List.eq_nil_of_length_eq_zero hl0
        subst hj0
        simp only [List.length_nil, Int.natCast_zero] at c0 c2 e1
        have hlb : (Lib.byteCells (txt 0 [] y)).length + 1 ≤ 140737488355328 := by rw [Lib.byteCells_length, hlen.out]; have := hyW.out; omega
        have hw := Lib.hid (fun w2 (hb : Lib.IsBuilder 63 5 B B (Lib.byteCells (txt 0 [] y)) w2) (h : Below B w w2) => write31 B B _ 10 w2 hb hlb (hws.out _ h))
        clear hlb
        have hend2 : Hid (txt 0 [] (y + 1) = txt 0 [] y ++ [10]) := Lib.hid (by rw [hend.out]; simp)
        clear hlen hyW hrd hrow hend hz hpl hl0 hj hle
        rcases A with _ | ad
        · have hc0 : c = 0 := by
            rcases H0.out.own.2 with ⟨hv, _⟩ | ⟨g', cap, cur, hv, _⟩
            · injection hv
            · simp at hv
          subst hc0
          go_wp2_with fail
          go_quiet (fail)
          obtain ⟨w2, hw2⟩ : ∃ w2, w2 = wr.drewN nq := ⟨_, rfl⟩
          have hI2 : Hid (Lib.IsBuilder 63 5 B B (Lib.byteCells (txt 0 [] y)) w2 ∧ Below B w w2) := Lib.hid (by rw [hw2]; exact ⟨hI.out.1, ⟨hI.out.2.os, hI.out.2.tape, hI.out.2.output, hI.out.2.size, hI.out.2.block⟩⟩)
          rw [← hw2]
          replace hw := Lib.hid (hw.out w2 hI2.out.1 hI2.out.2)
          rw [show (((10 : UInt8).toNat : Nat) : Int) = 10 from rfl] at hw
          clear hw2 hI c0 c1 c2 c3
          go_wp2_with fail
          go_loopw [31] (fun v31 wq => v31 = .int .i64 0 ∧ wq = w2) (fun _ _ => 0)
          case atStart => exact ⟨rfl, rfl⟩
          case round =>
            obtain ⟨rfl, rfl⟩ := hrel
            go_wp2_with (go_at_call 31; (with_reducible refine hw.out.mono ?_); rintro e w3 ⟨rfl, hb3, hl3⟩)
            go_roundw
            case rel => exact ⟨y + 1, by go_num, by omega, Lib.hid ⟨.inr (by rw [hend2.out, Lib.byteCells_append]; exact hb3), hI2.out.2.trans hl3⟩⟩
            case measure => simp [intOf]; omega
        · obtain ⟨bk, rfl⟩ : ∃ bk, ad = ⟨bk, 0, none⟩ := by
            rcases H0.out.own.2 with ⟨hv, _⟩ | ⟨g', cap, cur, hv, _⟩
            · simp at hv
            · injection hv with hA; injection hA with hA; exact ⟨g', hA⟩
          go_wp2_with fail
          go_quiet (fail)
          obtain ⟨w2, hw2⟩ : ∃ w2, w2 = wr.drewN nq := ⟨_, rfl⟩
          have hI2 : Hid (Lib.IsBuilder 63 5 B B (Lib.byteCells (txt 0 [] y)) w2 ∧ Below B w w2) := Lib.hid (by rw [hw2]; exact ⟨hI.out.1, ⟨hI.out.2.os, hI.out.2.tape, hI.out.2.output, hI.out.2.size, hI.out.2.block⟩⟩)
          rw [← hw2]
          replace hw := Lib.hid (hw.out w2 hI2.out.1 hI2.out.2)
          rw [show (((10 : UInt8).toNat : Nat) : Int) = 10 from rfl] at hw
          clear hw2 hI c0 c1 c2 c3
          go_wp2_with fail
          go_loopw [31] (fun v31 wq => v31 = .int .i64 0 ∧ wq = w2) (fun _ _ => 0)
          case atStart => exact ⟨rfl, rfl⟩
          case round =>
            obtain ⟨rfl, rfl⟩ := hrel
            go_wp2_with (go_at_call 31; (with_reducible refine hw.out.mono ?_); rintro e w3 ⟨rfl, hb3, hl3⟩)
            go_roundw
            case rel => exact ⟨y + 1, by go_num, by omega, Lib.hid ⟨.inr (by rw [hend2.out, Lib.byteCells_append]; exact hb3), hI2.out.2.trans hl3⟩⟩
            case measure => simp [intOf]; omega
      · obtain ⟨bk, rfl⟩ : ∃ bk, A = some ⟨bk, 0, none⟩ := by
          rcases H0.out.own.2 with ⟨_, h1⟩ | ⟨g', cap, cur, hv, _⟩
          · omega
          · injection hv with hA; exact ⟨g', hA⟩
        go_wp2_with fail
        go_quiet (fail)
        obtain ⟨w2, hw2⟩ : ∃ w2, w2 = wr.drewN nq := ⟨_, rfl⟩
        have hI2 : Hid (Lib.IsBuilder 63 5 B B (Lib.byteCells (txt W l y)) w2 ∧ Below B w w2) := Lib.hid (by rw [hw2]; exact ⟨hI.out.1, ⟨hI.out.2.os, hI.out.2.tape, hI.out.2.output, hI.out.2.size, hI.out.2.block⟩⟩)
        rw [← hw2]
        clear hw2 hI c0 c1 c2 c3
        go_wp2_with fail
        go_loopw [31] (fun v31 wq => ∃ k : Nat, v31 = .int .i64 k ∧ k ≤ W ∧ Hid (Lib.IsBuilder 63 5 B B (Lib.byteCells (txt W l y ++ ((l.drop j).take k).map ch)) wq ∧ Below B w wq)) (fun v31 _ => W - (intOf v31).toNat)
        case atStart => exact ⟨0, rfl, by omega, Lib.hid (by rw [hz.out]; simpa using hI2.out)⟩
        case round =>
          obtain ⟨k, rfl, hk, hI⟩ := hrel
          have hlk : (Lib.byteCells (txt W l y ++ ((l.drop j).take k).map ch)).length = y * (W + 1) + k := by
            rw [Lib.byteCells_length, List.length_append, hlen.out]
            simp
            omega
          have hBw := hws.out _ hI.out.2
          by_cases hlk2 : k < W
          · have hlk3 : (k : Int) < W := by omega
            have oN : Only No w wr := Only.of_below (by rw [hBB.out]; exact hI.out.2)
            obtain ⟨ad, e, hcell⟩ := (hrd.out _ oN).at_ (i := j + k) (by omega) (boC_get (by omega))
            injection e with e
            subst e
            rw [Mm.add_plain] at hcell
            have hst := Lib.hid (hrow.out k hlk2)
            have hb := hI.out.1
            have hbel := Lib.hid hI.out.2
            have hwr := fun x => write31 B B _ x wr hb (by rw [hlk]; have := hyW.out; omega) hBw
            clear oN hI hb hlk
            generalize l.getD (j + k) false = bb at hcell hst
            cases bb
            · have hw := hwr 46
              rw [show (((46 : UInt8).toNat : Nat) : Int) = 46 from rfl] at hw
              replace hw := Lib.hid hw
              clear hwr
              go_wp2_with (go_at_call 31; (with_reducible refine hw.out.mono ?_); rintro e w3 ⟨rfl, hb3, hl3⟩)
              go_roundw
              case rel => exact ⟨k + 1, by go_num, by omega, Lib.hid ⟨.inr (by rw [hst.out, ← List.append_assoc, Lib.byteCells_append]; exact hb3), hbel.out.trans hl3⟩⟩
              case measure => simp [intOf]; omega
            · have hw := hwr 35
              rw [show (((35 : UInt8).toNat : Nat) : Int) = 35 from rfl] at hw
              replace hw := Lib.hid hw
              clear hwr
              go_wp2_with (go_at_call 31; (with_reducible refine hw.out.mono ?_); rintro e w3 ⟨rfl, hb3, hl3⟩)
              go_roundw
              case rel => exact ⟨k + 1, by go_num, by omega, Lib.hid ⟨.inr (by rw [hst.out, ← List.append_assoc, Lib.byteCells_append]; exact hb3), hbel.out.trans hl3⟩⟩
              case measure => simp [intOf]; omega
          · obtain rfl : k = W := by omega
            have hw := write31 B B _ 10 wr hI.out.1 (by rw [hlk]; have := hyW.out; omega) hBw
            rw [show (((10 : UInt8).toNat : Nat) : Int) = 10 from rfl] at hw
            replace hw := Lib.hid hw
            have hbel := Lib.hid hI.out.2
            clear hI hlk
            go_wp2_with (go_at_call 31; (with_reducible refine hw.out.mono ?_); rintro e w3 ⟨rfl, hb3, hl3⟩)
            go_roundw
            case rel => exact ⟨y + 1, by go_num, by omega, Lib.hid ⟨.inr (by rw [hend.out, Lib.byteCells_append]; exact hb3), hbel.out.trans hl3⟩⟩
            case measure => simp [intOf]; omega
    · obtain rfl : y = H := by omega
      have hBw := hws.out _ hI.out.2
      have hs := Lib.hid (Sh.Try.Builder_String_any B B _ wr hI.out.1 hBw)
      have hbel := Lib.hid hI.out.2
      clear hI
      go_wp2_with (go_at_call 32; (with_reducible refine hs.out.mono ?_); rintro e w3 ⟨rfl, hl3⟩)
      go_ret
      exact ⟨rfl, Only.of_below (by rw [hBB.out]; exact hbel.out.trans hl3)⟩
end Go.Proofs.Ytclidonogebgkaa.Ct
