/- How much two images are alike: the program's, and the document's. -/
import Derived.Test.YtfaciljklligeaaTu
import Derived.Test.YtfaciljklligeaaMn
namespace Go.Proofs.Ytfaciljklligeaa.Ct
open Go.ChangeShapes Go.WideShapes Go.RowKit Mm
section
variable (l l2 : List Nat) (W H C : Nat)
/-- a tile's likeness -/
def tlP (c j i : Nat) : Nat := likeA (tileS l l2 W C c (8 * j) (8 * i) (min (8 * i + 8) W - 8 * i) (min (8 * j + 8) H - 8 * j))
def rowF (s c j : Nat) : Nat → Nat
  | 0 => s
  | i + 1 => fo .add (rowF s c j i) (tlP l l2 W H C c j i)
def colF (s c : Nat) : Nat → Nat
  | 0 => s
  | j + 1 => rowF l l2 W H C (colF s c j) c j ((W + 7) / 8)
def chF : Nat → Nat
  | 0 => 0
  | c + 1 => colF l l2 W H C (chF c) c ((H + 7) / 8)
def alikeP : Nat := fo .quo (chF l l2 W H C C) (floatOfInt .f64 ((C * ((H + 7) / 8 * ((W + 7) / 8)) : Nat) : Int))
end
theorem rowF_alike {l l2 : List Nat} {W H C s s' c j : Nat} (h : FEq s s') (i : Nat) : FEq (rowF l l2 W H C s c j i) (rowF l l2 W H C s' c j i) := by
  induction i with
  | zero => exact h
  | succ i ih => exact fo_alike fA ih (.refl _) 0
def AlikePost (w : World) (W H C : Int) (l : List Nat) (W2 H2 C2 : Int) (l2 : List Nat) (e : Ending) (w' : World) : Prop :=
  ∃ r, FEq r (if pairE W H C l.length W2 H2 C2 l2.length = 0 then alikeP l l2 W.toNat H.toNat C.toNat else 0) ∧ e = .returned (.tuple #[.float .f64 r, .int .i64 (pairE W H C l.length W2 H2 C2 l2.length)]) ∧ Only No w w'
set_option maxHeartbeats 3200000 in
set_option maxRecDepth 100000 in
theorem alike23_ok (w : World) (W H C : Nat) (A : Option Addr) (k1 : Nat) (l : List Nat) (A2 : Option Addr) (k2 : Nat) (l2 : List Nat) (hD : Dims W H C l.length) (hn : l.length = l2.length) (h0 : pairE W H C l.length W H C l2.length = 0) (hr : Rds w 1 A l.length (byC l)) (hr2 : Rds w 1 A2 l2.length (byC l2)) (hb : Byts l) (hb2 : Byts l2) :
    Calls Try.prog 23 #[imgV W H C A l.length k1, imgV W H C A2 l2.length k2] w fun e w' => ∃ r, FEq r (alikeP l l2 W H C) ∧ e = .returned (.tuple #[.float .f64 r, .int .i64 0]) ∧ Only No w w' := by
  have hpos : 0 < l.length := by
    rw [hD.n]; exact Nat.mul_pos (Nat.mul_pos hD.w1 hD.h1) hD.c1
  have hp := fun w => pair38 w W H C A l.length k1 W H C A2 l2.length k2
  unfold PairPost at hp
  rw [h0] at hp
  obtain ⟨ad, rfl, _, _⟩ := hr.2 hpos
  obtain ⟨ad2, rfl, _, _⟩ := hr2.2 (by omega)
  have ra := fun (x y : Nat) (w : World) => run_fop (P := Try.prog) w .add 25 x y fA
  have rq := fun (x y : Nat) (w : World) => run_fop (P := Try.prog) w .quo 25 x y fQ
  have HR := Lib.hid hr
  have HR2 := Lib.hid hr2
  have HN := Lib.hid hn
  have hw := hD.w2
  have hh := hD.h2
  have hcc := hD.c2
  have HD := Lib.hid hD
  have HB := Lib.hid hb
  have HB2 := Lib.hid hb2
  have hpost : Hid (alikeP l l2 W H C = fo .quo (chF l l2 W H C C) (floatOfInt .f64 ((C * ((H + 7) / 8 * ((W + 7) / 8)) : Nat) : Int))) := rfl
  have hq : (H + 7) / 8 ≤ 8192 ∧ (W + 7) / 8 ≤ 8192 := by omega
  obtain ⟨nx, hnx⟩ : ∃ nx, nx = (W + 7) / 8 := ⟨_, rfl⟩
  obtain ⟨ny, hny⟩ : ∃ ny, ny = (H + 7) / 8 := ⟨_, rfl⟩
  rw [← hnx, ← hny] at hq hpost
  have hnx1 : ∀ i, i < nx ↔ 8 * i < W := by omega
  have hny1 : ∀ i, i < ny ↔ 8 * i < H := by omega
  have hchS : Hid (∀ c, chF l l2 W H C (c + 1) = colF l l2 W H C (chF l l2 W H C c) c ny) := by subst hny; exact fun _ => rfl
  have hcoS : Hid (∀ s c j, colF l l2 W H C s c (j + 1) = rowF l l2 W H C (colF l l2 W H C s c j) c j nx) := by subst hnx; exact fun _ _ _ => rfl
  have hroS : Hid (∀ s c j i, rowF l l2 W H C s c j (i + 1) = fo .add (rowF l l2 W H C s c j i) (likeA (tileS l l2 W C c (8 * j) (8 * i) (min (8 * i + 8) W - 8 * i) (min (8 * j + 8) H - 8 * j)))) := fun _ _ _ _ => rfl
  have hyx : ny * nx ≤ 8192 * 8192 := Nat.mul_le_mul hq.1 hq.2
  have hnX := Lib.hid hnx1
  have hnY := Lib.hid hny1
  obtain ⟨hq1, hq2⟩ := hq
  clear hr hr2 hn hD hb hb2 h0 hnx hny hnx1 hny1
  unfold imgV imgA at *
  go_enter Try.func23, Try.ntmps23
  go_wp2_with fail
  obtain ⟨b1, b2, o2⟩ := boxes w #[.int .i64 W, .int .i64 H, .int .i64 C, .slice (some ad) l.length k1] #[.int .i64 W, .int .i64 H, .int .i64 C, .slice (some ad2) l2.length k2]
  generalize ((w.alloc (Obj.cells #[.int .i64 W, .int .i64 H, .int .i64 C, .slice (some ad) l.length k1] 32)).alloc (Obj.cells #[.int .i64 W, .int .i64 H, .int .i64 C, .slice (some ad2) l2.length k2] 32)) = w2 at *
  refine (hp w2).mono ?_
  rintro e v2 ⟨rfl, o3⟩
  have B1 := Lib.hid (b1.only o3 id)
  have B2 := Lib.hid (b2.only o3 id)
  have O2 := Lib.hid (o2.trans o3)
  obtain ⟨j0, j1, j2, j3⟩ := cells4 B1.out
  clear b1 b2 o2 o3 hp
  go_wp2_with fail
  clear j0 j1 j2 j3
  go_loopw [7, 8, 20] (fun sv tv cv wr => ∃ (c t a : Nat), c ≤ C ∧ cv = .int .i64 c ∧ tv = .int .i64 t ∧ Hid (t = c * (ny * nx)) ∧ sv = .float .f64 a ∧ Hid (FEq a (chF l l2 W H C c)) ∧ Hid (Only No v2 wr)) (fun _ _ cv _ => C - (intOf cv).toNat)
  case atStart => exact ⟨0, 0, 0, Nat.zero_le _, rfl, rfl, by simp [Hid], rfl, .refl _, Only.refl _ _⟩
  case round =>
    obtain ⟨c, t, a, hc, rfl, rfl, ht, rfl, ha, hO⟩ := hrel
    obtain ⟨j0, j1, j2, j3⟩ := cells4 (B1.out.only hO.out id)
    by_cases hlc : c < C
    · have hct : c * (ny * nx) + ny * nx ≤ 4 * (8192 * 8192) := by
        rw [← Nat.succ_mul]; exact Nat.mul_le_mul (by omega) hyx
      have hT0 : t ≤ 268435456 := by have := ht.out; omega
      replace hct := Lib.hid hct
      have dc : decide ((c : Int) < (C : Int)) = true := decide_eq_true (by omega)
      go_wp2_with fail
      clear j0 j1 j2 j3
      go_loopw [7, 8, 10] (fun sv tv jv wr => ∃ (j t a : Nat), j ≤ ny ∧ jv = .int .i64 (8 * (j : Int)) ∧ tv = .int .i64 t ∧ Hid (t = c * (ny * nx) + j * nx) ∧ sv = .float .f64 a ∧ Hid (FEq a (colF l l2 W H C (chF l l2 W H C c) c j)) ∧ Hid (Only No v2 wr)) (fun _ _ jv _ => 70000 - (intOf jv).toNat)
      case atStart => exact ⟨0, t, a, Nat.zero_le _, by simp, rfl, by unfold Hid; rw [ht.out]; omega, rfl, ha, hO⟩
      case round =>
        clear hT0 ht ha hO
        obtain ⟨j, t, a, hj, rfl, rfl, ht, rfl, ha, hO⟩ := hrel
        obtain ⟨j0, j1, j2, j3⟩ := cells4 (B1.out.only hO.out id)
        by_cases hlj : j < ny
        · have hyj : 8 * j < H := (hnY.out j).1 hlj
          have hjt : j * nx + nx ≤ ny * nx := by rw [← Nat.succ_mul]; exact Nat.mul_le_mul_right _ (by omega)
          have hT0 : t ≤ 268435456 := by have := ht.out; have := hct.out; omega
          replace hjt := Lib.hid hjt
          have dy : decide (8 * (j : Int) < (H : Int)) = true := decide_eq_true (by omega)
          go_wp2_with fail
          clear j0 j1 j2 j3
          go_loopw [7, 8, 11] (fun sv tv iv wr => ∃ (i t a : Nat), i ≤ nx ∧ iv = .int .i64 (8 * (i : Int)) ∧ tv = .int .i64 t ∧ Hid (t = c * (ny * nx) + j * nx + i) ∧ sv = .float .f64 a ∧ Hid (FEq a (rowF l l2 W H C (colF l l2 W H C (chF l l2 W H C c) c j) c j i)) ∧ Hid (Only No v2 wr)) (fun _ _ iv _ => 70000 - (intOf iv).toNat)
          case atStart => exact ⟨0, t, a, Nat.zero_le _, by simp, rfl, by unfold Hid; rw [ht.out]; omega, rfl, ha, hO⟩
          case round =>
            clear hT0 ht ha hO
            obtain ⟨i, t, a, hi, rfl, rfl, ht, rfl, ha, hO3⟩ := hrel
            obtain ⟨j0, j1, j2, j3⟩ := cells4 (B1.out.only hO3.out id)
            obtain ⟨i0, i1, i2, i3⟩ := cells4 (B2.out.only hO3.out id)
            by_cases hli : i < nx
            · have hxi : 8 * i < W := (hnX.out i).1 hli
              have hT0 : t ≤ 268435456 := by have := ht.out; have := hct.out; have := hjt.out; omega
              have hr8 : 8 * j + (min (8 * j + 8) H - 8 * j) = min (8 * j + 8) H := by omega
              have hc8 : 8 * i + (min (8 * i + 8) W - 8 * i) = min (8 * i + 8) W := by omega
              replace hr8 := Lib.hid hr8
              replace hc8 := Lib.hid hc8
              go_wp2_with fail
              replace hr8 := hr8.out
              replace hc8 := hc8.out
              refine (tile40 _ W H C (some ad) k1 l (some ad2) k2 l2 HD.out HN.out (HR.out.no (O2.out.trans hO3.out)) (HR2.out.no (O2.out.trans hO3.out)) HB.out HB2.out c (8 * i) (8 * j) hlc hxi hyj (min (8 * j + 8) H - 8 * j) (min (8 * i + 8) W - 8 * i) hr8 hc8).mono ?_
              rintro e w5 ⟨rfl, o5⟩
              have O5 := Lib.hid (hO3.out.trans o5)
              have hnext := fun t => (fo_alike fA ha.out (FEq.refl (likeA (tileS l l2 W C c (8 * j) (8 * i) (min (8 * i + 8) W - 8 * i) (min (8 * j + 8) H - 8 * j)))) t)
              replace hnext := Lib.hid hnext
              generalize hL : likeA (tileS l l2 W C c (8 * j) (8 * i) (min (8 * i + 8) W - 8 * i) (min (8 * j + 8) H - 8 * j)) = L at hnext ⊢
              replace hL := Lib.hid hL
              clear j0 j1 j2 j3 i0 i1 i2 i3 hr8 hc8 o5
              go_wp2_with fail
              go_roundw
              case rel => exact ⟨i + 1, t + 1, _, by omega, by first | go_num | (congr 1; omega), by go_num, by unfold Hid; rw [ht.out]; omega, rfl, by
                unfold Hid
                rw [hroS.out, hL.out]
                exact hnext.out _, by first | exact O5 | exact Lib.hid (O5.out.drewN _)⟩
              case measure => simp [intOf]; omega
            · obtain rfl : i = nx := by omega
              have hxi : ¬ 8 * i < W := fun h => hli ((hnX.out i).2 h)
              go_wp2_with fail
              go_roundw
              case rel => exact ⟨j + 1, t, a, by omega, by first | go_num | (congr 1; omega), rfl, by unfold Hid; rw [ht.out, Nat.succ_mul]; omega, rfl, by
                unfold Hid
                rw [hcoS.out]
                exact ha, hO3⟩
              case measure => simp [intOf]; omega
        · obtain rfl : j = ny := by omega
          have hyj : ¬ 8 * j < H := fun h => hlj ((hnY.out j).2 h)
          go_wp2_with fail
          go_roundw
          case rel => exact ⟨c + 1, t, a, by omega, by go_num, rfl, by unfold Hid; rw [ht.out, Nat.succ_mul], rfl, by
            unfold Hid
            rw [hchS.out]
            exact ha, hO⟩
          case measure => simp [intOf]; omega
    · obtain rfl : c = C := by omega
      obtain ⟨t', ht'⟩ : ∃ t' : Nat, t' = t := ⟨_, rfl⟩
      go_wp2_with fail
      go_ret2
      exact ⟨_, by rw [hpost.out, ← ht.out]; exact fo_alike fQ ha.out (.refl _) _, rfl, (O2.out.trans hO.out).drewN _⟩
set_option maxHeartbeats 3200000 in
set_option maxRecDepth 100000 in
theorem ralike24_ok (w : World) (W H C : Nat) (A : Option Addr) (k1 : Nat) (l : List Nat) (A2 : Option Addr) (k2 : Nat) (l2 : List Nat) (hD : Dims W H C l.length) (hn : l.length = l2.length) (h0 : pairE W H C l.length W H C l2.length = 0) (hr : Rds w 1 A l.length (byC l)) (hr2 : Rds w 1 A2 l2.length (byC l2)) (hb : Byts l) (hb2 : Byts l2) :
    Calls Try.prog 24 #[imgV W H C A l.length k1, imgV W H C A2 l2.length k2] w fun e w' => ∃ r, FEq r (alikeP l l2 W H C) ∧ e = .returned (.tuple #[.float .f64 r, .int .i64 0]) ∧ Only No w w' := by
  have hpos : 0 < l.length := by
    rw [hD.n]; exact Nat.mul_pos (Nat.mul_pos hD.w1 hD.h1) hD.c1
  have hp := fun w => rpair39 w W H C A l.length k1 W H C A2 l2.length k2
  unfold PairPost at hp
  rw [h0] at hp
  obtain ⟨ad, rfl, _, _⟩ := hr.2 hpos
  obtain ⟨ad2, rfl, _, _⟩ := hr2.2 (by omega)
  have ra := fun (x y : Nat) (w : World) => run_fop (P := Try.prog) w .add 25 x y fA
  have rq := fun (x y : Nat) (w : World) => run_fop (P := Try.prog) w .quo 25 x y fQ
  have HR := Lib.hid hr
  have HR2 := Lib.hid hr2
  have HN := Lib.hid hn
  have hw := hD.w2
  have hh := hD.h2
  have hcc := hD.c2
  have HD := Lib.hid hD
  have HB := Lib.hid hb
  have HB2 := Lib.hid hb2
  have hpost : Hid (alikeP l l2 W H C = fo .quo (chF l l2 W H C C) (floatOfInt .f64 ((C * ((H + 7) / 8 * ((W + 7) / 8)) : Nat) : Int))) := rfl
  have hq : (H + 7) / 8 ≤ 8192 ∧ (W + 7) / 8 ≤ 8192 := by omega
  obtain ⟨nx, hnx⟩ : ∃ nx, nx = (W + 7) / 8 := ⟨_, rfl⟩
  obtain ⟨ny, hny⟩ : ∃ ny, ny = (H + 7) / 8 := ⟨_, rfl⟩
  rw [← hnx, ← hny] at hq hpost
  have hnx1 : ∀ i, i < nx ↔ 8 * i < W := by omega
  have hny1 : ∀ i, i < ny ↔ 8 * i < H := by omega
  have hchS : Hid (∀ c, chF l l2 W H C (c + 1) = colF l l2 W H C (chF l l2 W H C c) c ny) := by subst hny; exact fun _ => rfl
  have hcoS : Hid (∀ s c j, colF l l2 W H C s c (j + 1) = rowF l l2 W H C (colF l l2 W H C s c j) c j nx) := by subst hnx; exact fun _ _ _ => rfl
  have hroS : Hid (∀ s c j i, rowF l l2 W H C s c j (i + 1) = fo .add (rowF l l2 W H C s c j i) (likeA (tileS l l2 W C c (8 * j) (8 * i) (min (8 * i + 8) W - 8 * i) (min (8 * j + 8) H - 8 * j)))) := fun _ _ _ _ => rfl
  have hyx : ny * nx ≤ 8192 * 8192 := Nat.mul_le_mul hq.1 hq.2
  have hnX := Lib.hid hnx1
  have hnY := Lib.hid hny1
  obtain ⟨hq1, hq2⟩ := hq
  clear hr hr2 hn hD hb hb2 h0 hnx hny hnx1 hny1
  unfold imgV imgA at *
  go_enter Try.func24, Try.ntmps24
  go_wp2_with fail
  obtain ⟨b1, b2, o2⟩ := boxes w #[.int .i64 W, .int .i64 H, .int .i64 C, .slice (some ad) l.length k1] #[.int .i64 W, .int .i64 H, .int .i64 C, .slice (some ad2) l2.length k2]
  generalize ((w.alloc (Obj.cells #[.int .i64 W, .int .i64 H, .int .i64 C, .slice (some ad) l.length k1] 32)).alloc (Obj.cells #[.int .i64 W, .int .i64 H, .int .i64 C, .slice (some ad2) l2.length k2] 32)) = w2 at *
  refine (hp w2).mono ?_
  rintro e v2 ⟨rfl, o3⟩
  have B1 := Lib.hid (b1.only o3 id)
  have B2 := Lib.hid (b2.only o3 id)
  have O2 := Lib.hid (o2.trans o3)
  obtain ⟨j0, j1, j2, j3⟩ := cells4 B1.out
  clear b1 b2 o2 o3 hp
  go_wp2_with fail
  clear j0 j1 j2 j3
  go_loopw [7, 8, 9] (fun sv tv cv wr => ∃ (c t a : Nat), c ≤ C ∧ cv = .int .i64 c ∧ tv = .int .i64 t ∧ Hid (t = c * (ny * nx)) ∧ sv = .float .f64 a ∧ Hid (FEq a (chF l l2 W H C c)) ∧ Hid (Only No v2 wr)) (fun _ _ cv _ => C - (intOf cv).toNat)
  case atStart => exact ⟨0, 0, 0, Nat.zero_le _, rfl, rfl, by simp [Hid], rfl, .refl _, Only.refl _ _⟩
  case round =>
    obtain ⟨c, t, a, hc, rfl, rfl, ht, rfl, ha, hO⟩ := hrel
    obtain ⟨j0, j1, j2, j3⟩ := cells4 (B1.out.only hO.out id)
    by_cases hlc : c < C
    · have hct : c * (ny * nx) + ny * nx ≤ 4 * (8192 * 8192) := by
        rw [← Nat.succ_mul]; exact Nat.mul_le_mul (by omega) hyx
      have hT0 : t ≤ 268435456 := by have := ht.out; omega
      replace hct := Lib.hid hct
      have dc : decide ((c : Int) < (C : Int)) = true := decide_eq_true (by omega)
      go_wp2_with fail
      clear j0 j1 j2 j3
      go_loopw [7, 8, 10] (fun sv tv jv wr => ∃ (j t a : Nat), j ≤ ny ∧ jv = .int .i64 ((j : Int)) ∧ tv = .int .i64 t ∧ Hid (t = c * (ny * nx) + j * nx) ∧ sv = .float .f64 a ∧ Hid (FEq a (colF l l2 W H C (chF l l2 W H C c) c j)) ∧ Hid (Only No v2 wr)) (fun _ _ jv _ => 70000 - (intOf jv).toNat)
      case atStart => exact ⟨0, t, a, Nat.zero_le _, by simp, rfl, by unfold Hid; rw [ht.out]; omega, rfl, ha, hO⟩
      case round =>
        clear hT0 ht ha hO
        obtain ⟨j, t, a, hj, rfl, rfl, ht, rfl, ha, hO⟩ := hrel
        obtain ⟨j0, j1, j2, j3⟩ := cells4 (B1.out.only hO.out id)
        by_cases hlj : j < ny
        · have hyj : 8 * j < H := (hnY.out j).1 hlj
          have hjt : j * nx + nx ≤ ny * nx := by rw [← Nat.succ_mul]; exact Nat.mul_le_mul_right _ (by omega)
          have hT0 : t ≤ 268435456 := by have := ht.out; have := hct.out; omega
          replace hjt := Lib.hid hjt
          have dy : decide (8 * (j : Int) < (H : Int)) = true := decide_eq_true (by omega)
          go_wp2_with fail
          clear j0 j1 j2 j3
          go_loopw [7, 8, 11] (fun sv tv iv wr => ∃ (i t a : Nat), i ≤ nx ∧ iv = .int .i64 ((i : Int)) ∧ tv = .int .i64 t ∧ Hid (t = c * (ny * nx) + j * nx + i) ∧ sv = .float .f64 a ∧ Hid (FEq a (rowF l l2 W H C (colF l l2 W H C (chF l l2 W H C c) c j) c j i)) ∧ Hid (Only No v2 wr)) (fun _ _ iv _ => 70000 - (intOf iv).toNat)
          case atStart => exact ⟨0, t, a, Nat.zero_le _, by simp, rfl, by unfold Hid; rw [ht.out]; omega, rfl, ha, hO⟩
          case round =>
            clear hT0 ht ha hO
            obtain ⟨i, t, a, hi, rfl, rfl, ht, rfl, ha, hO3⟩ := hrel
            obtain ⟨j0, j1, j2, j3⟩ := cells4 (B1.out.only hO3.out id)
            obtain ⟨i0, i1, i2, i3⟩ := cells4 (B2.out.only hO3.out id)
            by_cases hli : i < nx
            · have hxi : 8 * i < W := (hnX.out i).1 hli
              have hT0 : t ≤ 268435456 := by have := ht.out; have := hct.out; have := hjt.out; omega
              have hr8 : 8 * j + (min (8 * j + 8) H - 8 * j) = min (8 * j + 8) H := by omega
              have hc8 : 8 * i + (min (8 * i + 8) W - 8 * i) = min (8 * i + 8) W := by omega
              replace hr8 := Lib.hid hr8
              replace hc8 := Lib.hid hc8
              go_wp2_with fail
              replace hr8 := hr8.out
              replace hc8 := hc8.out
              refine (rtile42 _ W H C (some ad) k1 l (some ad2) k2 l2 HD.out HN.out (HR.out.no (O2.out.trans hO3.out)) (HR2.out.no (O2.out.trans hO3.out)) HB.out HB2.out c (8 * i) (8 * j) hlc hxi hyj (min (8 * j + 8) H - 8 * j) (min (8 * i + 8) W - 8 * i) i j rfl rfl hr8 hc8).mono ?_
              rintro e w4 ⟨rfl, o4⟩
              have tok := tileS_ok (W := W) (C := C) (c := c) HB.out HB2.out (8 * j) (8 * i) (min (8 * i + 8) W - 8 * i) (min (8 * j + 8) H - 8 * j)
              have tok64 : (min (8 * j + 8) H - 8 * j) * (min (8 * i + 8) W - 8 * i) ≤ 8 * 8 := Nat.mul_le_mul (by omega) (by omega)
              have tok1 : 1 * 1 ≤ (min (8 * j + 8) H - 8 * j) * (min (8 * i + 8) W - 8 * i) := Nat.mul_le_mul (by omega) (by omega)
              have tsum := tok.1.sums (by rw [tok.2]; omega) (by rw [tok.2]; omega)
              clear tok tok64 tok1
              have O4 := Lib.hid (hO3.out.trans o4)
              clear o4
              have hlk := fun w => like41 w tsum
              replace tsum := Lib.hid tsum
              unfold accV
              generalize hT : tileS l l2 W C c (8 * j) (8 * i) (min (8 * i + 8) W - 8 * i) (min (8 * j + 8) H - 8 * j) = T at hlk ⊢
              replace hT := Lib.hid hT
              go_wp2_with fail
              refine (hlk _).mono ?_
              rintro e w5' ⟨rfl, o5'⟩
              clear hlk
              obtain ⟨w5, o5, hw5⟩ : ∃ w5, Only No _ w5 ∧ w5 = w5' := ⟨_, O4.out.trans o5', rfl⟩
              subst hw5
              rw [show likeP T.n T.a T.b T.aa T.bb T.ab = likeA (tileS l l2 W C c (8 * j) (8 * i) (min (8 * i + 8) W - 8 * i) (min (8 * j + 8) H - 8 * j)) by rw [hT.out]; rfl]
              have O5 := Lib.hid (o5)
              have hnext := fun t => (fo_alike fA ha.out (FEq.refl (likeA (tileS l l2 W C c (8 * j) (8 * i) (min (8 * i + 8) W - 8 * i) (min (8 * j + 8) H - 8 * j)))) t)
              replace hnext := Lib.hid hnext
              generalize hL : likeA (tileS l l2 W C c (8 * j) (8 * i) (min (8 * i + 8) W - 8 * i) (min (8 * j + 8) H - 8 * j)) = L at hnext ⊢
              replace hL := Lib.hid hL
              clear j0 j1 j2 j3 i0 i1 i2 i3 hr8 hc8 o5
              go_wp2_with fail
              go_roundw
              case rel => exact ⟨i + 1, t + 1, _, by omega, by first | go_num | (congr 1; omega), by go_num, by unfold Hid; rw [ht.out]; omega, rfl, by
                unfold Hid
                rw [hroS.out, hL.out]
                exact hnext.out _, by first | exact O5 | exact Lib.hid (O5.out.drewN _)⟩
              case measure => simp [intOf]; omega
            · obtain rfl : i = nx := by omega
              have hxi : ¬ 8 * i < W := fun h => hli ((hnX.out i).2 h)
              go_wp2_with fail
              go_roundw
              case rel => exact ⟨j + 1, t, a, by omega, by first | go_num | (congr 1; omega), rfl, by unfold Hid; rw [ht.out, Nat.succ_mul]; omega, rfl, by
                unfold Hid
                rw [hcoS.out]
                exact ha, hO3⟩
              case measure => simp [intOf]; omega
        · obtain rfl : j = ny := by omega
          have hyj : ¬ 8 * j < H := fun h => hlj ((hnY.out j).2 h)
          go_wp2_with fail
          go_roundw
          case rel => exact ⟨c + 1, t, a, by omega, by go_num, rfl, by unfold Hid; rw [ht.out, Nat.succ_mul], rfl, by
            unfold Hid
            rw [hchS.out]
            exact ha, hO⟩
          case measure => simp [intOf]; omega
    · obtain rfl : c = C := by omega
      obtain ⟨t', ht'⟩ : ∃ t' : Nat, t' = t := ⟨_, rfl⟩
      go_wp2_with fail
      go_ret2
      exact ⟨_, by rw [hpost.out, ← ht.out]; exact fo_alike fQ ha.out (.refl _) _, rfl, (O2.out.trans hO.out).drewN _⟩
end Go.Proofs.Ytfaciljklligeaa.Ct
