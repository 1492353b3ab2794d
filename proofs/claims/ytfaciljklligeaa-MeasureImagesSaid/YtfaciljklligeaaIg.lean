/- MeasureImages: the walk. -/
import Derived.Test.YtfaciljklligeaaTe
import Derived.Test.YtfaciljklligeaaAw
import Derived.Test.YtfaciljklligeaaRd
import Derived.StillTailTactics
namespace Go.Proofs.Ytfaciljklligeaa.Ct
open Go.ChangeShapes Go.WideShapes Go.RowKit Mm
theorem Far.of_lt {w : World} {n : Nat} {A : Option Addr} {xs : List Value} {size i : Nat} (h : Rds w size A n xs) (hn : 0 < n) (hi : w.heap.size ≤ i) : Far (Mm.One i) A := by
  intro ad e k
  obtain ⟨ad', e', hl, _⟩ := h.2 hn
  have : ad.block = i := k
  rw [e] at e'; cases e'; omega
/-- the four images of the loop: a and b as they are handed in (boxed), x and y their twins -/
structure Im4 (base g3 g4 g8 g9 : Nat) (W H C W2 H2 C2 : Int) (la lb : List Nat) (wr : World) (Aa : Option Addr) (ca : Nat) (Ab : Option Addr) (cb : Nat) (Ax : Option Addr) (cx : Nat) (Ay : Option Addr) (cy : Nat) : Prop where
  b3 : Blk wr g3 32 (imgA W H C Aa la.length ca)
  b4 : Blk wr g4 32 (imgA W2 H2 C2 Ab lb.length cb)
  b8 : Blk wr g8 32 (imgA W H C Ax la.length cx)
  b9 : Blk wr g9 32 (imgA W2 H2 C2 Ay lb.length cy)
  ra : Rds wr 1 Aa la.length (byC la)
  rb : Rds wr 1 Ab lb.length (byC lb)
  ry : Rds wr 1 Ay lb.length (byC lb)
  ox : wr.ownsRow base 5 1 (.slice Ax la.length cx) la.length (byC la)
  off : ∀ i, (Value.slice Ax la.length cx).ownBlock = some i → (0 < la.length → Far (Mm.One i) Aa) ∧ (0 < lb.length → Far (Mm.One i) Ab ∧ Far (Mm.One i) Ay)
  st : 0 < lb.length → Far (Mm.One g3) Ab ∧ Far (Mm.One g3) Ay
  ap : g3 ≠ g4 ∧ g3 ≠ g8 ∧ g3 ≠ g9
  ya : Byts la
  yb : Byts lb
theorem Im4.no {base g3 g4 g8 g9 : Nat} {W H C W2 H2 C2 : Int} {la lb : List Nat} {wr w' : World} {Aa : Option Addr} {ca : Nat} {Ab : Option Addr} {cb : Nat} {Ax : Option Addr} {cx : Nat} {Ay : Option Addr} {cy : Nat}
    (h : Im4 base g3 g4 g8 g9 W H C W2 H2 C2 la lb wr Aa ca Ab cb Ax cx Ay cy) (o : Only No wr w') : Im4 base g3 g4 g8 g9 W H C W2 H2 C2 la lb w' Aa ca Ab cb Ax cx Ay cy :=
  ⟨h.b3.only o id, h.b4.only o id, h.b8.only o id, h.b9.only o id, h.ra.no o, h.rb.no o, h.ry.no o, own_only h.ox o (fun _ _ => id), h.off, h.st, h.ap, h.ya, h.yb⟩
theorem byC_set (l : List Nat) (N y : Nat) : byC (l.set N y) = (byC l).set N (.int .u8 (y : Int)) := by unfold byC; rw [List.map_set]
theorem byts_set {l : List Nat} (h : Byts l) (N : Nat) {y : Nat} (hy : y ≤ 255) : Byts (l.set N y) := by
  intro b hb
  rcases List.mem_or_eq_of_mem_set hb with hb | hb
  · exact h b hb
  · omega
/-- the round's end: the image a is a new one, a sample of it and of x has changed -/
theorem Im4.turn {base g3 g4 g8 g9 : Nat} {W H C W2 H2 C2 : Int} {la lb : List Nat} {w15 w16 w17 : World} {Aa : Option Addr} {ca : Nat} {Ab : Option Addr} {cb gx cx : Nat} {Ay : Option Addr} {cy G cg : Nat}
    (h : Im4 base g3 g4 g8 g9 W H C W2 H2 C2 la lb w15 Aa ca Ab cb (some ⟨gx, 0, none⟩) cx Ay cy) (o : Only No w15 w16)
    (og : w16.ownsRow w15.heap.size 5 1 (.slice (some ⟨G, 0, none⟩) la.length cg) la.length (byC la)) (o17 : Only (Mm.One g3) w16 w17) (n3 : Blk w17 g3 32 (imgA W H C (some ⟨G, 0, none⟩) la.length cg)) (N y : Nat) (hy : y ≤ 255) :
    Im4 base g3 g4 g8 g9 W H C W2 H2 C2 (la.set N y) lb ((w17.drew.setCell ⟨G, N, none⟩ (.int .u8 (y : Int))).drew.setCell ⟨gx, N, none⟩ (.int .u8 (y : Int))) (some ⟨G, 0, none⟩) cg Ab cb (some ⟨gx, 0, none⟩) cx Ay cy := by
  have hG := own_ge og G (by simp [Value.ownBlock])
  have hgx := own_lt h.ox gx (by simp [Value.ownBlock])
  have l3 := h.b3.lt
  have l4 := h.b4.lt
  have l8 := h.b8.lt
  have l9 := h.b9.lt
  have x3 : gx ≠ g3 := fun e => own_blk h.ox h.b3 (by decide) (by simp [Value.ownBlock, e])
  have x4 : gx ≠ g4 := fun e => own_blk h.ox h.b4 (by decide) (by simp [Value.ownBlock, e])
  have x8 : gx ≠ g8 := fun e => own_blk h.ox h.b8 (by decide) (by simp [Value.ownBlock, e])
  have x9 : gx ≠ g9 := fun e => own_blk h.ox h.b9 (by decide) (by simp [Value.ownBlock, e])
  obtain ⟨p4, p8, p9⟩ := h.ap
  have hn : (la.set N y).length = la.length := List.length_set
  have h16 := h.no o
  obtain ⟨T, hT⟩ : ∃ T : Nat → Prop, T = fun k => k = g3 ∨ k = G ∨ k = gx := ⟨_, rfl⟩
  have O : Only T w16 ((w17.drew.setCell ⟨G, N, none⟩ (.int .u8 (y : Int))).drew.setCell ⟨gx, N, none⟩ (.int .u8 (y : Int))) := by
    subst hT
    exact ((((o17.mono (fun i (hi : i = g3) => .inl hi)).drew.setCell (p := ⟨G, N, none⟩) (.inl (.inr (.inl rfl))) (.int .u8 (y : Int))).drew).setCell (p := ⟨gx, N, none⟩) (.inl (.inr (.inr rfl))) (.int .u8 (y : Int)))
  have O20 : Only (fun k => k = g3 ∨ k = G) w16 (w17.drew.setCell ⟨G, N, none⟩ (.int .u8 (y : Int))).drew := ((o17.mono (fun i (hi : i = g3) => .inl hi)).drew.setCell (p := ⟨G, N, none⟩) (.inl (.inr rfl)) (.int .u8 (y : Int))).drew
  have far : ∀ {A : Option Addr}, Rds w15 1 A lb.length (byC lb) → (0 < lb.length → Far (Mm.One g3) A) → (0 < lb.length → Far (Mm.One gx) A) → 0 < lb.length → Far T A := by
    intro A hr f3 fx h0 ad e k
    obtain ⟨ad', e', hl, _⟩ := hr.2 h0
    rw [e] at e'; cases e'
    rw [hT] at k
    rcases k with k | k | k
    · exact f3 h0 ad e k
    · omega
    · exact fx h0 ad e k
  refine ⟨?_, ?_, ?_, ?_, ?_, ?_, ?_, ?_, ?_, h.st, h.ap, byts_set h.ya N hy, h.yb⟩
  · rw [hn]
    exact ((n3.drewN 0).far (p := ⟨G, N, none⟩) (fun e => by have e : g3 = G := e; omega) _).far (p := ⟨gx, N, none⟩) (fun e => x3 (show gx = g3 from (show g3 = gx from e).symm)) _
  · exact h16.b4.only O (by rw [hT]; rintro (k | k | k) <;> omega)
  · rw [hn]; exact h16.b8.only O (by rw [hT]; rintro (k | k | k) <;> omega)
  · exact h16.b9.only O (by rw [hT]; rintro (k | k | k) <;> omega)
  · rw [hn]
    have s1 := own_only og o17 (fun i hi k => by
      simp [Value.ownBlock] at hi
      have k : i = g3 := k
      omega)
    have s2 := (own_only s1 (Only.refl No w17).drew (fun _ _ => id)).stored N (.int .u8 (y : Int))
    have s3 := own_only (own_only s2.1 (Only.refl No _).drew (fun _ _ => id)) ((Only.refl (Mm.One gx) _).setCell (p := ⟨gx, N, none⟩) (.inl rfl) (.int .u8 (y : Int))) (fun i hi k => by
      simp [Value.ownBlock] at hi
      have k : i = gx := k
      omega)
    rw [byC_set]
    exact Rds.of_own s3
  · exact h16.rb.only O (far h.rb (fun h0 => (h.st h0).1) (fun h0 => ((h.off gx (by simp [Value.ownBlock])).2 h0).1))
  · exact h16.ry.only O (far h.ry (fun h0 => (h.st h0).2) (fun h0 => ((h.off gx (by simp [Value.ownBlock])).2 h0).2))
  · rw [hn, byC_set]
    exact ((own_only h16.ox O20 (fun i hi k => by
      simp [Value.ownBlock] at hi
      rcases k with k | k <;> omega)).stored N (.int .u8 (y : Int))).1
  · intro i hi
    rw [hn]
    have hi' : i = gx := by simpa [Value.ownBlock] using hi.symm
    subst hi'
    refine ⟨fun _ ad e k => ?_, (h.off i (by simp [Value.ownBlock])).2⟩
    cases e
    have k : G = i := k
    omega
set_option maxHeartbeats 6400000 in
set_option maxRecDepth 100000 in
theorem images4 (w : World) (W H C : Int) (A : Option Addr) (c : Nat) (l : List Nat) (W2 H2 C2 : Int) (A2 : Option Addr) (c2 : Nat) (l2 : List Nat) (pos : Int) (hr : Rds w 1 A l.length (byC l)) (hr2 : Rds w 1 A2 l2.length (byC l2))
    (hl : l.length ≤ 140737488351232) (hl2 : l2.length ≤ 140737488351232) (hb : Byts l) (hb2 : Byts l2) :
    Calls Try.prog 4 #[imgV W H C A l.length c, imgV W2 H2 C2 A2 l2.length c2, .int .i64 pos] w (AwPost w) := by
  have HR := Lib.hid hr
  have HR2 := Lib.hid hr2
  have HB := Lib.hid hb
  have HB2 := Lib.hid hb2
  clear hr hr2 hb hb2
  unfold imgV imgA
  go_enter Try.func4, Try.ntmps4
  go_wp2_with fail
  obtain ⟨b1, b2, o2⟩ := boxes w #[.int .i64 W, .int .i64 H, .int .i64 C, .slice A l.length c] #[.int .i64 W2, .int .i64 H2, .int .i64 C2, .slice A2 l2.length c2]
  generalize hw2 : ((w.alloc (Obj.cells #[.int .i64 W, .int .i64 H, .int .i64 C, .slice A l.length c] 32)).alloc (Obj.cells #[.int .i64 W2, .int .i64 H2, .int .i64 C2, .slice A2 l2.length c2] 32)) = w2 at *
  refine (awake12 w2).mono ?_
  rintro e w3 ⟨rfl, o3⟩
  have B1 := Lib.hid (b1.only o3 id)
  have B2 := Lib.hid (b2.only o3 id)
  have O := Lib.hid (o2.trans o3)
  clear b1 b2 o2 o3 hw2
  obtain ⟨j0, j1, j2, j3⟩ := cells4 B1.out
  go_wp2_with fail
  refine (twin18 w3 W H C A c l (HR.out.no O.out) hl).mono ?_
  clear j0 j1 j2 j3
  rintro e w4 ⟨Ax, cx, rfl, ox, o⟩
  replace B1 := Lib.hid (B1.out.only o id)
  replace B2 := Lib.hid (B2.out.only o id)
  have OX := Lib.hid ox
  have O4 := Lib.hid (O.out.trans o)
  have hs3 := Lib.hid O.out.size
  have h8 : w.heap.size + 1 < w4.heap.size := B2.out.lt
  replace h8 := Lib.hid h8
  clear ox o O
  unfold imgV imgA
  obtain ⟨j0, j1, j2, j3⟩ := cells4 (B2.out.alloc (.cells #[.int .i64 W, .int .i64 H, .int .i64 C, .slice Ax l.length cx] 32))
  have hw5 : ∃ w5, w4.alloc (.cells #[.int .i64 W, .int .i64 H, .int .i64 C, .slice Ax l.length cx] 32) = w5 ∧ Only No w4 w5 ∧ Blk w5 w4.heap.size 32 #[.int .i64 W, .int .i64 H, .int .i64 C, .slice Ax l.length cx] :=
    ⟨_, rfl, (Only.refl No w4).alloc _, Blk.new _ _ _⟩
  replace hw5 := Lib.hid hw5
  go_wp2_with fail
  clear j0 j1 j2 j3
  obtain ⟨w5, e5, o5, b8⟩ := hw5.out
  rw [e5]
  replace B1 := Lib.hid (B1.out.only o5 id)
  have h85 := Lib.hid B1.out.lt
  replace B2 := Lib.hid (B2.out.only o5 id)
  have B8 := Lib.hid b8
  replace OX := Lib.hid (own_only OX.out o5 (fun _ _ => id))
  replace O4 := Lib.hid (O4.out.trans o5)
  generalize w4.heap.size = g8 at *
  clear b8 o5 hw5 e5
  refine (twin18 w5 W2 H2 C2 A2 c2 l2 (HR2.out.no O4.out) hl2).mono ?_
  rintro e w6 ⟨Ay, cy, rfl, oy, o⟩
  replace B1 := Lib.hid (B1.out.only o id)
  replace B2 := Lib.hid (B2.out.only o id)
  replace B8 := Lib.hid (B8.out.only o id)
  have OX6 := Lib.hid (own_only OX.out o (fun _ _ => id))
  have OY := Lib.hid oy
  have O6 := Lib.hid (O4.out.trans o)
  unfold imgV imgA
  have hw7 : ∃ w7, w6.alloc (.cells #[.int .i64 W2, .int .i64 H2, .int .i64 C2, .slice Ay l2.length cy] 32) = w7 ∧ Only No w6 w7 ∧ Blk w7 w6.heap.size 32 #[.int .i64 W2, .int .i64 H2, .int .i64 C2, .slice Ay l2.length cy] :=
    ⟨_, rfl, (Only.refl No w6).alloc _, Blk.new _ _ _⟩
  replace hw7 := Lib.hid hw7
  clear oy o
  go_wp2_with fail
  obtain ⟨w7, e7, o7, b9⟩ := hw7.out
  rw [e7]
  have h9 : g8 < w6.heap.size := B8.out.lt
  have I : Hid (Im4 w3.heap.size w.heap.size (w.heap.size + 1) g8 w6.heap.size W H C W2 H2 C2 l l2 w7 A c A2 c2 Ax cx Ay cy) := by
    refine ⟨B1.out.only o7 id, B2.out.only o7 id, B8.out.only o7 id, b9, HR.out.no (O6.out.trans o7), HR2.out.no (O6.out.trans o7), (Rds.of_own OY.out).no o7, own_only OX6.out o7 (fun _ _ => id), ?_, ?_, ⟨by omega, by have := h8.out; omega, by have := h8.out; omega⟩, HB.out, HB2.out⟩
    · intro i hi
      have h1 := own_ge OX.out i hi
      have h2 := own_lt OX.out i hi
      have h3 := hs3.out
      refine ⟨fun h => Far.of_lt HR.out h (by omega), fun h => ⟨Far.of_lt HR2.out h (by omega), ?_⟩⟩
      intro ad e k
      have h4 := own_ge OY.out ad.block (by rw [e]; rfl)
      have : ad.block = i := k
      omega
    · intro h
      refine ⟨Far.of_lt HR2.out h (by omega), ?_⟩
      intro ad e k
      have h4 := own_ge OY.out ad.block (by rw [e]; rfl)
      have h5 := O4.out.size
      have : ad.block = w.heap.size := k
      have := B1.out.lt
      have := h8.out
      have := h85.out
      omega
  have O7 := Lib.hid (O6.out.trans o7)
  generalize w6.heap.size = g9 at *
  clear B1 B2 B8 OX OX6 OY O4 O6 hw7 o7 b9 e7 HB HB2 HR HR2
  go_loopw [10, 7] (fun iv ov wr => ∃ (i : Nat) (la : List Nat) (Aa : Option Addr) (ca : Nat), i ≤ 2 ∧ iv = .int .i64 i ∧ ov = .bool true ∧ Hid (la.length = l.length) ∧ Hid (Im4 w3.heap.size w.heap.size (w.heap.size + 1) g8 g9 W H C W2 H2 C2 la l2 wr Aa ca A2 c2 Ax cx Ay cy) ∧ Hid (Only No w wr)) (fun iv _ _ => 2 - (intOf iv).toNat)
  case atStart => exact ⟨0, l, A, c, by omega, rfl, rfl, rfl, I, O7⟩
  case round =>
    clear I O7
    obtain ⟨i, la, Aa, ca, hi, rfl, rfl, hla, I, hO⟩ := hrel
    by_cases hlt : i < 2
    · obtain ⟨E, hE⟩ : ∃ E, E = pairE W H C la.length W2 H2 C2 l2.length := ⟨_, rfl⟩
      obtain ⟨X, hX⟩ : ∃ X, X = if E = 0 then apartP la l2 else 0 := ⟨_, rfl⟩
      obtain ⟨K, hK⟩ : ∃ K, K = if E = 0 then pkK la l2 la.length else 0 := ⟨_, rfl⟩
      have hXX : FloatKind.f64.format.order X X = some .eq := by
        rw [hX]
        by_cases h0 : E = 0
        · rw [if_pos h0]
          rw [hE] at h0
          obtain ⟨_, _, _, _, _, hp, hm⟩ := pairE_zero h0
          exact order_refl (fin_not_nan (apart_bits I.out.ya I.out.yb hp hm).2.1)
        · rw [if_neg h0]; decide +kernel
      have hA := Lib.hid (fun (w : World) A1 c1 A2 c2 h1 h2 => show Calls Try.prog 19 #[imgV W H C A1 la.length c1, imgV W2 H2 C2 A2 l2.length c2] w (fun e w' => e = .returned (.tuple #[.float .f64 X, .int .i64 E]) ∧ Only No w w') by
        rw [hX, hE]; exact apart19 w W H C A1 c1 la W2 H2 C2 A2 c2 l2 h1 h2 I.out.ya I.out.yb)
      have hA' := Lib.hid (fun (w : World) A1 c1 A2 c2 h1 h2 => show Calls Try.prog 20 #[imgV W H C A1 la.length c1, imgV W2 H2 C2 A2 l2.length c2] w (fun e w' => e = .returned (.tuple #[.float .f64 X, .int .i64 E]) ∧ Only No w w') by
        rw [hX, hE]; exact rapart20 w W H C A1 c1 la W2 H2 C2 A2 c2 l2 h1 h2 I.out.ya I.out.yb)
      have hP := Lib.hid (fun (w : World) A1 c1 A2 c2 h1 h2 => show Calls Try.prog 21 #[imgV W H C A1 la.length c1, imgV W2 H2 C2 A2 l2.length c2] w (fun e w' => e = .returned (.tuple #[.int .i64 K, .int .i64 E]) ∧ Only No w w') by
        rw [hK, hE]; exact peak21 w W H C A1 c1 la W2 H2 C2 A2 c2 l2 h1 h2 I.out.ya I.out.yb)
      have hP' := Lib.hid (fun (w : World) A1 c1 A2 c2 h1 h2 => show Calls Try.prog 22 #[imgV W H C A1 la.length c1, imgV W2 H2 C2 A2 l2.length c2] w (fun e w' => e = .returned (.tuple #[.int .i64 K, .int .i64 E]) ∧ Only No w w') by
        rw [hK, hE]; exact rpeak22 w W H C A1 c1 la W2 H2 C2 A2 c2 l2 h1 h2 I.out.ya I.out.yb)
      have hL := Lib.hid (fun (w : World) A1 c1 A2 c2 h1 h2 => show Calls Try.prog 23 #[imgV W H C A1 la.length c1, imgV W2 H2 C2 A2 l2.length c2] w (fun e w' => ∃ r, FEq r (if E = 0 then alikeP la l2 W.toNat H.toNat C.toNat else 0) ∧ e = .returned (.tuple #[.float .f64 r, .int .i64 E]) ∧ Only No w w') by
        rw [hE]; exact alike23 w W H C A1 c1 la W2 H2 C2 A2 c2 l2 h1 h2 I.out.ya I.out.yb)
      have hL' := Lib.hid (fun (w : World) A1 c1 A2 c2 h1 h2 => show Calls Try.prog 24 #[imgV W H C A1 la.length c1, imgV W2 H2 C2 A2 l2.length c2] w (fun e w' => ∃ r, FEq r (if E = 0 then alikeP la l2 W.toNat H.toNat C.toNat else 0) ∧ e = .returned (.tuple #[.float .f64 r, .int .i64 E]) ∧ Only No w w') by
        rw [hE]; exact ralike24 w W H C A1 c1 la W2 H2 C2 A2 c2 l2 h1 h2 I.out.ya I.out.yb)
      clear hE hX hK
      obtain ⟨x0, x1, x2, x3⟩ := cells4 I.out.b8
      obtain ⟨y0, y1, y2, y3⟩ := cells4 I.out.b9
      go_wp2_with fail
      clear x0 x1 x2 x3 y0 y1 y2 y3
      refine (hA.out _ Ax cx Ay cy (Rds.of_own I.out.ox) I.out.ry).mono ?_
      rintro e w8 ⟨rfl, o⟩
      replace I := Lib.hid (I.out.no o)
      replace hO := Lib.hid (hO.out.trans o)
      clear o
      obtain ⟨x0, x1, x2, x3⟩ := cells4 I.out.b3
      obtain ⟨y0, y1, y2, y3⟩ := cells4 I.out.b4
      go_wp2_with fail
      clear x0 x1 x2 x3 y0 y1 y2 y3
      refine (hA'.out _ Aa ca A2 c2 I.out.ra I.out.rb).mono ?_
      rintro e w9 ⟨rfl, o⟩
      replace I := Lib.hid (I.out.no o)
      replace hO := Lib.hid (hO.out.trans o)
      clear o
      obtain ⟨x0, x1, x2, x3⟩ := cells4 I.out.b8
      obtain ⟨y0, y1, y2, y3⟩ := cells4 I.out.b9
      go_wp2_with fail
      clear x0 x1 x2 x3 y0 y1 y2 y3
      refine (hP.out _ Ax cx Ay cy (Rds.of_own I.out.ox) I.out.ry).mono ?_
      rintro e w10 ⟨rfl, o⟩
      replace I := Lib.hid (I.out.no o)
      replace hO := Lib.hid (hO.out.trans o)
      clear o
      obtain ⟨x0, x1, x2, x3⟩ := cells4 I.out.b3
      obtain ⟨y0, y1, y2, y3⟩ := cells4 I.out.b4
      go_wp2_with fail
      clear x0 x1 x2 x3 y0 y1 y2 y3
      refine (hP'.out _ Aa ca A2 c2 I.out.ra I.out.rb).mono ?_
      rintro e w11 ⟨rfl, o⟩
      replace I := Lib.hid (I.out.no o)
      replace hO := Lib.hid (hO.out.trans o)
      clear o
      obtain ⟨x0, x1, x2, x3⟩ := cells4 I.out.b8
      obtain ⟨y0, y1, y2, y3⟩ := cells4 I.out.b9
      go_wp2_with fail
      clear x0 x1 x2 x3 y0 y1 y2 y3
      refine (hL.out _ Ax cx Ay cy (Rds.of_own I.out.ox) I.out.ry).mono ?_
      rintro e w12 ⟨r1, hr1, rfl, o⟩
      replace I := Lib.hid (I.out.no o)
      replace hO := Lib.hid (hO.out.trans o)
      clear o
      obtain ⟨x0, x1, x2, x3⟩ := cells4 I.out.b3
      obtain ⟨y0, y1, y2, y3⟩ := cells4 I.out.b4
      go_wp2_with fail
      clear x0 x1 x2 x3 y0 y1 y2 y3
      refine (hL'.out _ Aa ca A2 c2 I.out.ra I.out.rb).mono ?_
      rintro e w13 ⟨r2, hr2, rfl, o⟩
      replace I := Lib.hid (I.out.no o)
      replace hO := Lib.hid (hO.out.trans o)
      clear o
      have hr := Lib.hid (hr1.trans hr2.symm)
      clear hr1 hr2 hA hA' hP hP' hL hL'
      have eX : ∀ z : Int, (z == z) = true := fun z => beq_self_eq_true z
      obtain ⟨x0, x1, x2, x3⟩ := cells4 I.out.b8
      obtain ⟨y0, y1, y2, y3⟩ := cells4 I.out.b3
      obtain ⟨z0, z1, z2, z3⟩ := cells4 I.out.b9
      obtain ⟨u0, u1, u2, u3⟩ := cells4 I.out.b4
      go_wp2_with fail
      refine (alike17 _ hr.out).mono ?_
      rintro e w14 ⟨rfl, rfl⟩
      go_wp2_with fail
      clear x0 x1 x2 x3 y0 y1 y2 y3 z0 z1 z2 z3 u0 u1 u2 u3
      have hlb : la.length ≤ 140737488351232 := by have := hla.out; omega
      refine (same25 _ Ax cx la Aa ca la (Rds.of_own I.out.ox) I.out.ra (by omega) I.out.ya I.out.ya).mono ?_
      rintro e w14 ⟨rfl, d, rfl⟩
      replace I := Lib.hid (I.out.no ((Only.refl No w13).drewN d))
      replace hO := Lib.hid (hO.out.drewN d)
      generalize w13.drewN d = w14 at *
      rw [decide_eq_true (rfl : la = la)]
      obtain ⟨x0, x1, x2, x3⟩ := cells4 I.out.b9
      obtain ⟨y0, y1, y2, y3⟩ := cells4 I.out.b4
      go_wp2_with fail
      clear x0 x1 x2 x3 y0 y1 y2 y3
      refine (same25 _ Ay cy l2 A2 c2 l2 I.out.ry I.out.rb hl2 I.out.yb I.out.yb).mono ?_
      rintro e w15 ⟨rfl, d, rfl⟩
      replace I := Lib.hid (I.out.no ((Only.refl No w14).drewN d))
      replace hO := Lib.hid (hO.out.drewN d)
      generalize w14.drewN d = w15 at *
      rw [decide_eq_true (rfl : l2 = l2)]
      by_cases h0 : la.length = 0
      · obtain ⟨x0, x1, x2, x3⟩ := cells4 I.out.b3
        have k0 : decide ((la.length : Int) > 0) = false := decide_eq_false (by omega)
        have k1 : ¬ (0 : Int) < (la.length : Int) := by omega
        go_wp2_with fail
        go_roundw
        case rel => exact ⟨i + 1, la, Aa, ca, by omega, by go_num, rfl, hla, I, hO⟩
        case measure => simp [intOf]; omega
      · have k1 : (0 : Int) < (la.length : Int) := by omega
        have k2 : ¬ (la.length : Int) = 0 := by omega
        have hb1 := tmod_bounds pos k1
        have hb2 := roundP_bounds pos k1
        obtain ⟨N, hN⟩ : ∃ N : Nat, roundP pos la.length = N := ⟨(roundP pos la.length).toNat, by omega⟩
        have hNl : N < la.length := by omega
        unfold roundP at hN
        have hcase : (pos.tmod la.length < 0 ∧ pos.tmod la.length + la.length = N) ∨ (¬ pos.tmod la.length < 0 ∧ pos.tmod la.length = N) := by
          by_cases hneg : pos.tmod la.length < 0
          · rw [if_pos hneg] at hN
            exact .inl ⟨hneg, hN⟩
          · rw [if_neg hneg] at hN
            exact .inr ⟨hneg, hN⟩
        clear hN hb2
        obtain ⟨x0, x1, x2, x3⟩ := cells4 I.out.b3
        rcases hcase with ⟨hneg, hw2⟩ | ⟨hneg, hw2⟩
        · have hd : decide (pos.tmod la.length < 0) = true := decide_eq_true hneg
          go_wp2_with fail
          clear x0 x1 x2 x3
          refine (twin18 w15 W H C Aa ca la I.out.ra hlb).mono ?_
          rintro e w16 ⟨Ag, cg, rfl, og, o⟩
          obtain ⟨gx, rfl⟩ : ∃ G, Ax = some ⟨G, 0, none⟩ := by
            rcases I.out.ox.2 with ⟨_, h0⟩ | ⟨G, cap, cur, e, _⟩
            · omega
            · injection e with e1 e2 e3
              exact ⟨G, e1⟩
          obtain ⟨G, rfl, hcap⟩ : ∃ G, Ag = some ⟨G, 0, none⟩ ∧ la.length ≤ cg := by
            rcases og.2 with ⟨_, h0⟩ | ⟨G, cap, cur, e, _, _, hc, _⟩
            · omega
            · injection e with e1 e2 e3
              subst e1 e3
              exact ⟨G, rfl, hc⟩
          have hG := og.lt G (by simp [Value.ownBlock])
          have HG := Lib.hid hG
          have OG := Lib.hid og
          have hlow : w.heap.size < w15.heap.size := I.out.b3.lt
          have oT := Lib.hid o
          have OT := Lib.hid og
          have I6 := Lib.hid (I.out.no o)
          replace hO := Lib.hid (hO.out.trans o)
          clear og o hG
          unfold imgV imgA
          obtain ⟨x0, x1, x2, x3⟩ := cells4 I6.out.b3
          have f0 := I6.out.b3.frozen 0
          have f1 := I6.out.b3.frozen 1
          have f2 := I6.out.b3.frozen 2
          have f3 := I6.out.b3.frozen 3
          have hst : ∃ w17, ((((w16.setCell ⟨w.heap.size, 0, none⟩ (.int .i64 W)).setCell ⟨w.heap.size, 1, none⟩ (.int .i64 H)).setCell ⟨w.heap.size, 2, none⟩ (.int .i64 C)).setCell ⟨w.heap.size, 3, none⟩ (.slice (some ⟨G, 0, none⟩) la.length cg)) = w17 ∧ Only (One w.heap.size) w16 w17 ∧ Blk w17 w.heap.size 32 (imgA W H C (some ⟨G, 0, none⟩) la.length cg) :=
            ⟨_, rfl, ((((Only.refl (One w.heap.size) w16).setCell (p := ⟨w.heap.size, 0, none⟩) (.inl rfl) (.int .i64 W)).setCell (p := ⟨w.heap.size, 1, none⟩) (.inl rfl) (.int .i64 H)).setCell (p := ⟨w.heap.size, 2, none⟩) (.inl rfl) (.int .i64 C)).setCell (p := ⟨w.heap.size, 3, none⟩) (.inl rfl) (.slice (some ⟨G, 0, none⟩) la.length cg), (((I6.out.b3.set 0 (.int .i64 W)).set 1 (.int .i64 H)).set 2 (.int .i64 C)).set 3 (.slice (some ⟨G, 0, none⟩) la.length cg)⟩
          replace hst := Lib.hid hst
          go_wp2_with fail
          obtain ⟨w17, e17, o17, n3⟩ := hst.out
          rw [e17]
          have hNe : ¬ One w.heap.size G := fun h => by
            have h : G = w.heap.size := h
            have := HG.out.1
            omega
          have OG17 := own_only OG.out o17 (fun i hi h => hNe (by simp [Value.ownBlock] at hi; rw [hi]; exact h))
          have q1 := OG17.cells rfl N _ (byC_get hNl)
          rw [Mm.add_plain] at q1
          have q2 := OG17.frozenAt N
          have nb := I.out.ya.at_ N
          generalize hxx : la.getD N 0 = x at *
          obtain ⟨y, hy, ey⟩ : ∃ y : Nat, y ≤ 255 ∧ ((x : Int) + 77) % 256 = (y : Int) := ⟨((x : Int) + 77).toNat % 256, by omega, by omega⟩
          replace OG17 := Lib.hid OG17
          have o17 := Lib.hid o17
          have hcg : (la.length : Int) ≤ (cg : Int) := by omega
          have hN1 : (N : Int) < (la.length : Int) := by omega
          obtain ⟨x0, x1, x2, x3⟩ := cells4 n3
          replace n3 := Lib.hid n3
          clear hst e17 hxx f0 f1 f2 f3
          clear OG
          go_still_tail 10, (by kernel_rfl)
          change wpList _ _ _ _ _ w17.drew
          have HO := Lib.hid (own_only OG17.out (Only.refl No w17).drew (fun _ _ => id))
          have o18 : Hid (Only (Mm.One w.heap.size) w16 w17.drew) := Lib.hid o17.out.drew
          have m3 : Hid (Blk w17.drew w.heap.size 32 (imgA W H C (some ⟨G, 0, none⟩) la.length cg)) := n3.out
          replace q2 : w17.drew.frozen? ⟨G, N, none⟩ = false := q2
          replace q1 : w17.drew.cell? ⟨G, N, none⟩ = _ := q1
          have hst : Hid (∀ w21, ((w17.drew.setCell ⟨G, N, none⟩ (.int .u8 (y : Int))).drew.setCell ⟨gx, N, none⟩ (.int .u8 (y : Int))) = w21 → Im4 w3.heap.size w.heap.size (w.heap.size + 1) g8 g9 W H C W2 H2 C2 (la.set N y) l2 w21 (some ⟨G, 0, none⟩) cg A2 c2 (some ⟨gx, 0, none⟩) cx Ay cy ∧ Only No w w21) := Lib.hid (fun w21 e => by
            subst e
            refine ⟨I.out.turn oT.out OT.out o17.out n3.out N y hy, hO.out.then (((o17.out.mono (T := fun k => k = w.heap.size ∨ k = G ∨ k = gx) (fun i (hi : i = w.heap.size) => .inl hi)).drew.setCell (p := ⟨G, N, none⟩) (.inl (.inr (.inl rfl))) (.int .u8 (y : Int))).drew.setCell (p := ⟨gx, N, none⟩) (.inl (.inr (.inr rfl))) (.int .u8 (y : Int))) (fun i h => .inr ?_)⟩
            have h1 := own_ge I.out.ox gx (by simp [Value.ownBlock])
            have h2 := HG.out.1
            have h3 := hs3.out
            rcases h with h | h | h <;> omega)
          clear x0 x1 x2 x3 OG17
          generalize w17.drew = w18 at *
          have A3 := m3.out.far (p := ⟨G, N, none⟩) (fun e => hNe (show G = w.heap.size from e.symm)) (.int .u8 (y : Int))
          have A8 := (I6.out.b8.only o18.out (fun e => I.out.ap.2.1 (show g8 = w.heap.size from e).symm)).far (p := ⟨G, N, none⟩) (fun e => by
            have e : g8 = G := e
            have := I.out.b8.lt
            have := HG.out.1
            omega) (.int .u8 (y : Int))
          have sG := (HO.out.stored N (.int .u8 (y : Int))).1
          have sx := own_only (own_only I6.out.ox o18.out (fun i hi k => own_blk I6.out.ox I6.out.b3 (by decide) (by rw [hi, show i = w.heap.size from k]))) ((Only.refl (Mm.One G) w18).setCell (p := ⟨G, N, none⟩) (.inl rfl) (.int .u8 (y : Int))) (fun i hi k => by
            have h1 := own_lt I.out.ox i hi
            have k : i = G := k
            have := HG.out.1
            omega)
          have q4 := sG.cells rfl N (.int .u8 (y : Int)) (by rw [List.getElem?_set_self (by rw [byC_length]; exact hNl)])
          have q5 := sx.cells rfl N _ (byC_get hNl)
          have q6 := sx.frozenAt N
          rw [Mm.add_plain] at q4 q5
          have hw19 : ∃ w19, w18.setCell ⟨G, N, none⟩ (.int .u8 (y : Int)) = w19 := ⟨_, rfl⟩
          obtain ⟨w19, e19⟩ := hw19
          rw [e19] at A3 A8 q4 q5 q6
          have e19' := Lib.hid e19
          obtain ⟨x0, x1, x2, x3⟩ := cells4 A3
          obtain ⟨y0, y1, y2, y3⟩ := cells4 A8
          clear A3 A8 sG sx e19
          go_wp2_with fail
          rw [e19'.out]
          clear q1 q2
          go_still_tail 9, (by kernel_rfl)
          change wpList _ _ _ _ _ w19.drew
          rw [e19'.out] at hst
          replace q5 : w19.drew.cell? ⟨gx, N, none⟩ = _ := q5
          replace q6 : w19.drew.frozen? ⟨gx, N, none⟩ = _ := q6
          clear x0 x1 x2 x3 y0 y1 y2 y3 q4 e19'
          generalize w19.drew = w20 at *
          go_wp2_with fail
          obtain ⟨I', hO'⟩ := hst.out _ rfl
          replace I' := Lib.hid I'
          replace hO' := Lib.hid hO'
          go_roundw
          case rel => exact ⟨i + 1, la.set N y, some ⟨G, 0, none⟩, cg, by omega, by go_num, rfl, Lib.hid (by rw [List.length_set]; exact hla.out), I', hO'⟩
          case measure => simp [intOf]; omega
        · have hd : decide ((N : Int) < 0) = false := decide_eq_false (by omega)
          clear hneg
          go_wp2_with fail
          clear x0 x1 x2 x3
          refine (twin18 w15 W H C Aa ca la I.out.ra hlb).mono ?_
          rintro e w16 ⟨Ag, cg, rfl, og, o⟩
          obtain ⟨gx, rfl⟩ : ∃ G, Ax = some ⟨G, 0, none⟩ := by
            rcases I.out.ox.2 with ⟨_, h0⟩ | ⟨G, cap, cur, e, _⟩
            · omega
            · injection e with e1 e2 e3
              exact ⟨G, e1⟩
          obtain ⟨G, rfl, hcap⟩ : ∃ G, Ag = some ⟨G, 0, none⟩ ∧ la.length ≤ cg := by
            rcases og.2 with ⟨_, h0⟩ | ⟨G, cap, cur, e, _, _, hc, _⟩
            · omega
            · injection e with e1 e2 e3
              subst e1 e3
              exact ⟨G, rfl, hc⟩
          have hG := og.lt G (by simp [Value.ownBlock])
          have HG := Lib.hid hG
          have OG := Lib.hid og
          have hlow : w.heap.size < w15.heap.size := I.out.b3.lt
          have oT := Lib.hid o
          have OT := Lib.hid og
          have I6 := Lib.hid (I.out.no o)
          replace hO := Lib.hid (hO.out.trans o)
          clear og o hG
          unfold imgV imgA
          obtain ⟨x0, x1, x2, x3⟩ := cells4 I6.out.b3
          have f0 := I6.out.b3.frozen 0
          have f1 := I6.out.b3.frozen 1
          have f2 := I6.out.b3.frozen 2
          have f3 := I6.out.b3.frozen 3
          have hst : ∃ w17, ((((w16.setCell ⟨w.heap.size, 0, none⟩ (.int .i64 W)).setCell ⟨w.heap.size, 1, none⟩ (.int .i64 H)).setCell ⟨w.heap.size, 2, none⟩ (.int .i64 C)).setCell ⟨w.heap.size, 3, none⟩ (.slice (some ⟨G, 0, none⟩) la.length cg)) = w17 ∧ Only (One w.heap.size) w16 w17 ∧ Blk w17 w.heap.size 32 (imgA W H C (some ⟨G, 0, none⟩) la.length cg) :=
            ⟨_, rfl, ((((Only.refl (One w.heap.size) w16).setCell (p := ⟨w.heap.size, 0, none⟩) (.inl rfl) (.int .i64 W)).setCell (p := ⟨w.heap.size, 1, none⟩) (.inl rfl) (.int .i64 H)).setCell (p := ⟨w.heap.size, 2, none⟩) (.inl rfl) (.int .i64 C)).setCell (p := ⟨w.heap.size, 3, none⟩) (.inl rfl) (.slice (some ⟨G, 0, none⟩) la.length cg), (((I6.out.b3.set 0 (.int .i64 W)).set 1 (.int .i64 H)).set 2 (.int .i64 C)).set 3 (.slice (some ⟨G, 0, none⟩) la.length cg)⟩
          replace hst := Lib.hid hst
          go_wp2_with fail
          obtain ⟨w17, e17, o17, n3⟩ := hst.out
          rw [e17]
          have hNe : ¬ One w.heap.size G := fun h => by
            have h : G = w.heap.size := h
            have := HG.out.1
            omega
          have OG17 := own_only OG.out o17 (fun i hi h => hNe (by simp [Value.ownBlock] at hi; rw [hi]; exact h))
          have q1 := OG17.cells rfl N _ (byC_get hNl)
          rw [Mm.add_plain] at q1
          have q2 := OG17.frozenAt N
          have nb := I.out.ya.at_ N
          generalize hxx : la.getD N 0 = x at *
          obtain ⟨y, hy, ey⟩ : ∃ y : Nat, y ≤ 255 ∧ ((x : Int) + 77) % 256 = (y : Int) := ⟨((x : Int) + 77).toNat % 256, by omega, by omega⟩
          replace OG17 := Lib.hid OG17
          have o17 := Lib.hid o17
          have hcg : (la.length : Int) ≤ (cg : Int) := by omega
          have hN1 : (N : Int) < (la.length : Int) := by omega
          obtain ⟨x0, x1, x2, x3⟩ := cells4 n3
          replace n3 := Lib.hid n3
          clear hst e17 hxx f0 f1 f2 f3
          clear OG
          go_still_tail 10, (by kernel_rfl)
          change wpList _ _ _ _ _ w17.drew
          have HO := Lib.hid (own_only OG17.out (Only.refl No w17).drew (fun _ _ => id))
          have o18 : Hid (Only (Mm.One w.heap.size) w16 w17.drew) := Lib.hid o17.out.drew
          have m3 : Hid (Blk w17.drew w.heap.size 32 (imgA W H C (some ⟨G, 0, none⟩) la.length cg)) := n3.out
          replace q2 : w17.drew.frozen? ⟨G, N, none⟩ = false := q2
          replace q1 : w17.drew.cell? ⟨G, N, none⟩ = _ := q1
          have hst : Hid (∀ w21, ((w17.drew.setCell ⟨G, N, none⟩ (.int .u8 (y : Int))).drew.setCell ⟨gx, N, none⟩ (.int .u8 (y : Int))) = w21 → Im4 w3.heap.size w.heap.size (w.heap.size + 1) g8 g9 W H C W2 H2 C2 (la.set N y) l2 w21 (some ⟨G, 0, none⟩) cg A2 c2 (some ⟨gx, 0, none⟩) cx Ay cy ∧ Only No w w21) := Lib.hid (fun w21 e => by
            subst e
            refine ⟨I.out.turn oT.out OT.out o17.out n3.out N y hy, hO.out.then (((o17.out.mono (T := fun k => k = w.heap.size ∨ k = G ∨ k = gx) (fun i (hi : i = w.heap.size) => .inl hi)).drew.setCell (p := ⟨G, N, none⟩) (.inl (.inr (.inl rfl))) (.int .u8 (y : Int))).drew.setCell (p := ⟨gx, N, none⟩) (.inl (.inr (.inr rfl))) (.int .u8 (y : Int))) (fun i h => .inr ?_)⟩
            have h1 := own_ge I.out.ox gx (by simp [Value.ownBlock])
            have h2 := HG.out.1
            have h3 := hs3.out
            rcases h with h | h | h <;> omega)
          clear x0 x1 x2 x3 OG17
          generalize w17.drew = w18 at *
          have A3 := m3.out.far (p := ⟨G, N, none⟩) (fun e => hNe (show G = w.heap.size from e.symm)) (.int .u8 (y : Int))
          have A8 := (I6.out.b8.only o18.out (fun e => I.out.ap.2.1 (show g8 = w.heap.size from e).symm)).far (p := ⟨G, N, none⟩) (fun e => by
            have e : g8 = G := e
            have := I.out.b8.lt
            have := HG.out.1
            omega) (.int .u8 (y : Int))
          have sG := (HO.out.stored N (.int .u8 (y : Int))).1
          have sx := own_only (own_only I6.out.ox o18.out (fun i hi k => own_blk I6.out.ox I6.out.b3 (by decide) (by rw [hi, show i = w.heap.size from k]))) ((Only.refl (Mm.One G) w18).setCell (p := ⟨G, N, none⟩) (.inl rfl) (.int .u8 (y : Int))) (fun i hi k => by
            have h1 := own_lt I.out.ox i hi
            have k : i = G := k
            have := HG.out.1
            omega)
          have q4 := sG.cells rfl N (.int .u8 (y : Int)) (by rw [List.getElem?_set_self (by rw [byC_length]; exact hNl)])
          have q5 := sx.cells rfl N _ (byC_get hNl)
          have q6 := sx.frozenAt N
          rw [Mm.add_plain] at q4 q5
          have hw19 : ∃ w19, w18.setCell ⟨G, N, none⟩ (.int .u8 (y : Int)) = w19 := ⟨_, rfl⟩
          obtain ⟨w19, e19⟩ := hw19
          rw [e19] at A3 A8 q4 q5 q6
          have e19' := Lib.hid e19
          obtain ⟨x0, x1, x2, x3⟩ := cells4 A3
          obtain ⟨y0, y1, y2, y3⟩ := cells4 A8
          clear A3 A8 sG sx e19
          go_wp2_with fail
          rw [e19'.out]
          clear q1 q2
          go_still_tail 9, (by kernel_rfl)
          change wpList _ _ _ _ _ w19.drew
          rw [e19'.out] at hst
          replace q5 : w19.drew.cell? ⟨gx, N, none⟩ = _ := q5
          replace q6 : w19.drew.frozen? ⟨gx, N, none⟩ = _ := q6
          clear x0 x1 x2 x3 y0 y1 y2 y3 q4 e19'
          generalize w19.drew = w20 at *
          go_wp2_with fail
          obtain ⟨I', hO'⟩ := hst.out _ rfl
          replace I' := Lib.hid I'
          replace hO' := Lib.hid hO'
          go_roundw
          case rel => exact ⟨i + 1, la.set N y, some ⟨G, 0, none⟩, cg, by omega, by go_num, rfl, Lib.hid (by rw [List.length_set]; exact hla.out), I', hO'⟩
          case measure => simp [intOf]; omega
    · obtain rfl : i = 2 := by omega
      go_wp2_with fail
      go_ret
      exact ⟨rfl, hO.out⟩
end Go.Proofs.Ytfaciljklligeaa.Ct
