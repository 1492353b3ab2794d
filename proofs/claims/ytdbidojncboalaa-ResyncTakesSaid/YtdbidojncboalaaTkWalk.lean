/- ResyncTakes' walk. -/
import Derived.Test.YtdbidojncboalaaPlWalk
import Derived.Test.YtdbidojncboalaaSplit
namespace Go.Proofs.Ytdbidojncboalaa.Ct
open Go.ChangeShapes Go.WideShapes Go.RowKit Mm Rs

/-- two trackers and two of the reference's, all of them apart -/
structure TP (w0 w : World) (ga gb gp gq : Nat) (F1 F2 : Nat → Prop) (t1 t2 : Tr) (l1 l2 : List Slot) (s1 s2 : List Int) (n : Int) (i1 i2 : Nat) : Prop where
  a : Blk w ga 52 (trC t1)
  b : Blk w gb 52 (trC t2)
  p : RT w F1 gp t1 l1 s1
  q : RT w F2 gq t2 l2 s2
  ok1 : Ok t1
  ok2 : Ok t2
  n1 : t1.next = l1.length
  n2 : t2.next = l2.length
  N1 : t1.N = n
  N2 : t2.N = n
  k1 : t1.taken ≤ i1
  k2 : t2.taken ≤ i2
  h1 : (s1.length : Int) ≤ t1.taken
  h2 : (s2.length : Int) ≤ t2.taken
  ab : ga ≠ gb
  f1a : ¬ F1 ga
  f1b : ¬ F1 gb
  f2a : ¬ F2 ga
  f2b : ¬ F2 gb
  dis : ∀ k, F1 k → ¬ F2 k
  lt1 : ∀ k, F1 k → k < w.heap.size
  lt2 : ∀ k, F2 k → k < w.heap.size
  ba : w0.heap.size ≤ ga
  bb : w0.heap.size ≤ gb
  b1 : ∀ k, F1 k → w0.heap.size ≤ k
  b2 : ∀ k, F2 k → w0.heap.size ≤ k
  only : Only No w0 w

section
variable {w0 w : World} {ga gb gp gq : Nat} {F1 F2 : Nat → Prop} {t1 t2 : Tr} {l1 l2 : List Slot} {s1 s2 : List Int} {n : Int} {i1 i2 : Nat}
theorem TP.swap (h : TP w0 w ga gb gp gq F1 F2 t1 t2 l1 l2 s1 s2 n i1 i2) : TP w0 w gb ga gq gp F2 F1 t2 t1 l2 l1 s2 s1 n i2 i1 :=
  ⟨h.b, h.a, h.q, h.p, h.ok2, h.ok1, h.n2, h.n1, h.N2, h.N1, h.k2, h.k1, h.h2, h.h1, fun e => h.ab e.symm, h.f2b, h.f2a, h.f1b, h.f1a, fun k hk hk' => h.dis k hk' hk, h.lt2, h.lt1, h.bb, h.ba, h.b2, h.b1, h.only⟩
theorem TP.up (h : TP w0 w ga gb gp gq F1 F2 t1 t2 l1 l2 s1 s2 n i1 i2) {j1 j2 : Nat} (e1 : i1 ≤ j1) (e2 : i2 ≤ j2) : TP w0 w ga gb gp gq F1 F2 t1 t2 l1 l2 s1 s2 n j1 j2 :=
  { h with k1 := Int.le_trans h.k1 (by omega), k2 := Int.le_trans h.k2 (by omega) }
/-- what is written to lies behind -/
theorem TP.far (h : TP w0 w ga gb gp gq F1 F2 t1 t2 l1 l2 s1 s2 n i1 i2) {S : Nat → Prop} {w' : World} (k : Only S w w') (ha : ¬ S ga) (hb : ¬ S gb) (h1 : ∀ i, F1 i → ¬ S i) (h2 : ∀ i, F2 i → ¬ S i) (h0 : ∀ i, S i → w0.heap.size ≤ i) : TP w0 w' ga gb gp gq F1 F2 t1 t2 l1 l2 s1 s2 n i1 i2 :=
  { h with
    a := h.a.only k ha
    b := h.b.only k hb
    p := h.p.only k h1
    q := h.q.only k h2
    lt1 := fun i hi => Nat.lt_of_lt_of_le (h.lt1 i hi) k.size
    lt2 := fun i hi => Nat.lt_of_lt_of_le (h.lt2 i hi) k.size
    only := h.only.then k fun i hi => .inr (h0 i hi) }
theorem TP.no (h : TP w0 w ga gb gp gq F1 F2 t1 t2 l1 l2 s1 s2 n i1 i2) {w' : World} (k : Only No w w') : TP w0 w' ga gb gp gq F1 F2 t1 t2 l1 l2 s1 s2 n i1 i2 :=
  h.far k id id (fun _ _ => id) (fun _ _ => id) fun _ h => h.elim
/-- a piece is taken by both of the first two -/
theorem TP.takes (h : TP w0 w ga gb gp gq F1 F2 t1 t2 l1 l2 s1 s2 n i1 i2) {w1 w2 : World} {r : Int} (ha : Blk w1 ga 52 (trC (take t1 r).2)) (o1 : Only (One ga) w w1)
    (hp : RT w2 (Fw F1 w1 w2) gp (take t1 r).2 (l1 ++ (take t1 r).1) (sf t1 r s1)) (o2 : Only F1 w1 w2) : TP w0 w2 ga gb gp gq (Fw F1 w1 w2) F2 (take t1 r).2 t2 (l1 ++ (take t1 r).1) l2 (sf t1 r s1) s2 n (i1 + 1) i2 := by
  have hl := Rs.take_len h.ok1 r
  have htk := take_taken t1 r
  have z1 := o1.size
  have z2 := o2.size
  have z0 := h.only.size
  have la := h.a.lt
  have lb := h.b.lt
  have tt : t1.taken ≤ (take t1 r).2.taken := by rw [htk]; split <;> omega
  exact
    { a := ha.only o2 h.f1a
      b := (h.b.only o1 (fun e => h.ab e.symm)).only o2 h.f1b
      p := hp
      q := (h.q.only o1 (fun i hi e => h.f2a (e ▸ hi))).only o2 (fun i hi hi' => h.dis i hi' hi)
      ok1 := take_ok h.ok1 r
      ok2 := h.ok2
      n1 := by rw [List.length_append]; have := h.n1; omega
      n2 := h.n2
      N1 := (take_N t1 r).trans h.N1
      N2 := h.N2
      k1 := by have := h.k1; rw [htk]; split <;> omega
      k2 := h.k2
      h1 := by
        have := h.h1
        unfold sf
        split
        · rename_i hc
          have : (take t1 r).2.taken = t1.taken + 1 := by
            rw [htk, if_neg]
            intro hd
            rw [Rs.take_done hd] at hc
            simp [hd] at hc
          simp; omega
        · omega
      h2 := h.h2
      ab := h.ab
      f1a := fun e => e.elim h.f1a (fun e => by omega)
      f1b := fun e => e.elim h.f1b (fun e => by omega)
      f2a := h.f2a
      f2b := h.f2b
      dis := fun k hk hk' => hk.elim (fun e => h.dis k e hk') (fun e => by have := h.lt2 k hk'; omega)
      lt1 := fun k hk => hk.elim (fun e => by have := h.lt1 k e; omega) (fun e => e.2)
      lt2 := fun k hk => by have := h.lt2 k hk; omega
      ba := h.ba
      bb := h.bb
      b1 := fun k hk => hk.elim (fun e => h.b1 k e) (fun e => by omega)
      b2 := h.b2
      only := (h.only.then o1 (fun i hi => .inr (by rw [show i = ga from hi]; exact h.ba))).then o2 (fun i hi => .inr (h.b1 i hi)) }
end
set_option maxRecDepth 100000 in
set_option maxHeartbeats 6400000 in
theorem takeslaw_any (A B : Option Addr) (m1 m2 c d : Nat) (ps qs : List Piece) (n : Int) (w : World) (hr : Rds w 4 A m1 (pcC ps)) (hl : ps.length = m1) (hm : m1 * 32 ≤ 140737488351232) (hR : ∀ p ∈ ps, -128 ≤ p.r ∧ p.r ≤ 127)
    (hr2 : Rds w 4 B m2 (pcC qs)) (hl2 : qs.length = m2) (hm2 : m2 * 32 ≤ 140737488351232) (hR2 : ∀ p ∈ qs, -128 ≤ p.r ∧ p.r ≤ 127) :
    Calls Try.prog 3 #[.slice A m1 c, .slice B m2 d, .int .i64 n] w (fun e w' => e = .returned (.bool true) ∧ Below w.heap.size w w') := by
  obtain ⟨i0, hi0, hz0, hz1, hz2⟩ := info_parts info48
  have HR := Lib.hid hr
  have HL := Lib.hid hl
  have HQ := Lib.hid hR
  have HR2 := Lib.hid hr2
  have HL2 := Lib.hid hl2
  have HQ2 := Lib.hid hR2
  clear hr hl hR hr2 hl2 hR2
  by_cases hbig : 100000 < n ∧ n ≤ 1048576
  · have hd : decide (100000 < n ∧ n ≤ 1048576) = true := decide_eq_true hbig
    replace hbig := Lib.hid hbig
    go_enter Try.func3, Try.ntmps3
    go_wp2_with fail
    refine (large_any n w).mono ?_
    rintro e w1 ⟨rfl, rfl⟩
    rw [hd]
    go_wp2
    go_ret
    exact ⟨rfl, Below.refl _ _⟩
  · have hd : decide (100000 < n ∧ n ≤ 1048576) = false := decide_eq_false hbig
    by_cases hout : n < 0 ∨ 1048576 < n
    · replace hbig := Lib.hid hbig
      replace hout := Lib.hid hout
      go_enter Try.func3, Try.ntmps3
      go_wp2_with fail
      refine (large_any n w).mono ?_
      rintro e w1 ⟨rfl, rfl⟩
      rw [hd]
      go_wp2_with (first | (go_at_call 11; refine (new_no n _ hout.out).mono ?_; rintro e w1 ⟨rfl, rfl⟩) | (go_at_call 12; refine (rnew_no n _ hout.out).mono ?_; rintro e w1 ⟨rfl, rfl⟩))
      go_ret
      exact ⟨rfl, Below.refl _ _⟩
    · have hn0 : 0 ≤ n := by omega
      have hn1 : n ≤ 100000 := by omega
      have hn2 : n ≤ 1048576 := by omega
      clear hbig hout
      go_enter Try.func3, Try.ntmps3
      go_wp2_with fail
      refine (large_any n w).mono ?_
      rintro e w1 ⟨rfl, rfl⟩
      rw [hd]
      go_wp2_with fail
      refine (new_yes n w hn0 hn2).mono ?_
      rintro e w1 ⟨rfl, rfl⟩
      go_wp2_with fail
      refine (new_yes n _ hn0 hn2).mono ?_
      rintro e w2 ⟨rfl, hw2⟩
      obtain ⟨gb, hgb⟩ : ∃ gb, gb = (w.alloc (.cells (trC (new n)) 52)).heap.size := ⟨_, rfl⟩
      rw [← hgb]
      have gb1 : gb = w.heap.size + 1 := by rw [hgb]; simp
      have ba := Lib.hid (show Blk w2 w.heap.size 52 (trC (new n)) from by rw [← hw2]; exact (Blk.new _ _ _).alloc _)
      have bb := Lib.hid (show Blk w2 gb 52 (trC (new n)) from by rw [← hw2, hgb]; exact Blk.new _ _ _)
      have o2 := Lib.hid (show Only No w w2 from by rw [← hw2]; exact ((Only.refl _ _).alloc _).alloc _)
      have z2 : w2.heap.size = w.heap.size + 2 := by rw [← hw2]; simp
      replace gb1 := Lib.hid gb1
      replace z2 := Lib.hid z2
      clear hw2 hgb
      go_wp2_with fail
      refine (rnew_yes n w2 hn0 hn2).mono ?_
      rintro e w3 ⟨rfl, hp, o3, z3⟩
      replace hp := Lib.hid hp
      replace o3 := Lib.hid o3
      replace z3 := Lib.hid z3
      go_wp2_with fail
      refine (rnew_yes n w3 hn0 hn2).mono ?_
      rintro e w4 ⟨rfl, hq, o4, z4⟩
      have hTP : Hid (TP w w4 w.heap.size gb w2.heap.size w3.heap.size (fun k => k = w2.heap.size) (fun k => k = w3.heap.size) (new n) (new n) [] [] [] [] n 0 0) := Lib.hid (by
        have e1 := gb1.out
        have e2 := z2.out
        have e3 := z3.out
        exact
        { a := (ba.out.only o3.out id).only o4 id
          b := (bb.out.only o3.out id).only o4 id
          p := hp.out.only o4 (fun _ _ => id)
          q := hq
          ok1 := new_ok hn0
          ok2 := new_ok hn0
          n1 := by simp [new]
          n2 := by simp [new]
          N1 := rfl
          N2 := rfl
          k1 := by simp [new]
          k2 := by simp [new]
          h1 := by simp [new]
          h2 := by simp [new]
          ab := by omega
          f1a := by omega
          f1b := by omega
          f2a := by omega
          f2b := by omega
          dis := fun k h1 h2 => by omega
          lt1 := fun k h => by omega
          lt2 := fun k h => by omega
          ba := Nat.le_refl _
          bb := by omega
          b1 := fun k h => by omega
          b2 := fun k h => by omega
          only := (o2.out.trans o3.out).trans o4 })
      obtain ⟨ga, hga⟩ : ∃ ga, ga = w.heap.size := ⟨_, rfl⟩
      obtain ⟨gp, hgp⟩ : ∃ gp, gp = w2.heap.size := ⟨_, rfl⟩
      obtain ⟨gq, hgq⟩ : ∃ gq, gq = w3.heap.size := ⟨_, rfl⟩
      rw [← hga, ← hgp, ← hgq]
      rw [← hga, ← hgp, ← hgq] at hTP
      clear ba bb o2 o3 o4 hp hq z2 z3 z4 gb1
      replace hga := Lib.hid hga
      clear hgp hgq
      go_wp2_with fail
      go_loopw [11] (fun v11 wr => ∃ (i : Nat) (F1 F2 : Nat → Prop) (t1 t2 : Tr) (l1 l2 : List Slot) (s1 s2 : List Int), v11 = .int .i64 i ∧ i ≤ m1 + m2 ∧ Hid (TP w wr ga gb gp gq F1 F2 t1 t2 l1 l2 s1 s2 n i i)) (fun v11 _ => m1 + m2 - (intOf v11).toNat)
      case atStart => exact ⟨0, _, _, _, _, _, _, _, _, rfl, by omega, hTP⟩
      case round =>
        obtain ⟨i, F1, F2, t1, t2, l1, l2, s1, s2, rfl, hi, hI⟩ := hrel
        obtain ⟨wi, rfl⟩ : ∃ wi : World, wi = wr := ⟨_, rfl⟩
        by_cases h1 : i < m1
        · have h1' : (i : Int) < m1 := by omega
          obtain ⟨ad1, hA1, p0, p1, p2, p3, pb⟩ := piece_cells (HR.out.no hI.out.only) HL.out i h1
          obtain rfl := hA1
          obtain ⟨u, hu⟩ : ∃ u, u = ps[i]'(by rw [HL.out]; exact h1) := ⟨_, rfl⟩
          rw [← hu] at p0 p1 p2 p3
          replace hu := Lib.hid hu
          have hrng := Lib.hid (HQ.out u (by rw [hu.out]; exact List.getElem_mem _))
          go_wp2_with fail
          refine (take_all (a := u.a) (b := u.b) (d := u.d) hI.out.a hI.out.ok1 (by have := hI.out.N1; omega) (by have := hI.out.k1; omega) hrng.out.1 hrng.out.2).mono ?_
          rintro e w1 ⟨vx, rfl, hv, hb1, ho1⟩
          obtain ⟨Ax, cx, rfl⟩ := own_slice hv
          have lx : (take t1 u.r).1.length ≤ 1048576 := by have := (take_ok hI.out.ok1 u.r).n1; have := hI.out.ok1.n0; have := Rs.take_len hI.out.ok1 u.r; have := (take_N t1 u.r).trans hI.out.N1; omega
          have xa := Lib.hid (own_ge hv)
          have xb := Lib.hid (own_lt hv)
          have oW1 := Lib.hid (hI.out.only.then ho1 (fun k hk => .inr (by rw [show k = ga from hk]; exact hI.out.ba)))
          clear p0 p1 p2 p3 pb
          obtain ⟨ad2, e2, p0, p1, p2, p3, pb⟩ := piece_cells (HR.out.no oW1.out) HL.out i h1
          obtain rfl := Option.some.inj e2
          rw [← hu.out] at p0 p1 p2 p3
          replace hv := Lib.hid hv
          replace hb1 := Lib.hid hb1
          replace ho1 := Lib.hid ho1
          clear e2
          go_wp2_with fail
          refine (rtake_any F1 t1 l1 s1 u.a u.b u.r u.d gp w1 (hI.out.p.only ho1.out (fun k hk e => hI.out.f1a (by rw [← show k = ga from e]; exact hk))) hI.out.n1 hI.out.ok1 (by have := hI.out.N1; omega) (by have := hI.out.k1; omega) hI.out.h1 hrng.out.2).mono ?_
          rintro e w2 ⟨vy, rfl, hv2, hrt2, ho2⟩
          obtain ⟨Ay, cy, rfl⟩ := own_slice hv2
          have TP2 := Lib.hid (hI.out.takes hb1.out ho1.out hrt2 ho2)
          have hx2 := Lib.hid (own_only hv.out ho2 (fun k hk hF => by have := xa.out k hk; have := hI.out.lt1 k hF; omega))
          replace hv2 := Lib.hid hv2
          have z1 := Lib.hid ho1.out.size
          have hsz12 := Lib.hid ho2.size
          clear hrt2 ho2 hv hb1 ho1 p0 p1 p2 p3 pb
          go_wp2_with fail
          refine (same_yes Ax Ay cx cy _ _ w2 (Rds.of_own hx2.out) (Rds.of_own hv2.out) rfl (by omega)).mono ?_
          rintro e w3 ⟨rfl, q3⟩
          have hx3 := Lib.hid (own_only hx2.out q3 (fun _ _ => id))
          have TP3 := Lib.hid (TP2.out.no q3)
          have z3 := Lib.hid (show wi.heap.size ≤ w3.heap.size from by have := hI.out.only.size; have := q3.size; have := oW1.out.size; have := z1.out; have := TP2.out.lt1; have h := TP2.out.only.size; have h9 := TP2.out.a.lt; exact Nat.le_trans z1.out (Nat.le_trans (by exact hsz12.out) q3.size))
          clear hx2 TP2 hv2 q3
          go_wp2_with fail
          refine (spoil_any wi.heap.size cx Ax _ (-5) w3 hx3.out lx z3.out).mono ?_
          rintro e w4 ⟨Az, cz, rfl, xz, _, ho4, _⟩
          have TP4 := Lib.hid (TP3.out.far ho4 (fun hk => by have := xa.out _ hk; have := hI.out.a.lt; omega) (fun hk => by have := xa.out _ hk; have := hI.out.b.lt; omega) (fun k hF hk => by
              rcases hF with h | h
              · have := xa.out _ hk; have := hI.out.lt1 k h; omega
              · have := xb.out _ hk; omega) (fun k hF hk => by have := xa.out _ hk; have := hI.out.lt2 k hF; omega) (fun k hk => by have := xa.out _ hk; have := hI.out.only.size; omega))
          replace xz := Lib.hid xz
          clear hx3 TP3 ho4
          go_wp2_with fail
          refine (full_yes Az cz (-5) _ w4 xz.out (by omega)).mono ?_
          rintro e w5 ⟨rfl, q5⟩
          have TP5 := Lib.hid (TP4.out.no q5)
          clear TP4 xz q5
          obtain ⟨F1', t1', l1', s1', hJ⟩ : ∃ F1' T1 L1 S1, Hid (TP w w5 _ _ _ _ F1' _ T1 _ L1 _ S1 _ n (i + 1) _) := ⟨_, _, _, _, TP5⟩
          clear TP5 hrng hu lx xa xb oW1 z1
          go_wp2_with fail
          refine (next_any t1' ga _ hJ.out.a).mono ?_
          rintro e w6 ⟨rfl, rfl⟩
          rw [hJ.out.n1]
          go_wp2_with fail
          refine (rnext_any F1' t1' l1' s1' gp _ hJ.out.p).mono ?_
          rintro e w6 ⟨rfl, rfl⟩
          go_wp2_with fail
          refine (done_any t1' ga _ hJ.out.a).mono ?_
          rintro e w6 ⟨rfl, rfl⟩
          go_wp2_with fail
          refine (rdone_any F1' t1' l1' s1' gp _ hJ.out.p).mono ?_
          rintro e w6 ⟨rfl, rfl⟩
          by_cases h2 : i < m2
          · have h2' : (i : Int) < m2 := by omega
            have hI2 := Lib.hid hJ.out.swap
            obtain ⟨ad2, hA2, p0, p1, p2, p3, pb⟩ := piece_cells (HR2.out.no hI2.out.only) HL2.out i h2
            obtain rfl := hA2
            obtain ⟨u, hu⟩ : ∃ u, u = qs[i]'(by rw [HL2.out]; exact h2) := ⟨_, rfl⟩
            rw [← hu] at p0 p1 p2 p3
            replace hu := Lib.hid hu
            have hrng := Lib.hid (HQ2.out u (by rw [hu.out]; exact List.getElem_mem _))
            go_wp2_with fail
            refine (take_all (a := u.a) (b := u.b) (d := u.d) hI2.out.a hI2.out.ok1 (by have := hI2.out.N1; omega) (by have := hI2.out.k1; omega) hrng.out.1 hrng.out.2).mono ?_
            rintro e w1 ⟨vx, rfl, hv, hb1, ho1⟩
            obtain ⟨Ax, cx, rfl⟩ := own_slice hv
            have lx : (take t2 u.r).1.length ≤ 1048576 := by have := (take_ok hI2.out.ok1 u.r).n1; have := hI2.out.ok1.n0; have := Rs.take_len hI2.out.ok1 u.r; have := (take_N t2 u.r).trans hI2.out.N1; omega
            have xa := Lib.hid (own_ge hv)
            have xb := Lib.hid (own_lt hv)
            have oW1 := Lib.hid (hI2.out.only.then ho1 (fun k hk => .inr (by rw [show k = gb from hk]; exact hI2.out.ba)))
            clear p0 p1 p2 p3 pb
            obtain ⟨ad2, e2, p0, p1, p2, p3, pb⟩ := piece_cells (HR2.out.no oW1.out) HL2.out i h2
            obtain rfl := Option.some.inj e2
            rw [← hu.out] at p0 p1 p2 p3
            replace hv := Lib.hid hv
            replace hb1 := Lib.hid hb1
            replace ho1 := Lib.hid ho1
            clear e2
            go_wp2_with fail
            refine (rtake_any F2 t2 l2 s2 u.a u.b u.r u.d gq w1 (hI2.out.p.only ho1.out (fun k hk e => hI2.out.f1a (by rw [← show k = gb from e]; exact hk))) hI2.out.n1 hI2.out.ok1 (by have := hI2.out.N1; omega) (by have := hI2.out.k1; omega) hI2.out.h1 hrng.out.2).mono ?_
            rintro e w2 ⟨vy, rfl, hv2, hrt2, ho2⟩
            obtain ⟨Ay, cy, rfl⟩ := own_slice hv2
            have TP2 := Lib.hid (hI2.out.takes hb1.out ho1.out hrt2 ho2)
            have hx2 := Lib.hid (own_only hv.out ho2 (fun k hk hF => by have := xa.out k hk; have := hI2.out.lt1 k hF; omega))
            replace hv2 := Lib.hid hv2
            have z1 := Lib.hid ho1.out.size
            clear hrt2 ho2 hv hb1 ho1 p0 p1 p2 p3 pb
            go_wp2_with fail
            refine (same_yes Ax Ay cx cy _ _ w2 (Rds.of_own hx2.out) (Rds.of_own hv2.out) rfl (by omega)).mono ?_
            rintro e w3 ⟨rfl, q3⟩
            have TP5 := Lib.hid (TP2.out.no q3)
            obtain ⟨w9, rfl⟩ : ∃ w9 : World, w9 = w3 := ⟨_, rfl⟩
            clear TP2 hx2 hv2 q3
            obtain ⟨F2', t2', l2', s2', hK⟩ : ∃ F1' T1 L1 S1, Hid (TP w w9 _ _ _ _ F1' _ T1 _ L1 _ S1 _ n (i + 1) _) := ⟨_, _, _, _, TP5⟩
            clear TP5 hrng hu lx xa xb oW1 z1
            go_wp2_with fail
            refine (next_any t2' gb _ hK.out.a).mono ?_
            rintro e w6 ⟨rfl, rfl⟩
            rw [hK.out.n1]
            go_wp2_with fail
            refine (rnext_any F2' t2' l2' s2' gq _ hK.out.p).mono ?_
            rintro e w6 ⟨rfl, rfl⟩
            go_wp2_with fail
            refine (done_any t2' gb _ hK.out.a).mono ?_
            rintro e w6 ⟨rfl, rfl⟩
            go_wp2_with fail
            refine (rdone_any F2' t2' l2' s2' gq _ hK.out.p).mono ?_
            rintro e w6 ⟨rfl, rfl⟩
            go_wp2_with fail
            go_roundw
            case rel => exact ⟨i + 1, _, _, _, _, _, _, _, _, by go_num, by omega, Lib.hid (hK.out.swap)⟩
            case measure => simp [intOf]; omega
          · have h2' : ¬ (i : Int) < m2 := by omega
            go_wp2_with fail
            go_roundw
            case rel => exact ⟨i + 1, _, _, _, _, _, _, _, _, by go_num, by omega, Lib.hid (hJ.out.up (by omega) (by omega))⟩
            case measure => simp [intOf]; omega
        · have h1' : ¬ (i : Int) < m1 := by omega
          by_cases h2 : i < m2
          · have h2' : (i : Int) < m2 := by omega
            have hI2 := Lib.hid (hI.out.up (j1 := i + 1) (j2 := i) (by omega) (by omega)).swap
            obtain ⟨ad2, hA2, p0, p1, p2, p3, pb⟩ := piece_cells (HR2.out.no hI2.out.only) HL2.out i h2
            obtain rfl := hA2
            obtain ⟨u, hu⟩ : ∃ u, u = qs[i]'(by rw [HL2.out]; exact h2) := ⟨_, rfl⟩
            rw [← hu] at p0 p1 p2 p3
            replace hu := Lib.hid hu
            have hrng := Lib.hid (HQ2.out u (by rw [hu.out]; exact List.getElem_mem _))
            go_wp2_with fail
            refine (take_all (a := u.a) (b := u.b) (d := u.d) hI2.out.a hI2.out.ok1 (by have := hI2.out.N1; omega) (by have := hI2.out.k1; omega) hrng.out.1 hrng.out.2).mono ?_
            rintro e w1 ⟨vx, rfl, hv, hb1, ho1⟩
            obtain ⟨Ax, cx, rfl⟩ := own_slice hv
            have lx : (take t2 u.r).1.length ≤ 1048576 := by have := (take_ok hI2.out.ok1 u.r).n1; have := hI2.out.ok1.n0; have := Rs.take_len hI2.out.ok1 u.r; have := (take_N t2 u.r).trans hI2.out.N1; omega
            have xa := Lib.hid (own_ge hv)
            have xb := Lib.hid (own_lt hv)
            have oW1 := Lib.hid (hI2.out.only.then ho1 (fun k hk => .inr (by rw [show k = gb from hk]; exact hI2.out.ba)))
            clear p0 p1 p2 p3 pb
            obtain ⟨ad2, e2, p0, p1, p2, p3, pb⟩ := piece_cells (HR2.out.no oW1.out) HL2.out i h2
            obtain rfl := Option.some.inj e2
            rw [← hu.out] at p0 p1 p2 p3
            replace hv := Lib.hid hv
            replace hb1 := Lib.hid hb1
            replace ho1 := Lib.hid ho1
            clear e2
            go_wp2_with fail
            refine (rtake_any F2 t2 l2 s2 u.a u.b u.r u.d gq w1 (hI2.out.p.only ho1.out (fun k hk e => hI2.out.f1a (by rw [← show k = gb from e]; exact hk))) hI2.out.n1 hI2.out.ok1 (by have := hI2.out.N1; omega) (by have := hI2.out.k1; omega) hI2.out.h1 hrng.out.2).mono ?_
            rintro e w2 ⟨vy, rfl, hv2, hrt2, ho2⟩
            obtain ⟨Ay, cy, rfl⟩ := own_slice hv2
            have TP2 := Lib.hid (hI2.out.takes hb1.out ho1.out hrt2 ho2)
            have hx2 := Lib.hid (own_only hv.out ho2 (fun k hk hF => by have := xa.out k hk; have := hI2.out.lt1 k hF; omega))
            replace hv2 := Lib.hid hv2
            have z1 := Lib.hid ho1.out.size
            clear hrt2 ho2 hv hb1 ho1 p0 p1 p2 p3 pb
            go_wp2_with fail
            refine (same_yes Ax Ay cx cy _ _ w2 (Rds.of_own hx2.out) (Rds.of_own hv2.out) rfl (by omega)).mono ?_
            rintro e w3 ⟨rfl, q3⟩
            have TP5 := Lib.hid (TP2.out.no q3)
            obtain ⟨w5, rfl⟩ : ∃ w5 : World, w5 = w3 := ⟨_, rfl⟩
            clear TP2 hx2 hv2 q3
            obtain ⟨F2', t2', l2', s2', hK⟩ : ∃ F1' T1 L1 S1, Hid (TP w w5 _ _ _ _ F1' _ T1 _ L1 _ S1 _ n (i + 1) _) := ⟨_, _, _, _, TP5⟩
            clear TP5 hrng hu lx xa xb oW1 z1
            go_wp2_with fail
            refine (next_any t2' gb _ hK.out.a).mono ?_
            rintro e w6 ⟨rfl, rfl⟩
            rw [hK.out.n1]
            go_wp2_with fail
            refine (rnext_any F2' t2' l2' s2' gq _ hK.out.p).mono ?_
            rintro e w6 ⟨rfl, rfl⟩
            go_wp2_with fail
            refine (done_any t2' gb _ hK.out.a).mono ?_
            rintro e w6 ⟨rfl, rfl⟩
            go_wp2_with fail
            refine (rdone_any F2' t2' l2' s2' gq _ hK.out.p).mono ?_
            rintro e w6 ⟨rfl, rfl⟩
            go_wp2_with fail
            go_roundw
            case rel => exact ⟨i + 1, _, _, _, _, _, _, _, _, by go_num, by omega, Lib.hid (hK.out.swap)⟩
            case measure => simp [intOf]; omega
          · have h2' : ¬ (i : Int) < m2 := by omega
            go_wp2_with fail
            refine (next_any t1 ga _ hI.out.a).mono ?_
            rintro e w6 ⟨rfl, rfl⟩
            rw [hI.out.n1]
            go_wp2_with fail
            refine (rnext_any F1 t1 l1 s1 gp _ hI.out.p).mono ?_
            rintro e w6 ⟨rfl, rfl⟩
            go_wp2_with fail
            refine (next_any t2 gb _ hI.out.b).mono ?_
            rintro e w6 ⟨rfl, rfl⟩
            rw [hI.out.n2]
            go_wp2_with fail
            refine (rnext_any F2 t2 l2 s2 gq _ hI.out.q).mono ?_
            rintro e w6 ⟨rfl, rfl⟩
            go_wp2_with fail
            refine (done_any t1 ga _ hI.out.a).mono ?_
            rintro e w6 ⟨rfl, rfl⟩
            go_wp2_with fail
            refine (rdone_any F1 t1 l1 s1 gp _ hI.out.p).mono ?_
            rintro e w6 ⟨rfl, rfl⟩
            go_wp2
            go_ret
            exact ⟨rfl, hI.out.only.below_no⟩
end Go.Proofs.Ytdbidojncboalaa.Ct
