/- Maps of damage: Flag; two lists; the shape of a law. -/
import Derived.Test.YtclidonogebgkaaDb
namespace Go.Proofs.Ytclidonogebgkaa.Ct
open Go.ChangeShapes Go.WideShapes Go.RowKit Mm
theorem getD_set {l : List Bool} {i : Nat} (h : i < l.length) : l.getD i false = true → l.set i true = l := by
  intro e
  refine List.ext_getElem (by simp) fun j h1 h2 => ?_
  rw [List.getElem_set]
  split
  · rename_i hh
    subst hh
    have : l.getD i false = l[i] := by simp [h]
    rw [← this, e]
  · rfl
theorem cnt_set {l : List Bool} {i : Nat} (h : i < l.length) (e : l.getD i false = false) : cnt (l.set i true) = cnt l + 1 := by
  unfold cnt
  have hx : l[i] = false := by have : l.getD i false = l[i] := by simp [h]
                               rw [← this, e]
  rw [List.count_set h, hx]
  simp
/-- what Flag leaves -/
def FlagPost (w : World) (g : Nat) (A : Option Addr) (c W H : Nat) (l : List Bool) (i : Nat) (e : Ending) (w' : World) : Prop :=
  e = .returned (.bool (!l.getD i false)) ∧ MapAt w' g A c W H (l.set i true) ∧ Only (Sm g A) w w'
set_option maxHeartbeats 1600000 in
theorem flag17 {w : World} {g : Nat} {A : Option Addr} {c W H : Nat} {l : List Bool} (h : MapAt w g A c W H l) (x y : Nat) (hx : x < W) (hy : y < H) :
    Calls Try.prog 17 #[P g, .int .i64 x, .int .i64 y] w (FlagPost w g A c W H l (y * W + x)) := by
  obtain ⟨c0, c1, c2, c3⟩ := h.cells
  have hl := h.blk.lt
  obtain ⟨hlt2, hm2⟩ := place h hx hy
  have hle := h.le
  have hcl := cnt_le l
  obtain ⟨ad, rfl, hc⟩ := h.rds.at_ (i := y * W + x) (u := .bool (l.getD (y * W + x) false)) (by omega) (boC_get hlt2)
  have hfz : w.frozen? (ad.add (y * W + x)) = false ∧ ad.block ≠ g := by
    refine ⟨?_, h.ne ad rfl⟩
    rcases h.own.2 with ⟨hv, _⟩ | ⟨g', cap, cur, hv, _⟩
    · simp at hv
    · simp at hv
      obtain ⟨rfl, rfl⟩ := hv
      rw [Mm.add_plain]
      exact h.own.frozenAt _
  obtain ⟨hfz, hne⟩ := hfz
  have hst := fun (b : Bool) => Lib.hid (show (w.setCell (ad.add (y * W + x)) (.bool b)).ownsRow 0 4 1 (.slice (some ad) l.length c) l.length (boC (l.set (y * W + x) b)) by
    rcases h.own.2 with ⟨hv, _⟩ | ⟨g', cap, cur, hv, _⟩
    · simp at hv
    · simp at hv
      obtain ⟨rfl, rfl⟩ := hv
      rw [Mm.add_plain, boC_set]
      exact (h.own.stored _ _).1)
  have e1 : IntKind.i64.wrap ((y : Int) * (W : Int)) = ((y * W : Nat) : Int) := by rw [IntWalk.i64_in _ (by rw [← Int.natCast_mul]; omega), ← Int.natCast_mul]
  have e2 : IntKind.i64.wrap (((y * W : Nat) : Int) + (x : Int)) = ((y * W + x : Nat) : Int) := by rw [IntWalk.i64_in _ (by omega)]; push_cast; rfl
  have e3 : (((y * W + x : Nat) : Int)).toNat = y * W + x := Int.toNat_natCast _
  have e4 : (0 : Int) ≤ ((y * W + x : Nat) : Int) := Int.natCast_nonneg _
  have e5 : ((y * W + x : Nat) : Int) < (l.length : Int) := by omega
  have H0 := h
  have f3 := h.blk.frozen 3
  have hcs := fun e => Lib.hid (cnt_set hlt2 e)
  have hgs := fun e => Lib.hid (getD_set hlt2 e)
  replace h := Lib.hid h
  have hE : Hid (FlagPost w g (some ad) c W H l (y * W + x) = fun e w' => e = .returned (.bool (!l.getD (y * W + x) false)) ∧ MapAt w' g (some ad) c W H (l.set (y * W + x) true) ∧ Only (Sm g (some ad)) w w') := rfl
  rw [hE.out]
  clear hE
  generalize hb : l.getD (y * W + x) false = b at *
  generalize y * W + x = k at *
  generalize y * W = j at *
  cases b
  · replace hcs := hcs rfl
    clear hgs
    have hb' := Lib.hid hb
    clear hb
    go_enter Try.func17, Try.ntmps17
    go_wp2_with fail
    go_quiet ((go_at_call 33; exact Calls.quiet_of_same (in33_yes (H0.drewN _) _ _ hx hy)))
    have H1 := Lib.hid (h.out.drewN nq)
    have O1 := Lib.hid ((Only.refl (Sm g (some ad)) w).drewN nq)
    have st1 : Hid (((w.drewN nq).setCell (ad.add k) (.bool true)).ownsRow 0 4 1 (.slice (some ad) l.length c) l.length (boC (l.set k true))) := own_only (hst true).out ⟨rfl, rfl, rfl, Nat.le_refl _, fun _ _ _ => rfl⟩ (fun _ _ => id)
    replace hfz : (w.drewN nq).frozen? (ad.add k) = false := hfz
    replace f3 : (w.drewN nq).frozen? ⟨g, 3, none⟩ = false := f3
    replace hc : (w.drewN nq).cell? (ad.add k) = _ := hc
    clear h H0 hst c0 c1 c2 c3
    generalize w.drewN nq = w1 at *
    obtain ⟨c0, c1, c2, c3⟩ := H1.out.cells
    go_wp2_with fail
    go_still_tail 13, (by kernel_rfl)
    change wpList _ _ _ _ _ w1.drew
    have H2 := Lib.hid (H1.out.drewN 1)
    replace H2 : Hid (MapAt w1.drew g (some ad) c W H l) := H2
    have O2 : Hid (Only (Sm g (some ad)) w w1.drew) := Lib.hid O1.out.drew
    replace st1 : Hid ((w1.drew.setCell (ad.add k) (.bool true)).ownsRow 0 4 1 (.slice (some ad) l.length c) l.length (boC (l.set k true))) := own_only st1.out ⟨rfl, rfl, rfl, Nat.le_refl _, fun _ _ _ => rfl⟩ (fun _ _ => id)
    replace hfz : w1.drew.frozen? (ad.add k) = false := hfz
    replace hc : w1.drew.cell? (ad.add k) = _ := hc
    clear H1 O1 c0 c1 c2 c3 f3
    generalize w1.drew = w2 at *
    have B3 := H2.out.blk.far (p := ad.add k) (fun e => hne (by rw [Mm.block_add] at e; exact e.symm)) (.bool true)
    have c3 := B3.cell 3
    have f3 := B3.frozen 3
    unfold mapC at c3
    simp only [List.getElem?_toArray, List.getElem?_cons_zero, List.getElem?_cons_succ] at c3
    have O3 := Lib.hid (O2.out.setCell (p := ad.add k) (.inl (.inr ⟨ad, rfl, (Mm.block_add ad k).symm⟩)) (.bool true))
    have hw3 : ∃ w3, w2.setCell (ad.add k) (.bool true) = w3 := ⟨_, rfl⟩
    obtain ⟨w3, e3'⟩ := hw3
    rw [e3'] at B3 c3 f3
    replace st1 : Hid (w3.ownsRow 0 4 1 (.slice (some ad) l.length c) l.length (boC (l.set k true))) := Lib.hid (e3' ▸ st1.out)
    replace O3 : Hid (Only (Sm g (some ad)) w w3) := Lib.hid (e3' ▸ O3.out)
    replace B3 := Lib.hid B3
    have L2 := Lib.hid (show l.length = W * H ∧ W ≤ 8192 ∧ H ≤ 8192 from ⟨H2.out.len, H2.out.w8, H2.out.h8⟩)
    clear H2 O2
    go_wp2_with fail
    go_ret
    refine ⟨rfl, ⟨?_, ?_, by rw [List.length_set]; exact L2.out.1, L2.out.2.1, L2.out.2.2⟩, O3.out.setCell (p := ⟨g, 3, none⟩) (.inl (.inl rfl)) _⟩
    · have := B3.out.set 3 (.int .i64 ((cnt l : Int) + 1))
      unfold mapC at this ⊢
      rw [hcs.out, List.length_set, show ((cnt l + 1 : Nat) : Int) = (cnt l : Int) + 1 by omega]
      exact this
    · rw [List.length_set]
      refine own_only st1.out ((Only.refl (One g) w3).setCell (p := ⟨g, 3, none⟩) (.inl rfl) _) (fun i hi k => ?_)
      have k : i = g := k
      exact own_blk st1.out B3.out (by decide) (by rw [hi, k])
  · replace hgs := hgs rfl
    have hb' := Lib.hid hb
    clear hcs hst hb
    go_enter Try.func17, Try.ntmps17
    go_wp2_with fail
    go_quiet ((go_at_call 33; exact Calls.quiet_of_same (in33_yes (H0.drewN _) _ _ hx hy)))
    go_wp2_with fail
    go_ret
    exact ⟨by simp, by rw [hgs.out]; exact h.out.drewN _, (Only.refl _ _).drewN _⟩
theorem take_same {l l2 : List Bool} {k : Nat} (h : k < l.length) (h2 : k < l2.length) (e : l.take k = l2.take k) (x : l.getD k false = l2.getD k false) : l.take (k + 1) = l2.take (k + 1) := by
  rw [List.take_succ_eq_append_getElem h, List.take_succ_eq_append_getElem h2, e]
  have a : l.getD k false = l[k] := by simp [h]
  have b : l2.getD k false = l2[k] := by simp [h2]
  rw [a, b] at x
  rw [x]
set_option maxHeartbeats 800000 in
theorem same15 (w : World) (A : Option Addr) (c : Nat) (l : List Bool) (A2 : Option Addr) (c2 : Nat) (l2 : List Bool) (hr : Rds w 1 A l.length (boC l)) (hr2 : Rds w 1 A2 l2.length (boC l2)) (hl : l.length ≤ 140737488351232) :
    Calls Try.prog 15 #[.slice A l.length c, .slice A2 l2.length c2] w fun e w' => e = .returned (.bool (decide (l = l2))) ∧ ∃ d, w' = w.drewN d := by
  have HR := Lib.hid hr
  have HR2 := Lib.hid hr2
  clear hr hr2
  by_cases hn : l.length = l2.length
  · have hN := Lib.hid hn
    have d0 : ((l.length : Int) != (l2.length : Int)) = false := by rw [hn]; simp
    clear hn
    go_enter Try.func15, Try.ntmps15
    go_wp2_with fail
    go_loopw [5] (fun i wr => ∃ k d : Nat, k ≤ l.length ∧ i = .int .i64 k ∧ Hid (l.take k = l2.take k) ∧ wr = w.drewN d) (fun i _ => l.length - (intOf i).toNat)
    case atStart => exact ⟨0, 0, Nat.zero_le _, rfl, by simp [Hid], rfl⟩
    case round =>
      obtain ⟨k, d, hk, rfl, ht, rfl⟩ := hrel
      by_cases hlt : k < l.length
      · have hlt2 : k < l2.length := by have := hN.out; omega
        obtain ⟨ad, rfl, q1⟩ := HR.out.at_ (by omega) (boC_get hlt)
        obtain ⟨ad2, rfl, q2⟩ := HR2.out.at_ (by omega) (boC_get hlt2)
        have hs := fun e => Lib.hid (take_same hlt hlt2 ht.out e)
        have hq : Hid (l.getD k false ≠ l2.getD k false → l ≠ l2) := Lib.hid (fun a b => a (by rw [b]))
        generalize l.getD k false = x at *
        generalize l2.getD k false = y at *
        have i1 : (k : Int) < (l.length : Int) := by omega
        have i2 : (k : Int) < (l2.length : Int) := by omega
        have i3 : (0 : Int) ≤ (k : Int) := by omega
        by_cases hxy : x = y
        · subst hxy
          replace hs := hs rfl
          go_wp2_with fail
          go_quiet (fail)
          go_wp2
          go_roundw
          case rel => exact ⟨k + 1, _, by omega, by go_num, hs, by first | rfl | (rw [World.drewN_drewN])⟩
          case measure => simp [intOf]; omega
        · have d1 : (x == y) = false := by simpa using hxy
          have hne := Lib.hid (hq.out hxy)
          replace hxy := Lib.hid hxy
          clear hs hq
          go_wp2_with fail
          go_quiet (fail)
          go_wp2
          go_ret
          exact ⟨by rw [decide_eq_false hne.out]; rfl, _, by first | rfl | (rw [World.drewN_drewN])⟩
      · obtain rfl : k = l.length := by omega
        have he : Hid (l = l2) := by
          have h := ht.out
          have h2 := hN.out
          rw [List.take_length, h2, List.take_length] at h
          exact h
        go_wp2_with fail
        go_ret
        exact ⟨by rw [decide_eq_true he.out]; rfl, _, rfl⟩
  · have d0 : ((l.length : Int) != (l2.length : Int)) = true := by simp; omega
    have hne : Hid (l ≠ l2) := Lib.hid (fun h => hn (by rw [h]))
    replace hn := Lib.hid hn
    go_enter Try.func15, Try.ntmps15
    go_wp2_with fail
    go_ret
    exact ⟨by rw [decide_eq_false hne.out]; rfl, 0, rfl⟩
theorem tmod_bounds (a : Int) {n : Int} (h : 0 < n) : -n < a.tmod n ∧ a.tmod n < n := by
  rcases Int.le_total 0 a with h0 | h0
  · have h1 := Int.tmod_nonneg n h0
    have h2 := Int.tmod_lt_of_pos a h
    omega
  · have h1 := Int.tmod_nonneg n (show 0 ≤ -a by omega)
    have h2 := Int.tmod_lt_of_pos (-a) h
    rw [Int.neg_tmod] at h1 h2
    omega
def roundP (i n : Int) : Int := if i.tmod n < 0 then i.tmod n + n else i.tmod n
theorem roundP_bounds (i : Int) {n : Int} (h : 0 < n) : 0 ≤ roundP i n ∧ roundP i n < n := by
  have := tmod_bounds i h
  unfold roundP
  split <;> omega
theorem at24 (w : World) (i n : Int) (h : 0 < n) (hn : n ≤ 1000) : Calls Try.prog 24 #[.int .i64 i, .int .i64 n] w fun e w' => e = .returned (.int .i64 (roundP i n)) ∧ w = w' := by
  have hb := tmod_bounds i h
  have k0 : ¬ n = 0 := by omega
  have hp : Hid (roundP i n = if i.tmod n < 0 then i.tmod n + n else i.tmod n) := rfl
  rw [hp.out]
  by_cases hR : i.tmod n < 0
  · rw [if_pos hR]
    have hw2 : wrap64 (i.tmod n + n) = i.tmod n + n := IntWalk.wrap64_in _ (by omega)
    have hd : decide (i.tmod n < 0) = true := decide_eq_true hR
    go_enter Try.func24, Try.ntmps24
    go_wp2_with fail
    go_ret
    exact ⟨rfl, rfl⟩
  · rw [if_neg hR]
    have hd : decide (i.tmod n < 0) = false := decide_eq_false hR
    go_enter Try.func24, Try.ntmps24
    go_wp2_with fail
    go_ret
    exact ⟨rfl, rfl⟩
end Go.Proofs.Ytclidonogebgkaa.Ct
