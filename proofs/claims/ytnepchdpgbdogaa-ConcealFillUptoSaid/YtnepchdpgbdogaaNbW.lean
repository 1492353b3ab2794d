/- The closure that looks in one direction. -/
import Derived.Test.YtnepchdpgbdogaaNb
import Derived.Deep.RegionLaw
namespace Go.Proofs.Ytnepchdpgbdogaa.Ct
open Go.ChangeShapes Go.WideShapes Go.RowKit Mm
/-- what the closure holds -/
structure Caps (w : World) (B : Nat) (W H : Nat) (l : List Bool) (bs : List (List Int)) (x y : Int) (bx bby bg bm : Nat) : Prop where
  cx : Blk w bx 3 #[.int .i64 x]
  cy : Blk w bby 3 #[.int .i64 y]
  cg : ∃ A c, Blk w bg 24 #[.int .i64 W, .int .i64 H, .slice A bs.length c] ∧ Rds w 64 A bs.length (bsC bs) ∧ (∀ ad, A = some ad → ad.block < B)
  cm : ∃ g, Blk w bm 31 #[P g] ∧ MapAt w B g W H l
  len : bs.length = W * H
  bls : Bls bs
  px : 0 ≤ x ∧ x < W
  py : 0 ≤ y ∧ y < H
theorem Caps.drewN {w : World} {B W H : Nat} {l : List Bool} {bs : List (List Int)} {x y : Int} {bx bby bg bm : Nat} (h : Caps w B W H l bs x y bx bby bg bm) (n : Nat) : Caps (w.drewN n) B W H l bs x y bx bby bg bm := by
  obtain ⟨A, c, g1, g2, g3⟩ := h.cg
  obtain ⟨g, m1, m2⟩ := h.cm
  exact ⟨h.cx, h.cy, ⟨A, c, g1, g2, g3⟩, ⟨g, m1, m2.drewN n⟩, h.len, h.bls, h.px, h.py⟩
/-- what the call leaves -/
def Looked (w : World) (B bl k : Nat) (v : Value) (xs : List Value) (T : Option (Int × Nat)) (w' : World) : Prop :=
  ∃ v', Blk w' bl 71 #[v'] ∧ w'.ownsRow B 74 2 v' (k + nbN T) (xs ++ nbC T) ∧ Only (fun i => i = bl ∨ v.ownBlock = some i) w w'
theorem idx_lt {W H a b : Nat} (ha : a < W) (hb : b < H) : b * W + a < W * H := by
  have : b * W + W ≤ H * W := by rw [← Nat.succ_mul]; exact Nat.mul_le_mul_right _ hb
  rw [Nat.mul_comm W H]; omega
theorem step_append_any {P : Program} {ops : Array Oper} {o : Oper} {a : Act} {w : World} {K : Act → World → Prop} {Q : Exit → Act → World → Prop} {E : Prop} (hgd : o.guard = none) (s x : Operand) (t : TypeId)
    (ho : o.op = .call { callee := .builtin .append, args := #[s, x], argTypes := #[t, t] })
    (base : Nat) (e : TypeId) (i : TypeInfo) (z : Value) (size bytes : Nat) (ht : P.underlying t = some (.slice e)) (hi : P.info? e = some i) (hz : i.zero = some z)
    (hsize : i.size = size) (hby : i.bytes = bytes) (hzs : z.cells.size = size) (hsz : 0 < size)
    (v : Value) (n : Nat) (xs : List Value) (hs : a.eval s = v) (hown : w.ownsRow base e size v n xs)
    (A : Option Addr) (m c : Nat) (news : List Value) (hx : a.eval x = .slice A m c) (hr : Rds w size A m news) (h1 : ∀ u ∈ news, u.oneCell' = true)
    (h63 : n + m ≤ maxLen) (hbytes : (n + m) * bytes ≤ 140737488355328) (hbase : base ≤ w.heap.size)
    (hK : ∀ v' w', w'.ownsRow base e size v' (n + m) (xs ++ news) → Only (fun k => v.ownBlock = some k) w w' → (v'.ownBlock = v.ownBlock ∨ v'.ownBlock = some w.heap.size) → K (a.put o.dst v') w') :
    if Region.wanted o (yielded ops a.tmps) = true then Oper.wp P o a w K Q else E := by
  have hw : Region.wanted o (yielded ops a.tmps) = true := by simp [Region.wanted, hgd]
  rw [if_pos hw]
  obtain ⟨v', w', hrun, h2, h3, h4⟩ := run_append_any (P := P) w base t o.type e i z size bytes ht hi hz hsize hby hzs hsz v n xs hown A m c news hr h1 h63 hbytes hbase
  unfold Oper.wp
  simp [execOp, ho, resolve, invoke, builtin, hs, hx, hrun, Result.andThen]
  exact hK _ _ h2 h3 h4
set_option maxHeartbeats 1600000 in
theorem look43 (w : World) (B W H : Nat) (l : List Bool) (bs : List (List Int)) (x y : Int) (bx bby bg bm bl k : Nat) (v : Value) (xs : List Value) (hc : Caps w B W H l bs x y bx bby bg bm) (hl : Blk w bl 71 #[v]) (ho : w.ownsRow B 74 2 v k xs) (hk : k ≤ 4) (hB : B ≤ w.heap.size) (hbl : B ≤ bl) (dx dy : Int) (hD : Dir dx dy) :
    Calls Try.prog 43 #[.int .i64 dx, .int .i64 dy, P bx, P bby, P bg, P bm, P bl] w fun e w' => e = .returned (.tuple #[]) ∧ Looked w B bl k v xs (nb W H l (dcs bs) x y dx dy) w' := by
  obtain ⟨i0, hi0, hz0, hz1, hz2⟩ := info_parts info74
  obtain ⟨A0, k0, rfl⟩ := own_slice ho
  obtain ⟨A, c, g1, g2, g3⟩ := hc.cg
  obtain ⟨g, m1, m2⟩ := hc.cm
  have hW := m2.w8
  have hH := m2.h8
  have px := hc.px
  have py := hc.py
  have c0 := hc.cx.cell 0
  have c1 := hc.cy.cell 0
  have c2 := g1.cell 0
  have c3 := g1.cell 1
  have c4 := g1.cell 2
  have c5 := m1.cell 0
  have c6 := hl.cell 0
  simp only [List.getElem?_toArray, List.getElem?_cons_zero, List.getElem?_cons_succ] at c0 c1 c2 c3 c4 c5 c6
  replace hc := Lib.hid hc
  replace hl := Lib.hid hl
  replace ho := Lib.hid ho
  replace g1 := Lib.hid g1
  replace g2 := Lib.hid g2
  replace g3 := Lib.hid g3
  replace m1 := Lib.hid m1
  replace m2 := Lib.hid m2
  replace hD := Lib.hid hD
  go_enter Try.func43, Try.ntmps43
  go_wp2_with fail
  go_loopw [9] (fun v9 wr => ∃ d : Nat, v9 = .int .i64 d ∧ 1 ≤ d ∧ d ≤ 8192 ∧ Hid (nbF W H l (dcs bs) x y dx dy (16384 + 1 - d) d = nb W H l (dcs bs) x y dx dy) ∧ ∃ n, wr = w.drewN n) (fun v9 _ => 8192 - (intOf v9).toNat)
  case atStart => exact ⟨1, rfl, by omega, by omega, Lib.hid rfl, 0, rfl⟩
  case round =>
    obtain ⟨d, rfl, hd1, hd2, hT, n, rfl⟩ := hrel
    obtain ⟨m1, m2, m3, m4⟩ := dir_mul hD.out d
    obtain ⟨p, hp⟩ : ∃ p, p = (d : Int) * dx := ⟨_, rfl⟩
    obtain ⟨q, hq⟩ : ∃ q, q = (d : Int) * dy := ⟨_, rfl⟩
    obtain ⟨a, ha⟩ : ∃ a, a = x + p := ⟨_, rfl⟩
    obtain ⟨b, hb⟩ : ∃ b, b = y + q := ⟨_, rfl⟩
    rw [← hp] at m1 m2
    rw [← hq] at m3 m4
    have e1 : IntKind.i64.wrap ((d : Int) * dx) = p := by rw [← hp]; exact IntWalk.i64_in _ (by omega)
    have e2 : IntKind.i64.wrap ((d : Int) * dy) = q := by rw [← hq]; exact IntWalk.i64_in _ (by omega)
    have e3 : IntKind.i64.wrap (x + p) = a := by rw [← ha]; exact IntWalk.i64_in _ (by omega)
    have e4 : IntKind.i64.wrap (y + q) = b := by rw [← hb]; exact IntWalk.i64_in _ (by omega)
    have hab : x + (d : Int) * dx = a ∧ y + (d : Int) * dy = b := by rw [ha, hb, hp, hq]; exact ⟨rfl, rfl⟩
    have hr : -16384 ≤ a ∧ a ≤ 16384 ∧ -16384 ≤ b ∧ b ≤ 16384 := by omega
    replace hab := Lib.hid hab
    clear ha hb hp hq m1 m2 m3 m4
    cases hi : inB W H a b
    · have hi2 : ¬ (0 ≤ a ∧ a < W ∧ 0 ≤ b ∧ b < H) := by unfold inB at hi; simpa using hi
      have hR : nb W H l (dcs bs) x y dx dy = none := by rw [← hT.out]; exact nbF_out (by rw [hab.out.1, hab.out.2]; exact hi)
      have hfin : ∀ n, Looked w B bl k (.slice A0 k k0) xs (nb W H l (dcs bs) x y dx dy) (w.drewN n) := fun n => by
        rw [hR]
        exact ⟨.slice A0 k k0, hl.out.drewN n, by simpa [nbN, nbC] using own_only ho.out ((Only.refl No _).drewN n) (fun _ _ => id), (Only.refl _ _).drewN n⟩
      replace hi := Lib.hid hi
      replace hfin := Lib.hid hfin
      clear hR hT
      go_wp2_with fail
      go_quiet (fail)
      go_wp2_with fail
      all_goals first | (refine bodyPost_ret (results_none rfl _ _ _) rfl ⟨rfl, ?_⟩; first | exact hfin.out _) | (exfalso; omega)
    · obtain ⟨a', b', ha', hb', hA, hBb⟩ := of_inB hi
      have g0 : ¬ a < 0 := by omega
      have g00 : 0 ≤ a := by omega
      have g1' : ¬ (W : Int) ≤ a := by omega
      have g2' : ¬ b < 0 := by omega
      have g3' : ¬ (H : Int) ≤ b := by omega
      have hdlt : d < 8192 := dir_far hW hH hD.out px py (by rw [hab.out.1, hab.out.2]; exact hi)
      obtain ⟨f, hf⟩ : ∃ f, 16384 + 1 - d = f + 1 := ⟨16384 - d, by omega⟩
      have hlt : b' * W + a' < W * H := idx_lt hA hBb
      have hm : W * H ≤ 8192 * 8192 := Nat.mul_le_mul hW hH
      have hlen := hc.out.len
      have hdec : decide (a < 0) = false := decide_eq_false g0
      have hdec1 : decide ((W : Int) ≤ a) = false := decide_eq_false g1'
      have hdec2 : decide (b < 0) = false := decide_eq_false g2'
      have hdec3 : decide ((H : Int) ≤ b) = false := decide_eq_false g3'
      obtain ⟨t, ht⟩ : ∃ t : Nat, t = b' * W + a' := ⟨_, rfl⟩
      have e5 : ∃ s, IntKind.i64.wrap (b * (W : Int)) = s ∧ IntKind.i64.wrap (s + a) = (t : Int) := by
        subst ha' hb'
        refine ⟨((b' * W : Nat) : Int), ?_, ?_⟩
        · rw [IntWalk.i64_in _ (by push_cast at hlt hm ⊢; have : ((b' * W : Nat) : Int) ≤ 67108864 := by omega
                                   push_cast at this; omega)]; push_cast; rfl
        · rw [IntWalk.i64_in _ (by omega)]; rw [ht]; push_cast; rfl
      obtain ⟨s, e5, e6⟩ := e5
      have e7 : (t : Int) < bs.length := by omega
      have e8 : ((b * (W : Int)) + a).toNat = t := by
        subst ha' hb'
        rw [show ((b' : Int) * (W : Int) + (a' : Int)) = ((b' * W + a' : Nat) : Int) by push_cast; rfl, ht]; exact Int.toNat_natCast _
      obtain ⟨ad, rfl, hcell⟩ := g2.out.at_ (i := t * 64 + 0) (u := .int .i16 (dcs bs t)) (by omega) (by rw [bsC_get hc.out.bls t 0 (by omega) (by omega)]; rfl)
      rw [Nat.add_zero] at hcell
      have hdb := dcs_bounds hc.out.bls t
      have e9 : IntKind.i64.wrap (dcs bs t) = dcs bs t := IntWalk.i64_in _ (by omega)
      have hadB := g3.out ad rfl
      have hgl := g1.out.lt
      have hll := hl.out.lt
      have hsafe : ∀ w', Only (fun i => i = bl ∨ (Value.slice A0 k k0).ownBlock = some i) w w' → w'.cell? ⟨bg, 0, none⟩ = some (.int .i64 W) ∧ w'.cell? ⟨bg, 2, none⟩ = some (.slice (some ad) bs.length c) ∧ w'.cell? (ad.add (t * 64)) = some (.int .i16 (dcs bs t)) := fun w' hO => by
        have q1 : ¬ (bg = bl ∨ (Value.slice A0 k k0).ownBlock = some bg) := fun h => h.elim (fun h => by have := g1.out; rw [h] at this; have h2 := hl.out; unfold Blk at this h2; rw [h2] at this; simp at this) (own_blk ho.out g1.out (by decide))
        have q2 : ¬ ((ad.add (t * 64)).block = bl ∨ (Value.slice A0 k k0).ownBlock = some (ad.add (t * 64)).block) := by
          rw [block_add]
          exact fun h => h.elim (fun h => by omega) (fun h => by have := own_ge ho.out _ h; omega)
        exact ⟨(hO.cell hgl q1).trans c2, (hO.cell hgl q1).trans c4, (hO.cell (by rw [block_add]; omega) q2).trans hcell⟩
      replace hsafe := hsafe
      replace ht := Lib.hid ht
      replace e8 := Lib.hid e8
      replace hlen := Lib.hid hlen
      replace hf := Lib.hid hf
      replace hi := Lib.hid hi
      clear hlt hm ha' hb' hA hBb g00
      cases hh : hasB W H l a b
      · have hR : nb W H l (dcs bs) x y dx dy = some (dcs bs t, d) := by
          rw [← hT.out, hf.out, nbF_not (by rw [hab.out.1, hab.out.2]; exact hi.out) (by rw [hab.out.1, hab.out.2]; exact hh), hab.out.1, hab.out.2, e8.out]
        replace hR := Lib.hid hR
        clear hT
        have hS := hsafe
        have c8 : ∀ (n : Nat) (o : Obj), ((w.drewN n).alloc o).cell? ⟨bl, 0, none⟩ = some (.slice A0 k k0) := fun n o => (hl.out.only (((Only.refl No _).drewN _).alloc _) (fun h => h)).cell 0
        have q0 : ¬ ((Value.slice A0 k k0).ownBlock = some bl) := own_blk ho.out hl.out (by decide)
        go_wp2_with fail
        go_quiet (fail)
        go_wp2_with (go_at_call 25; refine (has25 _ _ _ _ _ _ (m2.out.drewN _) _ _).mono ?_; rintro e w' ⟨rfl, n2, rfl⟩; rw [hh])
        go_region_law ((refine step_append_any (by rfl) _ _ _ (by rfl) B 74 i0 _ 2 16 Try.underlying71 hi0 hz0 hz1 hz2 rfl (by omega) (.slice A0 k k0) k xs (by rfl) (own_only ho.out (((Only.refl No _).drewN _).alloc _) (fun _ _ => id)) (some ⟨w.heap.size, 0, none⟩) 1 1 [.int .i64 (dcs bs t), .int .i64 d] (by rfl) (Rds.fresh (t := 74) (cs := #[.int .i64 (dcs bs t), .int .i64 d]) (Blk.new (w.drewN _) 74 _) rfl) (by simp [Value.oneCell']) (by simp only [maxLen]; omega) (by omega) (by simp; omega) ?_; intro v1 w1 hown1 hon1' hat1; have hon1 : Only (fun i => (Value.slice A0 k k0).ownBlock = some i) w w1 := (((Only.refl _ _).drewN _).alloc _).trans hon1'; obtain ⟨A1, cc1, rfl⟩ := own_slice hown1; have c7 := (hl.out.only hon1 q0).cell 0; have f7 : w1.frozen? ⟨bl, 0, none⟩ = false := (hl.out.only hon1 q0).frozen 0))
        all_goals go_wp2_with fail
        all_goals
          refine bodyPost_ret (results_none rfl _ _ _) rfl ⟨rfl, ?_⟩
          rw [hR.out]
          have hb1 := hl.out.only hon1 q0
          refine ⟨.slice A1 (k + 1) cc1, hb1.set 0 _, own_only hown1 ((Only.refl (One bl) _).setCell (p := ⟨bl, 0, none⟩) (.inl rfl) _) (fun i hi h => own_blk hown1 hb1 (by decide) (by rw [← h]; exact hi)), (hon1.mono fun _ h => .inr h).setCell (.inl (.inl rfl)) _⟩
      · have hR : nbF W H l (dcs bs) x y dx dy (16384 + 1 - (d + 1)) (d + 1) = nb W H l (dcs bs) x y dx dy := by
          rw [← hT.out, hf.out, nbF_has (by rw [hab.out.1, hab.out.2]; exact hi.out) (by rw [hab.out.1, hab.out.2]; exact hh), show 16384 + 1 - (d + 1) = f by have := hf.out; omega]
        replace hR := Lib.hid hR
        clear hT
        go_wp2_with fail
        go_quiet (fail)
        go_wp2_with (go_at_call 25; refine (has25 _ _ _ _ _ _ (m2.out.drewN _) _ _).mono ?_; rintro e w' ⟨rfl, n2, rfl⟩; rw [hh])
        go_roundw
        case rel => exact ⟨d + 1, by go_num, by omega, by omega, hR, _, rfl⟩
        case measure => simp [intOf]; omega
end Go.Proofs.Ytnepchdpgbdogaa.Ct
