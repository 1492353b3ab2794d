/- spoil: slots are written over, and gone on with. -/
import Derived.Test.YtdbidojncboalaaHelp
import Derived.Test.YtdbidojncboalaaOpn
import Derived.Laws.OwnMore
import Derived.Deep.Onto
namespace Go.Proofs.Ytdbidojncboalaa.Ct
open Go.ChangeShapes Go.WideShapes Go.RowKit Mm Rs

theorem slC_set (l : List Slot) (i : Nat) (a b : Int) : ((slC l).set (i * 2) (.int .i64 a)).set (i * 2 + 1) (.int .i8 b) = slC (l.set i (a, b)) := by
  induction l generalizing i with
  | nil => simp [slC]
  | cons x l ih =>
    cases i with
    | zero => rfl
    | succ i =>
      have := ih i
      simp only [slC, List.flatMap_cons, List.set_cons_succ] at this ⊢
      rw [← this, show (i + 1) * 2 = i * 2 + 1 + 1 by omega]
      rfl
theorem rep_step (l : List Slot) (i : Nat) (x : Slot) (h : i < l.length) : (List.replicate i x ++ l.drop i).set i x = List.replicate (i + 1) x ++ l.drop (i + 1) := by
  rw [List.drop_eq_getElem_cons h, List.set_append_right _ _ (by simp), List.length_replicate, Nat.sub_self, List.set_cons_zero, List.replicate_succ', List.append_assoc]
  rfl

section
variable {P : Program} (w : World)
/-- one element more, of a row of the call's own that came in: the row, the frame and the old row together -/
theorem wpList_append_two {ops : Array Oper} {rest : List Oper} {o : Oper} {a : Act} {Q : Exit → Act → World → Prop} (hgd : o.guard = none) (s x : Operand) (t : TypeId)
    (ho : o.op = .call { callee := .builtin .append, args := #[s, x], argTypes := #[t, t] })
    (base : Nat) (e : TypeId) (i : TypeInfo) (z : Value) (size bytes : Nat) (ht : P.underlying t = some (.slice e)) (hi : P.info? e = some i) (hz : i.zero = some z)
    (hsize : i.size = size) (hby : i.bytes = bytes) (hzs : z.cells.size = size) (hsz : 0 < size)
    (v : Value) (n : Nat) (xs : List Value) (hs : a.eval s = v) (hown : w.ownsRow base e size v n xs)
    {W : World} {ao : Option Addr} {b off len cap m : Nat} {olds ks : List Value} (hc : Came W size ao b off len cap olds) (hon : Onto W e size ao b off len cap olds w v m ks) (hn : n = len + m)
    (ad : Addr) (c : Nat) (news : List Value) (hx : a.eval x = .slice (some ad) 1 c) (hl : news.length = 1 * size) (hnews : ∀ j u, news[j]? = some u → w.cell? (ad.add j) = some u) (h1 : ∀ u ∈ news, u.oneCell' = true)
    (h63 : n + 1 ≤ maxLen) (hbytes : (n + 1) * bytes ≤ 140737488355328) (hbase : base ≤ w.heap.size)
    (h : ∀ v' w', w'.ownsRow base e size v' (n + 1) (xs ++ news) → Only (fun k => v.ownBlock = some k) w w' → (v'.ownBlock = v.ownBlock ∨ v'.ownBlock = some w.heap.size) →
      Onto W e size ao b off len cap olds w' v' (m + 1) (ks ++ news) → wpList P ops Q rest (a.put o.dst v') w') : wpList P ops Q (o :: rest) a w := by
  refine wpList_plain hgd fun K hK => ?_
  obtain ⟨v', w', hrun, h2, h3, _, h4⟩ := run_append_own_at (P := P) w base t o.type e i z size bytes ht hi hz hsize hby hzs hsz v n xs hown ad 1 c news hl hnews h1 h63 hbytes hbase
  obtain ⟨v2, w2, hrun2, h5⟩ := run_append_onto (P := P) hc t o.type i z bytes ht hi hz hsize hby hzs hsz hon ad c news hl hnews h1 (by omega) (by rw [← hn]; exact hbytes)
  have hee := hrun.symm.trans hrun2
  injection hee with e1 e2
  subst e1 e2
  unfold Oper.wp execOp
  simp only [ho, resolve, invoke, builtin, Sem.run_bind, Sem.run_pure, Result.andThen_ok, List.map_toArray, List.map_cons, List.map_nil, hs, hx, hrun]
  exact hK _ _ (h v' w' h2 (Only.of_grown h3) h4 h5)
end
/-- the row of a slice, as one that came in -/
theorem came_of_own {w : World} {base : Nat} {g c N : Nat} {xs : List Value} (h : w.ownsRow base 48 2 (.slice (some ⟨g, 0, none⟩) N c) N xs) : Came w 2 (some ⟨g, 0, none⟩) g 0 N c xs := by
  rcases h.2 with ⟨h', _⟩ | ⟨g', cap', cur, h', hb, hg, hnc, hcm, hcs, htake⟩
  · simp at h'
  · simp only [Value.slice.injEq, Option.some.injEq, Addr.mk.injEq, and_true, true_and] at h'
    obtain ⟨rfl, rfl⟩ := h'
    refine ⟨hnc, fun _ => rfl, fun _ => (Array.getElem?_eq_some_iff.1 hg).1, h.1, fun j u hu => ?_, fun j hj => ?_⟩
    · have := h.cells (g := g) rfl j u hu
      rw [Mm.add_plain] at this
      simpa using this
    · rw [cell_of_row w g _ cur 48 (0, 0) hg]
      refine ⟨?_, frozen_of_row w g _ cur 48 hg⟩
      rw [Nat.sub_mul] at hj
      rw [Array.getElem?_eq_getElem (by omega)]
      rfl
def Spoilt (A : Option Addr) (N : Nat) (mk : Int) (v : Value) (w : World) (e : Ending) (w' : World) : Prop :=
  ∃ A' c', e = .returned (.slice A' (N + 20) c') ∧ Rds w' 2 A' (N + 20) (slC (List.replicate (N + 20) (mk, 0))) ∧ Rds w' 2 A N (slC (List.replicate N (mk, 0))) ∧ Only (fun k => v.ownBlock = some k) w w' ∧
    ∀ k, (Value.slice A' (N + 20) c').ownBlock = some k → v.ownBlock = some k ∨ w.heap.size ≤ k
theorem rds_onto {W w : World} {g c N m : Nat} {v : Value} {x y : List Slot} (hc : Came W 2 (some ⟨g, 0, none⟩) g 0 N c (slC x)) (h : Onto W 48 2 (some ⟨g, 0, none⟩) g 0 N c (slC x) w v m (slC y)) (hx : x.length = N) : Rds w 2 (some ⟨g, 0, none⟩) N (slC x) := by
  refine ⟨by rw [slC_len, hx], fun h0 => ⟨_, rfl, ?_, fun j u hu => ?_⟩⟩
  · exact Nat.lt_of_lt_of_le (hc.lt (by have := hc.le; omega)) h.kept.size
  · have hj := (List.getElem?_eq_some_iff.1 hu).1
    rw [slC_len] at hj
    rw [Mm.add_plain, h.old (hc.lt (by have := hc.le; omega)) (fun j' _ _ hh => by omega)]
    have := hc.olds j u hu
    simpa using this
theorem rds_value {W w : World} {ao : Option Addr} {b off c N m : Nat} {v : Value} {x y : List Slot} (hc : Came W 2 ao b off N c (slC x)) (h : Onto W 48 2 ao b off N c (slC x) w v m (slC y)) (hm : c ≤ maxLen) (hx : x.length = N) (hy : y.length = m) (h0 : 0 < m) : ∃ A' c', v = .slice A' (N + m) c' ∧ Rds w 2 A' (N + m) (slC (x ++ y)) := by
  obtain ⟨g, o', cap', rfl, _, _, hcell⟩ := h.value hc hm (.inr h0)
  refine ⟨_, _, rfl, by rw [slC_len, List.length_append, hx, hy], fun _ => ⟨_, rfl, ?_, fun j u hu => ?_⟩⟩
  · have := hcell 0 (by omega)
    rw [← slC_append, List.getElem?_eq_getElem (by rw [slC_len, List.length_append]; omega)] at this
    exact cell_lt this
  · have hj := (List.getElem?_eq_some_iff.1 hu).1
    rw [slC_len, List.length_append, hx, hy] at hj
    have := hcell j hj
    rw [← slC_append, hu] at this
    rw [WideShapes.add_plain]
    exact this
set_option maxRecDepth 100000 in
set_option maxHeartbeats 3200000 in
theorem spoil_some (b g c : Nat) (l : List Slot) (N : Nat) (mk : Int) (w : World) (ha : w.ownsRow b 48 2 (.slice (some ⟨g, 0, none⟩) N c) N (slC l)) (hl : l.length = N) (hN : N ≤ 1048576) (hb : b ≤ w.heap.size) (hc : c ≤ maxLen) :
    Calls Try.prog 16 #[.slice (some ⟨g, 0, none⟩) N c, .int .i64 mk] w (Spoilt (some ⟨g, 0, none⟩) N mk (.slice (some ⟨g, 0, none⟩) N c) w) := by
  obtain ⟨i0, hi0, hz0, hz1, hz2⟩ := info_parts info48
  have HA := Lib.hid ha
  have HL := Lib.hid hl
  clear ha hl
  go_enter Try.func16, Try.ntmps16
  go_wp2
  go_loopw [5] (fun v5 wr => ∃ i : Nat, v5 = .int .i64 i ∧ i ≤ N ∧ Hid (wr.ownsRow b 48 2 (.slice (some ⟨g, 0, none⟩) N c) N (slC (List.replicate i (mk, 0) ++ l.drop i)) ∧ Only (One g) w wr)) (fun v5 _ => N - (intOf v5).toNat)
  case atStart => exact ⟨0, rfl, by omega, by simpa using HA.out, Only.refl _ _⟩
  case round =>
    obtain ⟨i, rfl, hi, hO⟩ := hrel
    by_cases hlt : i < N
    · have hlt' : (i : Int) < N := by omega
      have f0 := hO.out.1.frozenAt (i * 2)
      have f1 := hO.out.1.frozenAt (i * 2 + 1)
      have hlen : (List.replicate i (mk, (0 : Int)) ++ l.drop i).length = N := by rw [List.length_append, List.length_replicate, List.length_drop, HL.out]; omega
      obtain ⟨u0, hu0⟩ : ∃ u, wr.cell? ⟨g, i * 2, none⟩ = some u := by
        rw [hO.out.1.cellAt (i * 2) (by omega)]
        exact ⟨_, (slC_get _ i (by omega)).1⟩
      obtain ⟨u1, hu1⟩ : ∃ u, wr.cell? ⟨g, i * 2 + 1, none⟩ = some u := by
        rw [hO.out.1.cellAt (i * 2 + 1) (by omega)]
        exact ⟨_, (slC_get _ i (by omega)).2⟩
      clear hlen
      go_wp2
      go_roundw
      case rel => exact ⟨i + 1, by go_num, by omega, by
        have h1 := ((hO.out.1.stored (i * 2) (.int .i64 mk)).1.stored (i * 2 + 1) (.int .i8 0)).1
        rw [slC_set, rep_step l i (mk, 0) (by rw [HL.out]; exact hlt)] at h1
        exact h1, only_set (only_set hO.out.2 _ _) _ _⟩
      case measure => simp [intOf]; omega
    · have hlt' : ¬ (i : Int) < N := by omega
      have hiN : i = N := by omega
      obtain ⟨w1, rfl⟩ : ∃ w1 : World, w1 = wr := ⟨_, rfl⟩
      have hown : Hid (w1.ownsRow b 48 2 (.slice (some ⟨g, 0, none⟩) N c) N (slC (List.replicate N (mk, 0)))) := Lib.hid (by
        have := hO.out.1
        rw [hiN, List.drop_of_length_le (by rw [HL.out]; omega), List.append_nil] at this
        exact this)
      have hcame := Lib.hid (came_of_own hown.out)
      have hon1 := Lib.hid hO.out.2
      have hb1 : Hid (b ≤ w1.heap.size) := Lib.hid (by have := hO.out.2.size; omega)
      clear hiN hi hlt hO
      go_wp2
      go_loopw [0, 6] (fun v0 v6 wr => ∃ j : Nat, v6 = .int .i64 j ∧ j ≤ 20 ∧ Hid (wr.ownsRow b 48 2 v0 (N + j) (slC (List.replicate (N + j) (mk, 0))) ∧ Only (One g) w wr ∧ Onto w1 48 2 (some ⟨g, 0, none⟩) g 0 N c (slC (List.replicate N (mk, 0))) wr v0 j (slC (List.replicate j (mk, 0))) ∧ (v0.ownBlock = some g ∨ ∀ k, v0.ownBlock = some k → w1.heap.size ≤ k))) (fun _ v6 _ => 20 - (intOf v6).toNat)
      case atStart => exact ⟨0, rfl, by omega, hown.out, hon1.out, Onto.start hcame.out, .inl rfl⟩
      case round =>
        obtain ⟨j, rfl, hj, hR⟩ := hrel
        by_cases hlt : j < 20
        · have hlt' : (j : Int) < 20 := by omega
          obtain ⟨A0, c0, rfl⟩ := own_slice hR.out.1
          have hsz : Hid (b ≤ wr.heap.size) := Lib.hid (by have := hR.out.2.1.size; omega)
          go_wp2_with (at_builtin; go_loud (refine wpList_append_two _ rfl (.tmp 22) (.tmp 25) _ rfl b 48 i0 _ 2 16 Try.underlying28 hi0 hz0 hz1 hz2 rfl (by omega) (.slice A0 (N + j) c0) (N + j) (slC (List.replicate (N + j) (mk, 0))) rfl (hR.out.1.alloc _) hcame.out (hR.out.2.2.1.alloc hcame.out _) rfl ⟨wr.heap.size, 0, none⟩ 1 [.int .i64 mk, .int .i8 0] rfl rfl (fun j u hu => by rw [Mm.add_plain, (Blk.new wr 48 #[.int .i64 mk, .int .i8 0]).cell]; simpa using hu) (by simp [Value.oneCell']) (by simp only [maxLen]; omega) (by omega) (by have := hsz.out; simp; omega) ?_); intro v4 w4 hown4 hon4 hat4 honto4)
          have hx : N + (j + 1) = N + j + 1 := by omega
          have hnew : Hid (w4.ownsRow b 48 2 v4 (N + (j + 1)) (slC (List.replicate (N + (j + 1)) (mk, 0)))) := Lib.hid (by rw [hx, slC_succ]; exact hown4)
          have honto : Hid (Onto w1 48 2 (some ⟨g, 0, none⟩) g 0 N c (slC (List.replicate N (mk, 0))) w4 v4 (j + 1) (slC (List.replicate (j + 1) (mk, 0)))) := Lib.hid (by rw [slC_succ]; exact honto4)
          have h1w : Hid (w.heap.size ≤ w1.heap.size) := Lib.hid hon1.out.size
          have h2w : Hid (w1.heap.size ≤ wr.heap.size) := Lib.hid hR.out.2.2.1.kept.size
          have honly : Hid (Only (One g) w w4) := Lib.hid ((hR.out.2.1.alloc _).then hon4 (fun k hk => by
            rcases hR.out.2.2.2 with h | h
            · left; rw [h] at hk; injection hk with hk; exact hk.symm
            · right; have := h k hk; have := h1w.out; omega))
          have hblk : Hid (v4.ownBlock = some g ∨ ∀ k, v4.ownBlock = some k → w1.heap.size ≤ k) := Lib.hid (by
            rcases hat4 with h | h
            · rcases hR.out.2.2.2 with h' | h'
              · left; rw [h]; exact h'
              · right; intro k hk; rw [h] at hk; exact h' k hk
            · right; intro k hk; rw [h] at hk; injection hk with hk; have := h2w.out; simp at hk; omega)
          clear hown4 hon4 hat4 honto4 hx
          go_roundw
          case rel => exact ⟨j + 1, by go_num, by omega, hnew.out, honly.out, honto.out, hblk.out⟩
          case measure => simp [intOf]; omega
        · have hlt' : ¬ (j : Int) < 20 := by omega
          obtain rfl : j = 20 := by omega
          have hr1 : Hid (Rds wr 2 (some ⟨g, 0, none⟩) N (slC (List.replicate N (mk, 0)))) := Lib.hid (rds_onto hcame.out hR.out.2.2.1 (by simp))
          obtain ⟨A', c', rfl, hr2⟩ := rds_value hcame.out hR.out.2.2.1 hc (by simp) (by simp) (by omega)
          rw [List.replicate_append_replicate] at hr2
          have hr2 := Lib.hid hr2
          have honly := Lib.hid hR.out.2.1
          have hwhere := Lib.hid (show ∀ k, (Value.slice A' (N + 20) c').ownBlock = some k → (Value.slice (some ⟨g, 0, none⟩) N c).ownBlock = some k ∨ w.heap.size ≤ k from fun k hk => by
            rcases hR.out.2.2.2 with h | h
            · left; rw [h] at hk; exact hk
            · right; exact Nat.le_trans hon1.out.size (h k hk))
          clear hR
          go_wp2
          go_ret
          exact ⟨A', c', rfl, hr2.out, hr1.out, honly.out.mono fun k hk => by rw [show k = g from hk]; rfl, hwhere.out⟩
end Go.Proofs.Ytdbidojncboalaa.Ct
