/- Maps of damage: take (a row of a rectangle). -/
import Derived.Test.YtclidonogebgkaaDg
namespace Go.Proofs.Ytclidonogebgkaa.Ct
open Go.ChangeShapes Go.WideShapes Go.RowKit Mm
theorem all_snoc {l : List Bool} {i : Nat} (h : i < l.length) (e : l.getD i false = true) (ha : (l.take i).all id = true) : (l.take (i + 1)).all id = true := by
  rw [List.take_succ_eq_append_getElem h, List.all_append, ha]
  have : l.getD i false = l[i] := by simp [h]
  rw [← this, e]
  rfl
theorem all_no {l : List Bool} {i : Nat} (h : i < l.length) (e : l.getD i false = false) : l.all id = false := by
  have h1 : l.getD i false = l[i] := by simp [h]
  rw [List.all_eq_false]
  exact ⟨l[i], List.getElem_mem h, by rw [← h1, e]; simp⟩
set_option maxHeartbeats 1000000 in
theorem index40 (w : World) (A : Option Addr) (c : Nat) (l : List Bool) (hr : Rds w 1 A l.length (boC l)) (hn : l.length ≤ 67108864) :
    Calls Try.prog 40 #[.slice A l.length c, .bool false] w fun e w' => (∃ v : Int, e = .returned (.int .i64 v) ∧ decide (0 ≤ v) = !(l.all id)) ∧ w' = w := by
  replace hr := Lib.hid hr
  go_enter Try.func40, Try.ntmps40
  go_wp2_with fail
  go_loopw [8] (fun v8 wr => ∃ i : Nat, v8 = .int .i64 i ∧ i ≤ l.length ∧ Hid ((l.take i).all id = true) ∧ wr = w) (fun v8 _ => l.length - (intOf v8).toNat)
  case atStart => exact ⟨0, rfl, by omega, Lib.hid rfl, rfl⟩
  case round =>
    obtain ⟨i, rfl, hi, ha, rfl⟩ := hrel
    by_cases hlt : i < l.length
    · have hlt' : (i : Int) < l.length := by omega
      obtain ⟨ad, rfl, hcell⟩ := hr.out.at_ (i := i) (by omega) (boC_get hlt)
      have hs := Lib.hid (fun e => all_snoc hlt e ha.out)
      have hno := Lib.hid (fun e => all_no hlt e)
      generalize l.getD i false = bb at hcell hs hno
      cases bb
      · have hx := hno.out rfl
        replace hx := Lib.hid hx
        go_wp2_with fail
        go_ret
        refine ⟨⟨_, rfl, ?_⟩, rfl⟩
        rw [hx.out]
        simp
      · have hx := hs.out rfl
        replace hx := Lib.hid hx
        go_wp2_with fail
        go_roundw
        case rel => exact ⟨i + 1, by go_num, by omega, Lib.hid hx.out, by trivial⟩
        case measure => simp [intOf]; omega
    · obtain rfl : i = l.length := by omega
      go_wp2_with fail
      go_ret
      refine ⟨⟨_, rfl, ?_⟩, rfl⟩
      have := ha.out
      rw [List.take_length] at this
      rw [this]
      simp
theorem contains35 (w : World) (A : Option Addr) (c : Nat) (l : List Bool) (hr : Rds w 1 A l.length (boC l)) (hn : l.length ≤ 67108864) :
    Calls Try.prog 35 #[.slice A l.length c, .bool false] w fun e w' => e = .returned (.bool (!(l.all id))) ∧ w' = w := by
  have hix := Lib.hid (index40 w A c l hr hn)
  clear hr
  go_enter Try.func35, Try.ntmps35
  go_wp2_with fail
  refine hix.out.mono ?_
  rintro e w1 ⟨⟨v, rfl, hv⟩, rfl⟩
  replace hv := Lib.hid hv
  go_wp2_with fail
  go_ret
  exact ⟨by rw [← hv.out]; first | rfl | simp, rfl⟩
/-- a part of the row is filled -/
def fillL (l : List Bool) (k m : Nat) : List Bool := l.take k ++ List.replicate m false ++ l.drop (k + m)
theorem fillL_len {l : List Bool} {k m : Nat} (h : k + m ≤ l.length) : (fillL l k m).length = l.length := by simp [fillL]; omega
theorem fillL_get {l : List Bool} {k m : Nat} (h : k + m ≤ l.length) (i : Nat) : (fillL l k m).getD i false = (if k ≤ i ∧ i < k + m then false else l.getD i false) := by
  unfold fillL
  by_cases h1 : i < k
  · rw [if_neg (by omega), List.append_assoc]
    simp only [List.getD_eq_getElem?_getD]
    rw [List.getElem?_append_left (by simp; omega), List.getElem?_take, if_pos h1]
  · by_cases h2 : i < k + m
    · rw [if_pos (by omega)]
      simp only [List.getD_eq_getElem?_getD]
      rw [List.getElem?_append_left (by simp; omega), List.getElem?_append_right (by simp; omega)]
      simp [List.getElem?_replicate]
      split <;> rfl
    · rw [if_neg (by omega)]
      simp only [List.getD_eq_getElem?_getD]
      rw [List.getElem?_append_right (by simp; omega)]
      congr 1
      simp only [List.length_append, List.length_take, List.length_replicate, List.getElem?_drop]
      congr 1
      omega
theorem putL_fill : ∀ (m k : Nat) (l : List Bool), k + m ≤ l.length → putL (boC l) k (List.replicate m (.bool false)) = boC (fillL l k m) := by
  intro m
  induction m with
  | zero => intro k l h; simp only [List.replicate_zero, putL, fillL, List.append_nil, Nat.add_zero, List.take_append_drop]
  | succ m ih =>
    intro k l h
    rw [List.replicate_succ]
    show putL ((boC l).set k (.bool false)) (k + 1) _ = _
    rw [← boC_set, ih (k + 1) (l.set k false) (by simp; omega)]
    congr 1
    unfold fillL
    rw [List.take_succ_eq_append_getElem (by simp; omega), List.take_set_of_le (by omega), List.drop_set_of_lt (by omega)]
    simp [List.replicate_succ, show k + 1 + m = k + (m + 1) by omega]
/-- the builtin clear, on a part of a row of the call's own -/
theorem run_clear_part {w : World} {A : Option Addr} {c : Nat} {l : List Bool} (h : w.ownsRow 0 4 1 (.slice A l.length c) l.length (boC l)) {k m : Nat} (hm : 0 < m) (hk : k + m ≤ l.length) (ty : TypeId) (cc : Nat) :
    ∃ b, A = some ⟨b, 0, none⟩ ∧ ∃ w', (Builtin.clear_ #[22] ty #[.slice (some ⟨b, k, none⟩) m cc]).run Try.prog w = .ok (.tuple #[]) w' ∧ w'.ownsRow 0 4 1 (.slice A l.length c) l.length (boC (fillL l k m)) ∧ Only (One b) w w' := by
  obtain ⟨g, rfl⟩ : ∃ g, A = some ⟨g, 0, none⟩ := by
    rcases h.2 with ⟨_, h1⟩ | ⟨g', cap, cur, hv, _⟩
    · omega
    · injection hv with hA; exact ⟨g', hA⟩
  have hc : ∀ j, j < m → (w.cell? ⟨g, k + j, none⟩).isSome = true := fun j hj => by
    have := h.cells rfl (k + j) _ (boC_get (by omega))
    rw [Mm.add_plain] at this
    rw [this]; rfl
  have hf : ∀ j, j < m → w.frozen? ⟨g, k + j, none⟩ = false := fun j _ => h.frozenAt (k + j)
  have hr := Lib.run_clear_slice (P := Try.prog) w 22 4 ty (.bool false) Try.underlying22 zero4 rfl rfl g k m cc hm hc hf
  have ho := own_setCells (g := g) (List.replicate m (.bool false)) k w (boC l) h
  rw [putL_fill m k l hk] at ho
  exact ⟨g, rfl, _, hr, ho.1, ho.2⟩
/-- are all of the part flagged -/
def okR (l : List Bool) (k m : Nat) : Bool := ((l.drop k).take m).all id
/-- a rectangle as it is handed over -/
abbrev BxV (x y a b : Nat) : Value := .agg #[.int .i64 x, .int .i64 y, .int .i64 a, .int .i64 b]
set_option maxHeartbeats 1000000 in
theorem take26_out {w : World} {g : Nat} {A : Option Addr} {c W H n : Nat} {l : List Bool} (h : MapN w g A c W H l n) (x y a b : Nat) (hy : y + b ≤ 8192) (hH : H ≤ y + b) :
    Calls Try.prog 26 #[P g, BxV x y a b] w fun e w' => e = .returned (.bool false) ∧ Only No w w' := by
  obtain ⟨c0, c1, c2, c3⟩ := h.cells
  have hl := h.blk.lt
  replace h := Lib.hid h
  have e1 : IntKind.i64.wrap ((y : Int) + (b : Int)) = ((y + b : Nat) : Int) := by rw [IntWalk.i64_in _ (by omega)]; push_cast; rfl
  have hh : ((H : Nat) : Int) ≤ ((y + b : Nat) : Int) := by omega
  generalize y + b = yy at *
  go_enter Try.func26, Try.ntmps26
  go_wp2_with fail
  go_ret
  exact ⟨rfl, (Only.refl No w).alloc _⟩
theorem own_cap {w : World} {A : Option Addr} {c n : Nat} {xs : List Value} (h : w.ownsRow 0 4 1 (.slice A n c) n xs) : n ≤ c := by
  rcases h.2 with ⟨h1, h0⟩ | ⟨g', cap, cur, hv, _, hg, hx⟩
  · omega
  · injection hv with _ _ h3
    subst h3
    exact hx.1
theorem place2 {w : World} {g : Nat} {A : Option Addr} {c W H n : Nat} {l : List Bool} (h : MapN w g A c W H l n) {x m yy : Nat} (hx : x + m ≤ W) (hy : yy < H) : yy * W + x + m ≤ l.length ∧ yy * W ≤ 67108864 := by
  have hlt : yy * W + x + m ≤ W * H := by
    have : yy * W + W ≤ H * W := by rw [← Nat.succ_mul]; exact Nat.mul_le_mul_right _ hy
    rw [Nat.mul_comm W H]; omega
  have := h.len
  have := h.le
  omega
set_option maxHeartbeats 1000000 in
theorem take26_in {w : World} {g : Nat} {A : Option Addr} {c W H n : Nat} {l : List Bool} (h : MapN w g A c W H l n) (x y a b : Nat) (ha : 0 < a) (hx : x + a ≤ W) (hH : y + b < H) :
    Calls Try.prog 26 #[P g, BxV x y a b] w fun e w' => if okR l ((y + b) * W + x) a = true then (e = .returned (.bool true) ∧ MapN w' g A c W H (fillL l ((y + b) * W + x) a) n ∧ Only (Sm g A) w w') else (e = .returned (.bool false) ∧ Only No w w') := by
  obtain ⟨c0, c1, c2, c3⟩ := h.cells
  have hl := h.blk.lt
  have hpl := place2 h hx hH
  have hle := h.le
  have hcap := own_cap h.own
  obtain ⟨bk, rfl, hcl⟩ := run_clear_part (w := w) h.own ha hpl.1 0 (c - ((y + b) * W + x))
  replace h := Lib.hid h
  have hW : W ≤ 8192 := h.out.w8
  have hH8 : H ≤ 8192 := h.out.h8
  have e1 : IntKind.i64.wrap ((y : Int) + (b : Int)) = ((y + b : Nat) : Int) := by rw [IntWalk.i64_in _ (by omega)]; push_cast; rfl
  have hh : ¬ ((H : Nat) : Int) ≤ ((y + b : Nat) : Int) := by omega
  have e2 : IntKind.i64.wrap (((y + b : Nat) : Int) * (W : Int)) = (((y + b) * W : Nat) : Int) := by rw [IntWalk.i64_in _ (by rw [← Int.natCast_mul]; omega), ← Int.natCast_mul]
  have e3 : IntKind.i64.wrap ((((y + b) * W : Nat) : Int) + (x : Int)) = (((y + b) * W + x : Nat) : Int) := by rw [IntWalk.i64_in _ (by omega)]; push_cast; rfl
  clear hcl
  have hsub : ∀ w', Only No w w' → Rds w' 1 (some ⟨bk, (y + b) * W + x, none⟩) a (boC ((l.drop ((y + b) * W + x)).take a)) := fun w' ho => by
    refine ⟨by simp [boC]; omega, fun _ => ⟨_, rfl, ?_, fun j u hu => ?_⟩⟩
    · have := (h.out.no ho).lt bk (.inr ⟨_, rfl, rfl⟩)
      exact this
    · have hj := (List.getElem?_eq_some_iff.1 hu).1
      simp only [boC_length, List.length_take, List.length_drop] at hj
      obtain ⟨ad, e, hc⟩ := (h.out.no ho).rds.at_ (i := (y + b) * W + x + j) (by omega) (boC_get (by omega))
      injection e with e
      subst e
      rw [Mm.add_plain] at hc
      have e4 : (⟨bk, (y + b) * W + x, none⟩ : Addr).add j = ⟨bk, (y + b) * W + x + j, none⟩ := by
        unfold Addr.add; split <;> simp_all
      rw [e4, hc]
      rw [← hu]
      simp [boC, List.getElem?_drop, show j < a by omega]
      rw [List.getElem?_eq_getElem (by omega)]
      simp
  have hlen : ((l.drop ((y + b) * W + x)).take a).length = a := by rw [List.length_take, List.length_drop]; omega
  replace hsub := Lib.hid hsub
  replace hlen := Lib.hid hlen
  have hdef : okR l ((y + b) * W + x) a = (((l.drop ((y + b) * W + x)).take a)).all id := rfl
  replace hdef := Lib.hid hdef
  generalize hok : okR l ((y + b) * W + x) a = ok at *
  generalize y + b = yy at *
  generalize yy * W + x = k at *
  generalize yy * W = j at *
  go_enter Try.func26, Try.ntmps26
  go_wp2_with fail
  go_quiet (fail)
  obtain ⟨w1, hw1⟩ : ∃ w1, w1 = (w.alloc (.cells #[.int .i64 x, .int .i64 y, .int .i64 a, .int .i64 b] 31)).drewN nq := ⟨_, rfl⟩
  have o1 : Hid (Only No w w1) := Lib.hid (by rw [hw1]; exact ((Only.refl No w).alloc _).drewN _)
  rw [← hw1]
  clear hw1
  have hct := contains35 w1 (some ⟨bk, k, none⟩) (c - k) ((l.drop k).take a) (by rw [hlen.out]; exact hsub.out w1 o1.out) (by rw [hlen.out]; omega)
  rw [hlen.out, ← hdef.out] at hct
  replace hct := Lib.hid hct
  obtain ⟨b', e, w3, hrun, own3, o3⟩ := run_clear_part (w := w1) (h.out.no o1.out).own ha hpl.1 0 (c - k)
  obtain rfl : bk = b' := by injection e with e; injection e
  replace own3 := Lib.hid own3
  replace o3 := Lib.hid o3
  clear e hsub hlen hdef
  cases ok
  · go_wp2_with fail
    refine hct.out.mono ?_
    rintro e w2 ⟨rfl, rfl⟩
    go_wp2_with fail
    go_ret
    exact ⟨rfl, o1.out⟩
  · go_wp2_with fail
    refine hct.out.mono ?_
    rintro e w2 ⟨rfl, rfl⟩
    go_wp2_with fail
    go_ret
    have hne : bk ≠ g := h.out.ne _ rfl
    have hle2 := fillL_len hpl.1
    refine ⟨rfl, ⟨?_, ?_, ?_, h.out.w8, h.out.h8⟩, (o1.out.mono fun _ h => h.elim).trans (o3.out.mono fun i hi => .inr ⟨_, rfl, hi.symm⟩)⟩
    · have := (h.out.no o1.out).blk.only o3.out (fun e => hne (show g = bk from e).symm)
      unfold mapC at this ⊢
      rw [hle2]
      exact this
    · rw [hle2]
      exact own3.out
    · rw [hle2]
      exact h.out.len
end Go.Proofs.Ytclidonogebgkaa.Ct
