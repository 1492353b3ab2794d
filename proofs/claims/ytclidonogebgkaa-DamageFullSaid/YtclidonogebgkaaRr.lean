/- Maps of damage: Read. -/
import Derived.Test.YtclidonogebgkaaRo
import Derived.Deep.DeepCutAuto
import Derived.Deep.CutRange
namespace Go.Proofs.Ytclidonogebgkaa.Ct
open Go.ChangeShapes Go.WideShapes Go.RowKit Go.Shelf Mm
attribute [local go_sem] Oper.semAt_some
theorem step_append {F : Fence} {nF : Nat} {ops : Array Oper} {a : Act} {w w' : World} {K : Act → World → Prop} {Q : Exit → Act → World → Prop} {E : Prop} {s x : Operand} {d : Option Tmp} {p : String} {af : Array Edge} {v u v' : Value} (hs : a.eval s = v) (hx : a.eval x = u)
    (hrun : (Builtin.append_ #[22, 22] 22 #[v, u]).run Try.prog w = .ok v' w') (h : K (a.put d v') w') :
    if Region.wanted ⟨d, .call { callee := .builtin .append, args := #[s, x], argTypes := #[22, 22] }, 22, p, af, none⟩ (yielded ops a.tmps) = true then Oper.wpIn F nF Try.prog ⟨d, .call { callee := .builtin .append, args := #[s, x], argTypes := #[22, 22] }, 22, p, af, none⟩ a w K Q else E := by
  rw [if_pos (by simp [Region.wanted])]
  unfold Oper.wpIn
  refine ⟨by simp [Oper.about, resolve, Target.leads, Sem.run_pure], ?_⟩
  rw [Oper.semAt_plain F _ _ (by intro c hc'; cases hc')]
  simp [execOp, resolve, invoke, builtin, hs, hx, hrun, Result.andThen]
  exact h
theorem beq_of_nat {b : UInt8} (h : ((b.toNat : Int) == 35) = true) : b = 35 := by
  have h1 : (b.toNat : Int) = 35 := by simpa using h
  have h2 : b.toNat = 35 := by omega
  exact UInt8.toNat_inj.1 (by rw [h2]; rfl)
theorem beq_of_nat' {b : UInt8} (h : ((b.toNat : Int) == 46) = true) : b = 46 := by
  have h1 : (b.toNat : Int) = 46 := by simpa using h
  have h2 : b.toNat = 46 := by omega
  exact UInt8.toNat_inj.1 (by rw [h2]; rfl)
/-- what Read answers -/
def ReadPost (w : World) (ls : List Ln) (e : Ending) (w' : World) : Prop :=
  match rdL ls with
  | none => e = .returned (.tuple #[.pointer none, .int .i64 310]) ∧ Only No w w'
  | some st => if st.H ≤ 8192 then ∃ G A c, e = .returned (.tuple #[P G, .int .i64 0]) ∧ Only No w w' ∧ (∀ k, Sm G A k → w.heap.size ≤ k) ∧ MapAt w' G A c st.W st.H st.l else e = .returned (.tuple #[.pointer none, .int .i64 120]) ∧ Only No w w'
/-- the reading is under way -/
def RI (w : World) (B b2 b3 b4 R : Nat) (pre : List Ln) (V : World) : Prop :=
  Hid (∃ st Lv, rdL pre = some st ∧ Blk V R 54 #[.int .i64 st.W, .int .i64 st.H, Lv, .int .i64 ((0 : Nat) : Int)] ∧ V.ownsRow B 4 1 Lv st.l.length (boC st.l) ∧
    Blk V b2 24 #[.pointer none] ∧ Blk V b3 33 #[.int .i64 ((0 : Nat) : Int)] ∧ Blk V b4 24 #[P R] ∧ Only No w V ∧ B ≤ V.heap.size)
/-- it has failed -/
def RX (w : World) (b2 b3 : Nat) (pre : List Ln) (V : World) : Prop :=
  Hid (rdL pre = none ∧ Blk V b2 24 #[.pointer none] ∧ Blk V b3 33 #[.int .i64 310] ∧ Only No w V)
theorem RX.own {w : World} {B b2 b3 : Nat} (h2 : b2 < B) (h3 : b3 < B) (hw : w.heap.size ≤ B) : OwnFrom B (RX w b2 b3) := by
  rintro ys V V' row ⟨hn, k2, k3, ho⟩ hg hr
  have o := Only.of_grown hg
  refine ⟨hn, k2.only o fun e => ?_, k3.only o fun e => ?_, ho.then o fun i hi => .inr (Nat.le_trans hw (hr i hi).1)⟩
  · have := (hr _ e).1
    omega
  · have := (hr _ e).1
    omega
theorem RI.own {w : World} {B b2 b3 b4 R : Nat} (h2 : b2 < B) (h3 : b3 < B) (h4 : b4 < B) (hR : R < B) (hw : w.heap.size ≤ B) : OwnFrom B (RI w B b2 b3 b4 R) := by
  rintro ys V V' row ⟨st, Lv, hn, kR, kO, k2, k3, k4, ho, hsz⟩ hg hr
  have o := Only.of_grown hg
  have ne : ∀ k, k < B → ¬ row = some k := fun k hk e => by
    have := (hr _ e).1
    omega
  refine ⟨st, Lv, hn, kR.only o (ne _ hR), own_only kO o fun i hi e => ?_, k2.only o (ne _ h2), k3.only o (ne _ h3), k4.only o (ne _ h4), ho.then o fun i hi => .inr (Nat.le_trans hw (hr i hi).1), Nat.le_trans hsz o.size⟩
  obtain ⟨_, ob, h1, h5⟩ := hr i e
  obtain ⟨cs, t, m, e2⟩ := own_cellsObj kO i hi
  rw [e2] at h1
  cases h1
  cases h5
theorem RI.box {w : World} {B b1 b2 b3 b4 R : Nat} (h1 : b1 < B) (h2 : b2 ≠ b1) (h3 : b3 ≠ b1) (h4 : b4 ≠ b1) (hR : R ≠ b1) (hw : w.heap.size ≤ b1) (pre : List Ln) (V V' : World) (h : RI w B b2 b3 b4 R pre V) (o : Only (One b1) V V') : RI w B b2 b3 b4 R pre V' := by
  obtain ⟨st, Lv, hn, kR, kO, k2, k3, k4, ho, hsz⟩ := h.out
  refine ⟨st, Lv, hn, kR.only o hR, own_only kO o fun i hi e => ?_, k2.only o h2, k3.only o h3, k4.only o h4, ho.then o fun i hi => .inr (by have hi : i = b1 := hi; omega), Nat.le_trans hsz o.size⟩
  have := own_ge kO i hi
  have e : i = b1 := e
  omega
theorem results_two {fn : Func} {p u : Tmp} {ty tu : TypeId} (h : fn.results = #[.cell p ty, .cell u tu]) (tmps : Array Value) (P : Program) (w : World) :
    (results fn tmps).run P w =
      ((asAddr (tmps.getD p undef)).run P w).andThen fun a w₁ => ((loadVar ty a).run P w₁).andThen fun v w₂ => ((asAddr (tmps.getD u undef)).run P w₂).andThen fun b w₃ => ((loadVar tu b).run P w₃).andThen fun x w₄ => .ok (.tuple #[v, x]) w₄ := by
  simp only [results, h]
  simp [Sem.run_bind, Result.andThen]
theorem results10 {tmps : Array Value} {w : World} {b2 b3 : Nat} {p : Option Addr} {e : Int} (h2 : tmps.getD 2 undef = P b2) (h3 : tmps.getD 3 undef = P b3) (c2 : w.cell? ⟨b2, 0, none⟩ = some (.pointer p)) (c3 : w.cell? ⟨b3, 0, none⟩ = some (.int .i64 e)) :
    (results Try.f10 tmps).run Try.prog w = .ok (.tuple #[.pointer p, .int .i64 e]) w := by
  rw [results_two rfl, h2, h3]
  go_simp
theorem results10b {tmps : Array Value} {w : World} {b2 b3 : Nat} {p : Option Addr} {e : Int} (h2 : tmps.getD 2 undef = P b2) (h3 : tmps.getD 3 undef = P b3) (c2 : Blk w b2 24 #[.pointer p]) (c3 : Blk w b3 33 #[.int .i64 e]) :
    (results Try.f10 tmps).run Try.prog w = .ok (.tuple #[.pointer p, .int .i64 e]) w := results10 h2 h3 (c2.cell 0) (c3.cell 0)
set_option maxRecDepth 100000 in
set_option maxHeartbeats 4000000 in
theorem read10 (ls : List Ln) (h10 : ∀ x ∈ ls, (10 : UInt8) ∉ x.1) (hN : ls.length ≤ 8193) (w : World) :
    Calls Try.prog 10 #[.string ⟨(flat ls).toArray⟩] w (ReadPost w ls) := by
  refine (callsIn_wide (n := 3)).1 ?_
  refine callsIn_of_wp_marks Try.func10 rfl trivial ?_ rfl
  simp only [Try.ntmps10, List.size_toArray, List.length_cons, List.length_nil, Nat.reduceAdd, Nat.reduceSub, Array.replicate_succ, Array.replicate_zero, List.push_toArray, List.append_toArray, List.nil_append, List.cons_append]
  have hfl := flat_le ls
  have hsf := fun w => Sh.Try.strings_HasSuffix ⟨(flat ls).toArray⟩ ⟨#[10]⟩ w (by simp [ByteArray.size]; omega)
  have hl28 := fun w => lines28 w ⟨(flat ls).toArray⟩
  replace hl28 := Lib.hid hl28
  refine wpIn_wide.2 ?_
  generalize hQ : bodyPostM Fence.wide 3 Try.prog Try.f10 (ReadPost w ls) = Q
  replace hQ := Lib.hid hQ
  go_upto_region 1 with (fail)
  go_cut [13] from 7 to 13 (fun s13 wx => s13 = .bool false ∧ wx = (w.alloc (.cells #[.pointer none] 24)).alloc (.cells #[.int .i64 0] 33))
  case first =>
    by_cases h0 : ls = []
    · subst h0
      rw [show flat ([] : List Ln) = [] from rfl]
      go_wp2_with fail
      go_meet
      exact ⟨rfl, rfl⟩
    · have hE : (⟨(flat ls).toArray⟩ : ByteArray).toList.isEmpty = false := by
        obtain ⟨a, ha⟩ := flat_end h0
        rw [ByteArray.toList_eq, ha]
        simp
      have hsf2 := flat_suffix h0
      have hsf' := fun w => hsf w
      rw [show (⟨(flat ls).toArray⟩ : ByteArray).data.toList = flat ls from rfl, show (⟨#[10]⟩ : ByteArray).data.toList = [10] from rfl, hsf2] at hsf'
      clear hsf
      replace hsf' := Lib.hid hsf'
      generalize (⟨(flat ls).toArray⟩ : ByteArray) = S at *
      go_wp2_with (go_at_call 27; refine (hsf'.out _).mono ?_; rintro e w2 ⟨rfl, rfl⟩)
      go_meet
      exact ⟨rfl, rfl⟩
  case rest =>
    obtain ⟨rfl, hwc⟩ := hcut
    have k2 : Hid (Blk wc w.heap.size 24 #[.pointer none]) := Lib.hid (by rw [hwc]; exact (Blk.new w 24 _).alloc _)
    have k3 : Hid (Blk wc (w.heap.size + 1) 33 #[.int .i64 ((0 : Nat) : Int)]) := Lib.hid (by
      rw [hwc]
      have := Blk.new (w.alloc (.cells #[.pointer none] 24)) 33 #[.int .i64 ((0 : Nat) : Int)]
      simpa using this)
    have oc : Hid (Only No w wc) := Lib.hid (by rw [hwc]; exact ((Only.refl No w).alloc _).alloc _)
    have hszc : wc.heap.size = w.heap.size + 2 := by rw [hwc]; simp
    clear hwc hsf
    go_wp2_with (go_at_call 28; refine (hl28.out _).mono ?_; rintro e w2 ⟨rfl, hw2⟩)
    obtain ⟨w2, hw2⟩ : ∃ w2, w2 = (((wc.alloc (.cells #[.int .i64 0, .int .i64 0, .slice none 0 0, .int .i64 0] 54)).alloc (.cells #[.pointer (some ⟨w.heap.size + 2, 0, none⟩)] 24)).alloc (.cells #[.string ⟨(flat ls).toArray⟩] 9)) := ⟨_, rfl⟩
    have m2 : Hid (Blk w2 w.heap.size 24 #[.pointer none]) := Lib.hid (by rw [hw2]; exact ((k2.out.alloc _).alloc _).alloc _)
    have m3 : Hid (Blk w2 (w.heap.size + 1) 33 #[.int .i64 ((0 : Nat) : Int)]) := Lib.hid (by rw [hw2]; exact ((k3.out.alloc _).alloc _).alloc _)
    have mR : Hid (Blk w2 (w.heap.size + 2) 54 #[.int .i64 ((0 : Nat) : Int), .int .i64 ((0 : Nat) : Int), .slice none 0 0, .int .i64 ((0 : Nat) : Int)]) := Lib.hid (by rw [hw2, ← hszc]; exact ((Blk.new _ _ _).alloc _).alloc _)
    have m4 : Hid (Blk w2 (w.heap.size + 2 + 1) 24 #[P (w.heap.size + 2)]) := Lib.hid (by
      rw [hw2]
      refine Blk.alloc ?_ _
      have := Blk.new (wc.alloc (.cells #[.int .i64 0, .int .i64 0, .slice none 0 0, .int .i64 0] 54)) 24 #[P (w.heap.size + 2)]
      rw [World.size_alloc, hszc] at this
      exact this)
    have m1 : Hid (Blk w2 (w.heap.size + 2 + 1 + 1) 9 #[.string ⟨(flat ls).toArray⟩]) := Lib.hid (by
      rw [hw2]
      have := Blk.new ((wc.alloc (.cells #[.int .i64 0, .int .i64 0, .slice none 0 0, .int .i64 0] 54)).alloc (.cells #[.pointer (some ⟨w.heap.size + 2, 0, none⟩)] 24)) 9 #[.string ⟨(flat ls).toArray⟩]
      rw [World.size_alloc, World.size_alloc, hszc] at this
      exact this)
    have ow : Hid (Only No w w2) := Lib.hid (by rw [hw2]; exact ((oc.out.alloc _).alloc _).alloc _)
    have hsz2 : w2.heap.size = w.heap.size + 2 + 1 + 1 + 1 := by rw [hw2]; simp [hszc]
    rw [← hw2]
    clear hw2 k2 k3 oc hszc hl28
    generalize hb1 : w.heap.size + 2 + 1 + 1 = b1 at *
    generalize hb4 : w.heap.size + 2 + 1 = b4 at *
    generalize hR : w.heap.size + 2 = R at *
    generalize hb3 : w.heap.size + 1 = b3 at *
    have hbx : BoxIter 37 #[P b1] b1 encL (fun xs => xs = ls) (fun pre => ∃ k, k ≤ ls.length ∧ pre = ls.take k) ls.length w2 := lines37 b1 ls h10 (by omega) w2 m1.out
    refine (wpIn_wide (n := 3)).1 ?_
    refine range_box (gf := 37) (lb := #[P b1]) (b1 := b1) (by omega) rfl (enters_of Try.func37 (by kernel_rfl) rfl) hbx (fun _ => rfl)
      (RI w w2.heap.size w.heap.size b3 b4 R) (RX w w.heap.size b3) (RI.own (by omega) (by omega) (by omega) (by omega) (by omega)) (RX.own (by omega) (by omega) (by omega))
      (RI.box (by omega) (by omega) (by omega) (by omega) (by omega) (by omega))
      ⟨⟨0, 0, []⟩, _, rfl, mR.out, World.ownsRow_nil _ _ _ _, m2.out, m3.out, m4.out, ow.out, Nat.le_refl _⟩
      (fun x => { tmps := #[Value.string { data := (flat ls).toArray }, undef, Value.pointer (some { block := w.heap.size, off := 0 }),
          Value.pointer (some { block := b3, off := 0 }),
          Value.pointer (some { block := b4, off := 0 }), .string ⟨(x.1 ++ [10]).toArray⟩, undef, u7, u8, u9, u10, u11, u12,
          Value.bool false,
          Value.agg #[Value.int IntKind.i64 0, Value.int IntKind.i64 0, Value.slice none 0 0, Value.int IntKind.i64 0],
          Value.pointer (some { block := R, off := 0 }), Value.string { data := (flat ls).toArray },
          Value.func (Fn.func 37) #[] #[P b1], .string ⟨(x.1 ++ [10]).toArray⟩, undef, undef, undef, undef, undef, undef, undef, undef, undef, undef, undef, undef, undef, undef, undef, undef, undef, undef, undef, undef, undef, undef, undef, undef, undef, undef, undef, undef, undef, undef, undef, undef, undef, undef, undef, undef, undef, undef, undef, undef, undef, undef, undef, undef, undef, undef, undef, undef, undef, undef, undef, undef, undef, undef, undef, undef, undef, undef, undef, undef, undef, undef, undef, undef, undef, undef, undef, undef, undef], defers := [] }) ?assign ?body ?done ?stop
    case assign =>
      intro y x V K hK
      unfold encL
      gi_wp2
      exact hK
    case body =>
      rintro y pre x V hJ hlt
      obtain ⟨st, Lv, hst, kR, kO, k2, k3, k4, ho, hsz⟩ := hJ.out
      have hok := Lib.hid (rd_ok _ _ hst)
      have hsn := Lib.hid (rdL_snoc pre x)
      rw [hst] at hsn
      replace hst := Lib.hid hst
      have hxl := x.2
      have d0 := kR.cell 0
      have d1 := kR.cell 1
      have f0 := kR.frozen 0
      have f1 := kR.frozen 1
      have z4 := k4.cell 0
      have z2 := k2.cell 0
      have z3 := k3.cell 0
      have y2 := k2.frozen 0
      have y3 := k3.frozen 0
      simp only [List.getElem?_toArray, List.getElem?_cons_zero, List.getElem?_cons_succ] at d0 d1 z4 z2 z3
      have hwD : w.heap.size < w2.heap.size := by omega
      have hRw : R < w2.heap.size := by omega
      have h3w : b3 < w2.heap.size := by omega
      have h4w : b4 < w2.heap.size := by omega
      have h1w : b1 < w2.heap.size := by omega
      have hnA : ¬ b3 = w.heap.size := by omega
      have hnB : ¬ w.heap.size = b3 := by omega
      have hR2 : w.heap.size ≠ R := by omega
      have hR3 : b3 ≠ R := by omega
      have hR4 : b4 ≠ R := by omega
      have hR1 : b1 ≠ R := by omega
      have h3ge : w.heap.size ≤ b3 := by omega
      have hRge : w.heap.size ≤ R := by omega
      have h12 : b1 ≠ w.heap.size := by omega
      have h13 : b1 ≠ b3 := by omega
      clear hb1 hb4 hR hb3 hsz2 m1 m2 m3 m4 mR ow hbx hfl hQ
      replace kR := Lib.hid kR
      replace kO := Lib.hid kO
      replace k2 := Lib.hid k2
      replace k3 := Lib.hid k3
      replace k4 := Lib.hid k4
      replace ho := Lib.hid ho
      have x1 : (⟨(x.1 ++ [10]).toArray⟩ : ByteArray).extract 0 x.1.length = ⟨x.1.toArray⟩ := ext_lo x.1 [10]
      have x2 : (⟨(x.1 ++ [10]).toArray⟩ : ByteArray).size = x.1.length + 1 := by simp [ByteArray.size]
      have x3 : (⟨x.1.toArray⟩ : ByteArray).size = x.1.length := by simp [ByteArray.size]
      have e1 : IntKind.i64.wrap (((x.1.length + 1 : Nat) : Int) - 1) = ((x.1.length : Nat) : Int) := by rw [IntWalk.i64_in _ (by omega)]; omega
      generalize hS : (⟨(x.1 ++ [10]).toArray⟩ : ByteArray) = S at *
      generalize hT : (⟨x.1.toArray⟩ : ByteArray) = T at *
      replace hT := Lib.hid hT
      clear hS
      generalize hp : x.1.length = p at *
      replace hp := Lib.hid hp
      have hWle := hok.out.2.1
      have hHle : st.H ≤ 8193 := by have := hok.out.2.2.1; omega
      by_cases hbad : st.H > 0 ∧ p ≠ st.W
      · have hb1' : (0 : Int) < (st.H : Int) := by omega
        have hb2' : ¬ (p : Int) = (st.W : Int) := by omega
        have hn : Hid (rdL (pre ++ [x]) = none) := Lib.hid (by rw [hsn.out]; show rd1 st x.1 = none; unfold rd1; rw [if_pos (by rw [hp.out]; exact hbad)])
        gi_wp2
        obtain ⟨W5, hW5⟩ : ∃ W5, W5 = ((V.setCell { block := w.heap.size, off := 0 } (Value.pointer none)).setCell { block := b3, off := 0 } (Value.int IntKind.i64 310)) := ⟨_, rfl⟩
        have o7 : Only (fun k => k = w.heap.size ∨ k = b3) V W5 := by rw [hW5]; exact ((Only.refl _ V).setCell (p := ⟨w.heap.size, 0, none⟩) (.inl (.inl rfl)) _).setCell (p := ⟨b3, 0, none⟩) (.inl (.inr rfl)) _
        have j2 : Blk W5 w.heap.size 24 #[.pointer none] := by rw [hW5]; exact (Blk.set0 k2.out _).far hnB _
        have j3 : Blk W5 b3 33 #[.int .i64 310] := by rw [hW5]; exact Blk.set0 (k3.out.far (p := ⟨w.heap.size, 0, none⟩) hnA _) _
        rw [← hW5]
        refine ⟨(KeepsOthers.of_only o7 ?_).from _, hn.out, j2, j3, ho.out.then o7 fun i hi => .inr ?_⟩
        · rintro k (rfl | rfl)
          · exact ⟨_, _, _, k2.out⟩
          · exact ⟨_, _, _, k3.out⟩
        · rcases hi with e | e <;> omega
      · have hrd : Hid (rdL (pre ++ [x]) = if x.1.all okc then some ⟨p, st.H + 1, st.l ++ x.1.map (· == 35)⟩ else none) := Lib.hid (by rw [hsn.out]; show rd1 st x.1 = _; unfold rd1; rw [if_neg (by rw [hp.out]; exact hbad), hp.out])
        have e2 : IntKind.i64.wrap ((st.H : Int) + 1) = ((st.H + 1 : Nat) : Int) := by rw [IntWalk.i64_in _ (by omega)]; push_cast; rfl
        rcases Nat.eq_zero_or_pos st.H with hz | hz
        · have hb1' : ¬ (0 : Int) < (st.H : Int) := by omega
          replace hz := Lib.hid hz
          clear hbad
          gi_wp2
          obtain ⟨W1, hW1⟩ : ∃ W1, W1 = ((V.setCell { block := R, off := 0 } (Value.int IntKind.i64 (p : Int))).setCell { block := R, off := 1 } (Value.int IntKind.i64 ((st.H + 1 : Nat) : Int))) := ⟨_, rfl⟩
          have kR1 : Hid (Blk W1 R 54 #[.int .i64 (p : Int), .int .i64 ((st.H + 1 : Nat) : Int), Lv, .int .i64 ((0 : Nat) : Int)]) := Lib.hid (by rw [hW1]; exact (kR.out.set 0 _).set 1 _)
          have oW1 : Hid (Only (fun i => i = R ∨ Lv.ownBlock = some i) V W1) := Lib.hid (by rw [hW1]; exact ((Only.refl _ V).setCell (p := ⟨R, 0, none⟩) (.inl (.inl rfl)) _).setCell (p := ⟨R, 1, none⟩) (.inl (.inl rfl)) _)
          have oW1n : Hid (Only (One R) V W1) := Lib.hid (by rw [hW1]; exact ((Only.refl (One R) V).setCell (p := ⟨R, 0, none⟩) (.inl rfl) _).setCell (p := ⟨R, 1, none⟩) (.inl rfl) _)
          push_cast at hW1
          rw [← hW1]
          clear hW1
          gi_loopw [52] (fun v52 wr => ∃ k : Nat, v52 = .int .i64 k ∧ k ≤ p ∧ Hid (∃ Lv', (x.1.take k).all okc = true ∧ Blk wr R 54 #[.int .i64 (p : Int), .int .i64 ((st.H + 1 : Nat) : Int), Lv', .int .i64 ((0 : Nat) : Int)] ∧
            wr.ownsRow w2.heap.size 4 1 Lv' (st.l.length + k) (boC (st.l ++ (x.1.take k).map (· == 35))) ∧ Only (fun i => i = R ∨ Lv.ownBlock = some i) V wr ∧ ∀ i, Lv'.ownBlock = some i → Lv.ownBlock = some i ∨ V.heap.size ≤ i)) (fun v52 _ => p - (intOf v52).toNat)
          case atStart => exact ⟨0, rfl, Nat.zero_le _, Lib.hid ⟨Lv, by simp, kR1.out, by rw [List.take_zero, List.map_nil, List.append_nil]; exact own_only kO.out oW1n.out (fun i hi e => by have := own_ge kO.out i hi; have e : i = R := e; omega), oW1.out, fun i hi => .inl hi⟩⟩
          case round =>
            obtain ⟨k, rfl, hk, hI⟩ := hrel
            obtain ⟨Lv', i1, i2, i3, i4, i5⟩ := hI.out
            obtain ⟨A', c', rfl⟩ := own_slice i3
            have hge := own_ge kO.out
            have nS : ∀ i, i < w2.heap.size → i ≠ R → ¬ (i = R ∨ Lv.ownBlock = some i) := fun i hi hr e => by
              rcases e with e | e
              · exact hr e
              · have := hge i e
                omega
            have g0 := i2.cell 0
            have g2 := i2.cell 2
            have gf := i2.frozen 2
            have kk4 := k4.out.only i4 (nS _ h4w hR4)
            have kk2 := k2.out.only i4 (nS _ hwD hR2)
            have kk3 := k3.out.only i4 (nS _ h3w hR3)
            have z4r := kk4.cell 0
            have z2r := kk2.cell 0
            have z3r := kk3.cell 0
            have y2r := kk2.frozen 0
            have y3r := kk3.frozen 0
            simp only [List.getElem?_toArray, List.getElem?_cons_zero, List.getElem?_cons_succ] at g0 g2 z4r z2r z3r
            replace i1 := Lib.hid i1
            replace i2 := Lib.hid i2
            replace i3 := Lib.hid i3
            replace i4 := Lib.hid i4
            replace i5 := Lib.hid i5
            replace kk2 := Lib.hid kk2
            replace kk3 := Lib.hid kk3
            replace kk4 := Lib.hid kk4
            clear nS hge
            by_cases hlt9 : k < p
            · have hlt8 : (k : Int) < p := by omega
              have hTk : x.1[k]'(by rw [hp.out]; exact hlt9) = T[k]'(by rw [x3]; exact hlt9) := by
                have h9 : ∀ (U : ByteArray) (hU : (⟨x.1.toArray⟩ : ByteArray) = U) (h1 : k < U.size) (h2 : k < x.1.length), x.1[k] = U[k]'h1 := by
                  rintro U rfl h1 h2
                  rfl
                exact h9 T hT.out _ _
              cases h35 : (((T[k]'(by rw [x3]; exact hlt9)).toNat : Int) == 35)
              · cases h46 : (((T[k]'(by rw [x3]; exact hlt9)).toNat : Int) == 46)
                · have hbadk : x.1.all okc = false := by
                    rw [List.all_eq_false]
                    refine ⟨x.1[k]'(by rw [hp.out]; exact hlt9), List.getElem_mem _, ?_⟩
                    rw [hTk]
                    intro hh
                    unfold okc at hh
                    rcases (Bool.or_eq_true _ _).mp hh with e | e
                    · have e := eq_of_beq e
                      rw [e] at h35
                      cases h35
                    · have e := eq_of_beq e
                      rw [e] at h46
                      cases h46
                  have hn : Hid (rdL (pre ++ [x]) = none) := Lib.hid (by rw [hrd.out, if_neg (by rw [hbadk]; simp)])
                  gi_wp2
                  obtain ⟨W5, hW5⟩ : ∃ W5, W5 = ((wr.setCell { block := w.heap.size, off := 0 } (Value.pointer none)).setCell { block := b3, off := 0 } (Value.int IntKind.i64 310)) := ⟨_, rfl⟩
                  have o7 : Only (fun k => k = w.heap.size ∨ k = b3 ∨ k = R ∨ Lv.ownBlock = some k) V W5 := by rw [hW5]; exact ((i4.out.mono fun i hi => .inr (.inr hi)).setCell (p := ⟨w.heap.size, 0, none⟩) (.inl (.inl rfl)) _).setCell (p := ⟨b3, 0, none⟩) (.inl (.inr (.inl rfl))) _
                  have j2 : Blk W5 w.heap.size 24 #[.pointer none] := by rw [hW5]; exact (Blk.set0 kk2.out _).far hnB _
                  have j3 : Blk W5 b3 33 #[.int .i64 310] := by rw [hW5]; exact Blk.set0 (kk3.out.far (p := ⟨w.heap.size, 0, none⟩) hnA _) _
                  rw [← hW5]
                  refine ⟨(KeepsOthers.of_only o7 ?_).from _, hn.out, j2, j3, ho.out.then o7 fun i hi => .inr ?_⟩
                  · rintro k (rfl | rfl | rfl | e)
                    · exact ⟨_, _, _, k2.out⟩
                    · exact ⟨_, _, _, k3.out⟩
                    · exact ⟨_, _, _, kR.out⟩
                    · exact own_cellsObj kO.out k e
                  · rcases hi with e | e | e | e
                    · omega
                    · omega
                    · omega
                    · have := own_ge kO.out i e
                      omega
                · have hdummy := 0
                  have hoks : okc (x.1[k]'(by rw [hp.out]; exact hlt9)) = true := by
                    unfold okc
                    rw [hTk, beq_of_nat' h46]; rfl
                  have hbv : (x.1[k]'(by rw [hp.out]; exact hlt9) == 35) = false := by
                    rw [hTk, beq_of_nat' h46]; rfl
                  have hn8 : st.l.length ≤ 67117056 := by
                    have h1 := hok.out.1
                    have h2 := Nat.mul_le_mul hWle hHle
                    omega
                  have hR5 : ∀ i, (Value.slice A' (st.l.length + k) c').ownBlock = some i → ¬ i = R := fun i hi e => by
                    have := own_ge i3.out i hi
                    omega
                  obtain ⟨i0, hi0, hz0, hz1, hz2⟩ := info_parts info4
                  obtain ⟨v', w4, hrun, own4, o4, hat⟩ := run_append_any (P := Try.prog) ((wr.alloc (Obj.cells #[Value.bool false] 4)).drew) w2.heap.size 22 22 4 i0 (.bool false) 1 1 Try.underlying22 hi0 hz0 hz1 hz2 rfl (by decide) (.slice A' (st.l.length + k) c') (st.l.length + k) _ (own_only i3.out (((Only.refl No wr).alloc _).drew) (fun _ _ => id)) (some ⟨wr.heap.size, 0, none⟩) 1 1 [.bool false] ((Rds.fresh (n := 1) (size := 1) (Blk.new wr 4 #[.bool false]) rfl).no ((Only.refl No _).drew)) (by simp [Value.oneCell']) (by unfold maxLen; omega) (by omega) (by have := i4.out.size; simp; omega)
                  obtain ⟨A4, c4, rfl⟩ := own_slice own4
                  have j2 : Blk w4 R 54 #[.int .i64 (p : Int), .int .i64 ((st.H + 1 : Nat) : Int), .slice A' (st.l.length + k) c', .int .i64 ((0 : Nat) : Int)] := ((i2.out.alloc _).drewN 1).only o4 (fun e => hR5 R e rfl)
                  have jc := j2.cell 2
                  have z4c := (kk4.out.alloc (.cells #[.bool false] 4)).cell 0
                  have z4d := (((kk4.out.alloc (.cells #[.bool false] 4)).drewN 1).only o4 (fun e => by have := own_ge i3.out _ e; omega)).cell 0
                  have g2c := (i2.out.alloc (.cells #[.bool false] 4)).cell 2
                  have jf := j2.frozen 2
                  simp only [List.getElem?_toArray, List.getElem?_cons_zero, List.getElem?_cons_succ] at jc z4c z4d g2c
                  have hrel5 : Hid (∃ Lv', (x.1.take (k + 1)).all okc = true ∧ Blk (w4.setCell ⟨R, 2, none⟩ (.slice A4 (st.l.length + k + 1) c4)) R 54 #[.int .i64 (p : Int), .int .i64 ((st.H + 1 : Nat) : Int), Lv', .int .i64 ((0 : Nat) : Int)] ∧
                      (w4.setCell ⟨R, 2, none⟩ (.slice A4 (st.l.length + k + 1) c4)).ownsRow w2.heap.size 4 1 Lv' (st.l.length + (k + 1)) (boC (st.l ++ (x.1.take (k + 1)).map (· == 35))) ∧ Only (fun i => i = R ∨ Lv.ownBlock = some i) V (w4.setCell ⟨R, 2, none⟩ (.slice A4 (st.l.length + k + 1) c4)) ∧ ∀ i, Lv'.ownBlock = some i → Lv.ownBlock = some i ∨ V.heap.size ≤ i) := by
                    have htk : x.1.take (k + 1) = x.1.take k ++ [x.1[k]'(by rw [hp.out]; exact hlt9)] := List.take_succ_eq_append_getElem _
                    refine Lib.hid ⟨.slice A4 (st.l.length + k + 1) c4, ?_, j2.set 2 _, ?_, ?_, ?_⟩
                    · rw [htk, List.all_append, i1.out]
                      simp [hoks]
                    · have := own_only own4 ((Only.refl (One R) w4).setCell (p := ⟨R, 2, none⟩) (.inl rfl) (.slice A4 (st.l.length + k + 1) c4)) (fun i hi e => by
                        have := own_ge own4 i hi
                        have e : i = R := e
                        omega)
                      rw [htk, List.map_append, List.map_singleton, hbv, ← List.append_assoc]
                      unfold boC at this ⊢
                      rw [List.map_append, List.map_singleton]
                      exact this
                    · refine Only.setCell ?_ (p := ⟨R, 2, none⟩) (.inl (.inl rfl)) _
                      refine ((i4.out.alloc _).drew).then o4 fun i hi => ?_
                      rcases i5.out i hi with e | e
                      · exact .inl (.inr e)
                      · exact .inr e
                    · intro i hi
                      rcases hat with e | e
                      · rw [e] at hi
                        exact i5.out i hi
                      · rw [e] at hi
                        injection hi with hi
                        have := i4.out.size
                        subst hi
                        exact .inr (by simp; omega)
                  clear own4 o4 hat j2 hoks hbv hR5 hn8 hz0 hz1 hz2 hi0
                  gi_wp2
                  refine wpIn_region_round (by kernel_rfl) (by kernel_rfl) ?_
                  refine wpAnyIn_take (i := 5) (v := .string T) rfl rfl (by kernel_rfl) (by kernel_rfl) (by kernel_rfl) (fun _ _ _ h => h) ?h6 ?_
                  case h6 =>
                    refine ⟨Or.inl ⟨?_, fun w => ?_⟩, fun _ => ?_⟩
                    · rfl
                    · go_simp
                    · rfl
                  try go_simp
                  refine wpAnyIn_take (i := 6) (v := .int .i64 k) rfl rfl (by kernel_rfl) (by kernel_rfl) (by kernel_rfl) (fun _ _ _ h => h) ?h6 ?_
                  case h6 =>
                    refine ⟨Or.inl ⟨?_, fun w => ?_⟩, fun _ => ?_⟩
                    · rfl
                    · go_simp
                    · rfl
                  try go_simp
                  refine wpAnyIn_take (i := 7) (v := .int .u8 ((T[k]'(by rw [x3]; exact hlt9)).toNat : Int)) rfl rfl (by kernel_rfl) (by kernel_rfl) (by kernel_rfl) (fun _ _ _ h => h) ?h6 ?_
                  case h6 =>
                    refine ⟨Or.inl ⟨?_, fun w => ?_⟩, fun _ => ?_⟩
                    · rfl
                    · go_simp
                    · rfl
                  try go_simp
                  refine wpAnyIn_take (i := 8) (v := .bool false) rfl rfl (by kernel_rfl) (by kernel_rfl) (by kernel_rfl) (fun _ _ _ h => h) ?h6 ?_
                  case h6 =>
                    refine ⟨Or.inl ⟨?_, fun w => ?_⟩, fun _ => ?_⟩
                    · rfl
                    · go_simp
                    · rfl
                  try go_simp
                  refine wpAnyIn_ready (rs := [0, 1, 9]) (by kernel_rfl) (by simp) ((AllReadyIn.cons rfl (fun K hK => ?_) (AllReadyIn.cons rfl (fun K hK => ?_) (AllReadyIn.cons rfl (fun K hK => ?_) AllReadyIn.nil))))
                  · go_simp
                    refine hK _ _ ?_
                    clear hK K
                    try go_simp
                    refine wpAnyIn_ready (rs := [1, 9]) (by kernel_rfl) (by simp) ((AllReadyIn.cons rfl (fun K hK => ?_) (AllReadyIn.cons rfl (fun K hK => ?_) AllReadyIn.nil)))
                    · go_simp
                      refine hK _ _ ?_
                      clear hK K
                      try go_simp
                      refine wpAnyIn_take (i := 2) (v := P R) rfl rfl (by kernel_rfl) (by kernel_rfl) (by kernel_rfl) (fun _ _ _ h => h) ?h6 ?_
                      case h6 =>
                        refine ⟨Or.inl ⟨?_, fun w => ?_⟩, fun _ => ?_⟩
                        · rfl
                        · go_simp
                        · rfl
                      try go_simp
                      refine wpAnyIn_take (i := 3) (v := .pointer (some ⟨R, 2, none⟩)) rfl rfl (by kernel_rfl) (by kernel_rfl) (by kernel_rfl) (fun _ _ _ h => h) ?h6 ?_
                      case h6 =>
                        refine ⟨Or.inl ⟨?_, fun w => ?_⟩, fun _ => ?_⟩
                        · rfl
                        · go_simp
                        · rfl
                      try go_simp
                      refine wpAnyIn_ready (rs := [4, 9]) (by kernel_rfl) (by simp) ((AllReadyIn.cons rfl (fun K hK => ?_) (AllReadyIn.cons rfl (fun K hK => ?_) AllReadyIn.nil)))
                      · go_simp
                        refine hK _ _ ?_
                        clear hK K
                        try go_simp
                        refine wpAnyIn_ready (rs := [9]) (by kernel_rfl) (by simp) ((AllReadyIn.cons rfl (fun K hK => ?_) AllReadyIn.nil))
                        · go_simp
                          refine hK _ _ ?_
                          clear hK K
                          try go_simp
                          refine wpAnyIn_ready (rs := [10]) (by kernel_rfl) (by simp) ((AllReadyIn.cons rfl (fun K hK => ?_) AllReadyIn.nil))
                          · refine step_append rfl rfl hrun ?_
                            refine hK _ _ ?_
                            clear hK K
                            try go_simp
                            refine wpAnyIn_take (i := 11) (v := P R) rfl rfl (by kernel_rfl) (by kernel_rfl) (by kernel_rfl) (fun _ _ _ h => h) ?h6 ?_
                            case h6 =>
                              refine ⟨Or.inl ⟨?_, fun w => ?_⟩, fun _ => ?_⟩
                              · rfl
                              · go_simp
                              · rfl
                            try go_simp
                            refine wpAnyIn_take (i := 12) (v := .pointer (some ⟨R, 2, none⟩)) rfl rfl (by kernel_rfl) (by kernel_rfl) (by kernel_rfl) (fun _ _ _ h => h) ?h6 ?_
                            case h6 =>
                              refine ⟨Or.inl ⟨?_, fun w => ?_⟩, fun _ => ?_⟩
                              · rfl
                              · go_simp
                              · rfl
                            try go_simp
                            refine wpAnyIn_ready (rs := [13]) (by kernel_rfl) (by simp) ((AllReadyIn.cons rfl (fun K hK => ?_) AllReadyIn.nil))
                            · go_simp
                              refine hK _ _ ?_
                              clear hK K
                              try go_simp
                              refine wpAnyIn_done (by kernel_rfl) ?_ _
                              gi_wp2
                              go_roundw
                              case rel => exact ⟨k + 1, by go_num, by omega, hrel5⟩
                              case measure => simp [intOf]; omega
                      · go_simp
                        refine hK _ _ ?_
                        clear hK K
                        try go_simp
                        refine wpAnyIn_ready (rs := [4]) (by kernel_rfl) (by simp) ((AllReadyIn.cons rfl (fun K hK => ?_) AllReadyIn.nil))
                        · go_simp
                          refine hK _ _ ?_
                          clear hK K
                          try go_simp
                          refine wpAnyIn_ready (rs := [10]) (by kernel_rfl) (by simp) ((AllReadyIn.cons rfl (fun K hK => ?_) AllReadyIn.nil))
                          · refine step_append rfl rfl hrun ?_
                            refine hK _ _ ?_
                            clear hK K
                            try go_simp
                            refine wpAnyIn_take (i := 11) (v := P R) rfl rfl (by kernel_rfl) (by kernel_rfl) (by kernel_rfl) (fun _ _ _ h => h) ?h6 ?_
                            case h6 =>
                              refine ⟨Or.inl ⟨?_, fun w => ?_⟩, fun _ => ?_⟩
                              · rfl
                              · go_simp
                              · rfl
                            try go_simp
                            refine wpAnyIn_take (i := 12) (v := .pointer (some ⟨R, 2, none⟩)) rfl rfl (by kernel_rfl) (by kernel_rfl) (by kernel_rfl) (fun _ _ _ h => h) ?h6 ?_
                            case h6 =>
                              refine ⟨Or.inl ⟨?_, fun w => ?_⟩, fun _ => ?_⟩
                              · rfl
                              · go_simp
                              · rfl
                            try go_simp
                            refine wpAnyIn_ready (rs := [13]) (by kernel_rfl) (by simp) ((AllReadyIn.cons rfl (fun K hK => ?_) AllReadyIn.nil))
                            · go_simp
                              refine hK _ _ ?_
                              clear hK K
                              try go_simp
                              refine wpAnyIn_done (by kernel_rfl) ?_ _
                              gi_wp2
                              go_roundw
                              case rel => exact ⟨k + 1, by go_num, by omega, hrel5⟩
                              case measure => simp [intOf]; omega
                    · go_simp
                      refine hK _ _ ?_
                      clear hK K
                      try go_simp
                      refine wpAnyIn_ready (rs := [1]) (by kernel_rfl) (by simp) ((AllReadyIn.cons rfl (fun K hK => ?_) AllReadyIn.nil))
                      · go_simp
                        refine hK _ _ ?_
                        clear hK K
                        try go_simp
                        refine wpAnyIn_take (i := 2) (v := P R) rfl rfl (by kernel_rfl) (by kernel_rfl) (by kernel_rfl) (fun _ _ _ h => h) ?h6 ?_
                        case h6 =>
                          refine ⟨Or.inl ⟨?_, fun w => ?_⟩, fun _ => ?_⟩
                          · rfl
                          · go_simp
                          · rfl
                        try go_simp
                        refine wpAnyIn_take (i := 3) (v := .pointer (some ⟨R, 2, none⟩)) rfl rfl (by kernel_rfl) (by kernel_rfl) (by kernel_rfl) (fun _ _ _ h => h) ?h6 ?_
                        case h6 =>
                          refine ⟨Or.inl ⟨?_, fun w => ?_⟩, fun _ => ?_⟩
                          · rfl
                          · go_simp
                          · rfl
                        try go_simp
                        refine wpAnyIn_ready (rs := [4]) (by kernel_rfl) (by simp) ((AllReadyIn.cons rfl (fun K hK => ?_) AllReadyIn.nil))
                        · go_simp
                          refine hK _ _ ?_
                          clear hK K
                          try go_simp
                          refine wpAnyIn_ready (rs := [10]) (by kernel_rfl) (by simp) ((AllReadyIn.cons rfl (fun K hK => ?_) AllReadyIn.nil))
                          · refine step_append rfl rfl hrun ?_
                            refine hK _ _ ?_
                            clear hK K
                            try go_simp
                            refine wpAnyIn_take (i := 11) (v := P R) rfl rfl (by kernel_rfl) (by kernel_rfl) (by kernel_rfl) (fun _ _ _ h => h) ?h6 ?_
                            case h6 =>
                              refine ⟨Or.inl ⟨?_, fun w => ?_⟩, fun _ => ?_⟩
                              · rfl
                              · go_simp
                              · rfl
                            try go_simp
                            refine wpAnyIn_take (i := 12) (v := .pointer (some ⟨R, 2, none⟩)) rfl rfl (by kernel_rfl) (by kernel_rfl) (by kernel_rfl) (fun _ _ _ h => h) ?h6 ?_
                            case h6 =>
                              refine ⟨Or.inl ⟨?_, fun w => ?_⟩, fun _ => ?_⟩
                              · rfl
                              · go_simp
                              · rfl
                            try go_simp
                            refine wpAnyIn_ready (rs := [13]) (by kernel_rfl) (by simp) ((AllReadyIn.cons rfl (fun K hK => ?_) AllReadyIn.nil))
                            · go_simp
                              refine hK _ _ ?_
                              clear hK K
                              try go_simp
                              refine wpAnyIn_done (by kernel_rfl) ?_ _
                              gi_wp2
                              go_roundw
                              case rel => exact ⟨k + 1, by go_num, by omega, hrel5⟩
                              case measure => simp [intOf]; omega
                  · go_simp
                    refine hK _ _ ?_
                    clear hK K
                    try go_simp
                    refine wpAnyIn_take (i := 2) (v := P R) rfl rfl (by kernel_rfl) (by kernel_rfl) (by kernel_rfl) (fun _ _ _ h => h) ?h6 ?_
                    case h6 =>
                      refine ⟨Or.inl ⟨?_, fun w => ?_⟩, fun _ => ?_⟩
                      · rfl
                      · go_simp
                      · rfl
                    try go_simp
                    refine wpAnyIn_take (i := 3) (v := .pointer (some ⟨R, 2, none⟩)) rfl rfl (by kernel_rfl) (by kernel_rfl) (by kernel_rfl) (fun _ _ _ h => h) ?h6 ?_
                    case h6 =>
                      refine ⟨Or.inl ⟨?_, fun w => ?_⟩, fun _ => ?_⟩
                      · rfl
                      · go_simp
                      · rfl
                    try go_simp
                    refine wpAnyIn_ready (rs := [0, 4, 9]) (by kernel_rfl) (by simp) ((AllReadyIn.cons rfl (fun K hK => ?_) (AllReadyIn.cons rfl (fun K hK => ?_) (AllReadyIn.cons rfl (fun K hK => ?_) AllReadyIn.nil))))
                    · go_simp
                      refine hK _ _ ?_
                      clear hK K
                      try go_simp
                      refine wpAnyIn_ready (rs := [4, 9]) (by kernel_rfl) (by simp) ((AllReadyIn.cons rfl (fun K hK => ?_) (AllReadyIn.cons rfl (fun K hK => ?_) AllReadyIn.nil)))
                      · go_simp
                        refine hK _ _ ?_
                        clear hK K
                        try go_simp
                        refine wpAnyIn_ready (rs := [9]) (by kernel_rfl) (by simp) ((AllReadyIn.cons rfl (fun K hK => ?_) AllReadyIn.nil))
                        · go_simp
                          refine hK _ _ ?_
                          clear hK K
                          try go_simp
                          refine wpAnyIn_ready (rs := [10]) (by kernel_rfl) (by simp) ((AllReadyIn.cons rfl (fun K hK => ?_) AllReadyIn.nil))
                          · refine step_append rfl rfl hrun ?_
                            refine hK _ _ ?_
                            clear hK K
                            try go_simp
                            refine wpAnyIn_take (i := 11) (v := P R) rfl rfl (by kernel_rfl) (by kernel_rfl) (by kernel_rfl) (fun _ _ _ h => h) ?h6 ?_
                            case h6 =>
                              refine ⟨Or.inl ⟨?_, fun w => ?_⟩, fun _ => ?_⟩
                              · rfl
                              · go_simp
                              · rfl
                            try go_simp
                            refine wpAnyIn_take (i := 12) (v := .pointer (some ⟨R, 2, none⟩)) rfl rfl (by kernel_rfl) (by kernel_rfl) (by kernel_rfl) (fun _ _ _ h => h) ?h6 ?_
                            case h6 =>
                              refine ⟨Or.inl ⟨?_, fun w => ?_⟩, fun _ => ?_⟩
                              · rfl
                              · go_simp
                              · rfl
                            try go_simp
                            refine wpAnyIn_ready (rs := [13]) (by kernel_rfl) (by simp) ((AllReadyIn.cons rfl (fun K hK => ?_) AllReadyIn.nil))
                            · go_simp
                              refine hK _ _ ?_
                              clear hK K
                              try go_simp
                              refine wpAnyIn_done (by kernel_rfl) ?_ _
                              gi_wp2
                              go_roundw
                              case rel => exact ⟨k + 1, by go_num, by omega, hrel5⟩
                              case measure => simp [intOf]; omega
                      · go_simp
                        refine hK _ _ ?_
                        clear hK K
                        try go_simp
                        refine wpAnyIn_ready (rs := [4]) (by kernel_rfl) (by simp) ((AllReadyIn.cons rfl (fun K hK => ?_) AllReadyIn.nil))
                        · go_simp
                          refine hK _ _ ?_
                          clear hK K
                          try go_simp
                          refine wpAnyIn_ready (rs := [10]) (by kernel_rfl) (by simp) ((AllReadyIn.cons rfl (fun K hK => ?_) AllReadyIn.nil))
                          · refine step_append rfl rfl hrun ?_
                            refine hK _ _ ?_
                            clear hK K
                            try go_simp
                            refine wpAnyIn_take (i := 11) (v := P R) rfl rfl (by kernel_rfl) (by kernel_rfl) (by kernel_rfl) (fun _ _ _ h => h) ?h6 ?_
                            case h6 =>
                              refine ⟨Or.inl ⟨?_, fun w => ?_⟩, fun _ => ?_⟩
                              · rfl
                              · go_simp
                              · rfl
                            try go_simp
                            refine wpAnyIn_take (i := 12) (v := .pointer (some ⟨R, 2, none⟩)) rfl rfl (by kernel_rfl) (by kernel_rfl) (by kernel_rfl) (fun _ _ _ h => h) ?h6 ?_
                            case h6 =>
                              refine ⟨Or.inl ⟨?_, fun w => ?_⟩, fun _ => ?_⟩
                              · rfl
                              · go_simp
                              · rfl
                            try go_simp
                            refine wpAnyIn_ready (rs := [13]) (by kernel_rfl) (by simp) ((AllReadyIn.cons rfl (fun K hK => ?_) AllReadyIn.nil))
                            · go_simp
                              refine hK _ _ ?_
                              clear hK K
                              try go_simp
                              refine wpAnyIn_done (by kernel_rfl) ?_ _
                              gi_wp2
                              go_roundw
                              case rel => exact ⟨k + 1, by go_num, by omega, hrel5⟩
                              case measure => simp [intOf]; omega
                    · go_simp
                      refine hK _ _ ?_
                      clear hK K
                      try go_simp
                      refine wpAnyIn_ready (rs := [0, 9]) (by kernel_rfl) (by simp) ((AllReadyIn.cons rfl (fun K hK => ?_) (AllReadyIn.cons rfl (fun K hK => ?_) AllReadyIn.nil)))
                      · go_simp
                        refine hK _ _ ?_
                        clear hK K
                        try go_simp
                        refine wpAnyIn_ready (rs := [9]) (by kernel_rfl) (by simp) ((AllReadyIn.cons rfl (fun K hK => ?_) AllReadyIn.nil))
                        · go_simp
                          refine hK _ _ ?_
                          clear hK K
                          try go_simp
                          refine wpAnyIn_ready (rs := [10]) (by kernel_rfl) (by simp) ((AllReadyIn.cons rfl (fun K hK => ?_) AllReadyIn.nil))
                          · refine step_append rfl rfl hrun ?_
                            refine hK _ _ ?_
                            clear hK K
                            try go_simp
                            refine wpAnyIn_take (i := 11) (v := P R) rfl rfl (by kernel_rfl) (by kernel_rfl) (by kernel_rfl) (fun _ _ _ h => h) ?h6 ?_
                            case h6 =>
                              refine ⟨Or.inl ⟨?_, fun w => ?_⟩, fun _ => ?_⟩
                              · rfl
                              · go_simp
                              · rfl
                            try go_simp
                            refine wpAnyIn_take (i := 12) (v := .pointer (some ⟨R, 2, none⟩)) rfl rfl (by kernel_rfl) (by kernel_rfl) (by kernel_rfl) (fun _ _ _ h => h) ?h6 ?_
                            case h6 =>
                              refine ⟨Or.inl ⟨?_, fun w => ?_⟩, fun _ => ?_⟩
                              · rfl
                              · go_simp
                              · rfl
                            try go_simp
                            refine wpAnyIn_ready (rs := [13]) (by kernel_rfl) (by simp) ((AllReadyIn.cons rfl (fun K hK => ?_) AllReadyIn.nil))
                            · go_simp
                              refine hK _ _ ?_
                              clear hK K
                              try go_simp
                              refine wpAnyIn_done (by kernel_rfl) ?_ _
                              gi_wp2
                              go_roundw
                              case rel => exact ⟨k + 1, by go_num, by omega, hrel5⟩
                              case measure => simp [intOf]; omega
                      · go_simp
                        refine hK _ _ ?_
                        clear hK K
                        try go_simp
                        refine wpAnyIn_ready (rs := [0, 10]) (by kernel_rfl) (by simp) ((AllReadyIn.cons rfl (fun K hK => ?_) (AllReadyIn.cons rfl (fun K hK => ?_) AllReadyIn.nil)))
                        · go_simp
                          refine hK _ _ ?_
                          clear hK K
                          try go_simp
                          refine wpAnyIn_ready (rs := [10]) (by kernel_rfl) (by simp) ((AllReadyIn.cons rfl (fun K hK => ?_) AllReadyIn.nil))
                          · refine step_append rfl rfl hrun ?_
                            refine hK _ _ ?_
                            clear hK K
                            try go_simp
                            refine wpAnyIn_take (i := 11) (v := P R) rfl rfl (by kernel_rfl) (by kernel_rfl) (by kernel_rfl) (fun _ _ _ h => h) ?h6 ?_
                            case h6 =>
                              refine ⟨Or.inl ⟨?_, fun w => ?_⟩, fun _ => ?_⟩
                              · rfl
                              · go_simp
                              · rfl
                            try go_simp
                            refine wpAnyIn_take (i := 12) (v := .pointer (some ⟨R, 2, none⟩)) rfl rfl (by kernel_rfl) (by kernel_rfl) (by kernel_rfl) (fun _ _ _ h => h) ?h6 ?_
                            case h6 =>
                              refine ⟨Or.inl ⟨?_, fun w => ?_⟩, fun _ => ?_⟩
                              · rfl
                              · go_simp
                              · rfl
                            try go_simp
                            refine wpAnyIn_ready (rs := [13]) (by kernel_rfl) (by simp) ((AllReadyIn.cons rfl (fun K hK => ?_) AllReadyIn.nil))
                            · go_simp
                              refine hK _ _ ?_
                              clear hK K
                              try go_simp
                              refine wpAnyIn_done (by kernel_rfl) ?_ _
                              gi_wp2
                              go_roundw
                              case rel => exact ⟨k + 1, by go_num, by omega, hrel5⟩
                              case measure => simp [intOf]; omega
                        · refine step_append rfl rfl hrun ?_
                          refine hK _ _ ?_
                          clear hK K
                          try go_simp
                          refine wpAnyIn_ready (rs := [0]) (by kernel_rfl) (by simp) ((AllReadyIn.cons rfl (fun K hK => ?_) AllReadyIn.nil))
                          · go_simp
                            refine hK _ _ ?_
                            clear hK K
                            try go_simp
                            refine wpAnyIn_take (i := 11) (v := P R) rfl rfl (by kernel_rfl) (by kernel_rfl) (by kernel_rfl) (fun _ _ _ h => h) ?h6 ?_
                            case h6 =>
                              refine ⟨Or.inl ⟨?_, fun w => ?_⟩, fun _ => ?_⟩
                              · rfl
                              · go_simp
                              · rfl
                            try go_simp
                            refine wpAnyIn_take (i := 12) (v := .pointer (some ⟨R, 2, none⟩)) rfl rfl (by kernel_rfl) (by kernel_rfl) (by kernel_rfl) (fun _ _ _ h => h) ?h6 ?_
                            case h6 =>
                              refine ⟨Or.inl ⟨?_, fun w => ?_⟩, fun _ => ?_⟩
                              · rfl
                              · go_simp
                              · rfl
                            try go_simp
                            refine wpAnyIn_ready (rs := [13]) (by kernel_rfl) (by simp) ((AllReadyIn.cons rfl (fun K hK => ?_) AllReadyIn.nil))
                            · go_simp
                              refine hK _ _ ?_
                              clear hK K
                              try go_simp
                              refine wpAnyIn_done (by kernel_rfl) ?_ _
                              gi_wp2
                              go_roundw
                              case rel => exact ⟨k + 1, by go_num, by omega, hrel5⟩
                              case measure => simp [intOf]; omega
                    · go_simp
                      refine hK _ _ ?_
                      clear hK K
                      try go_simp
                      refine wpAnyIn_ready (rs := [0, 4]) (by kernel_rfl) (by simp) ((AllReadyIn.cons rfl (fun K hK => ?_) (AllReadyIn.cons rfl (fun K hK => ?_) AllReadyIn.nil)))
                      · go_simp
                        refine hK _ _ ?_
                        clear hK K
                        try go_simp
                        refine wpAnyIn_ready (rs := [4]) (by kernel_rfl) (by simp) ((AllReadyIn.cons rfl (fun K hK => ?_) AllReadyIn.nil))
                        · go_simp
                          refine hK _ _ ?_
                          clear hK K
                          try go_simp
                          refine wpAnyIn_ready (rs := [10]) (by kernel_rfl) (by simp) ((AllReadyIn.cons rfl (fun K hK => ?_) AllReadyIn.nil))
                          · refine step_append rfl rfl hrun ?_
                            refine hK _ _ ?_
                            clear hK K
                            try go_simp
                            refine wpAnyIn_take (i := 11) (v := P R) rfl rfl (by kernel_rfl) (by kernel_rfl) (by kernel_rfl) (fun _ _ _ h => h) ?h6 ?_
                            case h6 =>
                              refine ⟨Or.inl ⟨?_, fun w => ?_⟩, fun _ => ?_⟩
                              · rfl
                              · go_simp
                              · rfl
                            try go_simp
                            refine wpAnyIn_take (i := 12) (v := .pointer (some ⟨R, 2, none⟩)) rfl rfl (by kernel_rfl) (by kernel_rfl) (by kernel_rfl) (fun _ _ _ h => h) ?h6 ?_
                            case h6 =>
                              refine ⟨Or.inl ⟨?_, fun w => ?_⟩, fun _ => ?_⟩
                              · rfl
                              · go_simp
                              · rfl
                            try go_simp
                            refine wpAnyIn_ready (rs := [13]) (by kernel_rfl) (by simp) ((AllReadyIn.cons rfl (fun K hK => ?_) AllReadyIn.nil))
                            · go_simp
                              refine hK _ _ ?_
                              clear hK K
                              try go_simp
                              refine wpAnyIn_done (by kernel_rfl) ?_ _
                              gi_wp2
                              go_roundw
                              case rel => exact ⟨k + 1, by go_num, by omega, hrel5⟩
                              case measure => simp [intOf]; omega
                      · go_simp
                        refine hK _ _ ?_
                        clear hK K
                        try go_simp
                        refine wpAnyIn_ready (rs := [0, 10]) (by kernel_rfl) (by simp) ((AllReadyIn.cons rfl (fun K hK => ?_) (AllReadyIn.cons rfl (fun K hK => ?_) AllReadyIn.nil)))
                        · go_simp
                          refine hK _ _ ?_
                          clear hK K
                          try go_simp
                          refine wpAnyIn_ready (rs := [10]) (by kernel_rfl) (by simp) ((AllReadyIn.cons rfl (fun K hK => ?_) AllReadyIn.nil))
                          · refine step_append rfl rfl hrun ?_
                            refine hK _ _ ?_
                            clear hK K
                            try go_simp
                            refine wpAnyIn_take (i := 11) (v := P R) rfl rfl (by kernel_rfl) (by kernel_rfl) (by kernel_rfl) (fun _ _ _ h => h) ?h6 ?_
                            case h6 =>
                              refine ⟨Or.inl ⟨?_, fun w => ?_⟩, fun _ => ?_⟩
                              · rfl
                              · go_simp
                              · rfl
                            try go_simp
                            refine wpAnyIn_take (i := 12) (v := .pointer (some ⟨R, 2, none⟩)) rfl rfl (by kernel_rfl) (by kernel_rfl) (by kernel_rfl) (fun _ _ _ h => h) ?h6 ?_
                            case h6 =>
                              refine ⟨Or.inl ⟨?_, fun w => ?_⟩, fun _ => ?_⟩
                              · rfl
                              · go_simp
                              · rfl
                            try go_simp
                            refine wpAnyIn_ready (rs := [13]) (by kernel_rfl) (by simp) ((AllReadyIn.cons rfl (fun K hK => ?_) AllReadyIn.nil))
                            · go_simp
                              refine hK _ _ ?_
                              clear hK K
                              try go_simp
                              refine wpAnyIn_done (by kernel_rfl) ?_ _
                              gi_wp2
                              go_roundw
                              case rel => exact ⟨k + 1, by go_num, by omega, hrel5⟩
                              case measure => simp [intOf]; omega
                        · refine step_append rfl rfl hrun ?_
                          refine hK _ _ ?_
                          clear hK K
                          try go_simp
                          refine wpAnyIn_ready (rs := [0]) (by kernel_rfl) (by simp) ((AllReadyIn.cons rfl (fun K hK => ?_) AllReadyIn.nil))
                          · go_simp
                            refine hK _ _ ?_
                            clear hK K
                            try go_simp
                            refine wpAnyIn_take (i := 11) (v := P R) rfl rfl (by kernel_rfl) (by kernel_rfl) (by kernel_rfl) (fun _ _ _ h => h) ?h6 ?_
                            case h6 =>
                              refine ⟨Or.inl ⟨?_, fun w => ?_⟩, fun _ => ?_⟩
                              · rfl
                              · go_simp
                              · rfl
                            try go_simp
                            refine wpAnyIn_take (i := 12) (v := .pointer (some ⟨R, 2, none⟩)) rfl rfl (by kernel_rfl) (by kernel_rfl) (by kernel_rfl) (fun _ _ _ h => h) ?h6 ?_
                            case h6 =>
                              refine ⟨Or.inl ⟨?_, fun w => ?_⟩, fun _ => ?_⟩
                              · rfl
                              · go_simp
                              · rfl
                            try go_simp
                            refine wpAnyIn_ready (rs := [13]) (by kernel_rfl) (by simp) ((AllReadyIn.cons rfl (fun K hK => ?_) AllReadyIn.nil))
                            · go_simp
                              refine hK _ _ ?_
                              clear hK K
                              try go_simp
                              refine wpAnyIn_done (by kernel_rfl) ?_ _
                              gi_wp2
                              go_roundw
                              case rel => exact ⟨k + 1, by go_num, by omega, hrel5⟩
                              case measure => simp [intOf]; omega
                  · go_simp
                    refine hK _ _ ?_
                    clear hK K
                    try go_simp
                    refine wpAnyIn_ready (rs := [0, 1]) (by kernel_rfl) (by simp) ((AllReadyIn.cons rfl (fun K hK => ?_) (AllReadyIn.cons rfl (fun K hK => ?_) AllReadyIn.nil)))
                    · go_simp
                      refine hK _ _ ?_
                      clear hK K
                      try go_simp
                      refine wpAnyIn_ready (rs := [1]) (by kernel_rfl) (by simp) ((AllReadyIn.cons rfl (fun K hK => ?_) AllReadyIn.nil))
                      · go_simp
                        refine hK _ _ ?_
                        clear hK K
                        try go_simp
                        refine wpAnyIn_take (i := 2) (v := P R) rfl rfl (by kernel_rfl) (by kernel_rfl) (by kernel_rfl) (fun _ _ _ h => h) ?h6 ?_
                        case h6 =>
                          refine ⟨Or.inl ⟨?_, fun w => ?_⟩, fun _ => ?_⟩
                          · rfl
                          · go_simp
                          · rfl
                        try go_simp
                        refine wpAnyIn_take (i := 3) (v := .pointer (some ⟨R, 2, none⟩)) rfl rfl (by kernel_rfl) (by kernel_rfl) (by kernel_rfl) (fun _ _ _ h => h) ?h6 ?_
                        case h6 =>
                          refine ⟨Or.inl ⟨?_, fun w => ?_⟩, fun _ => ?_⟩
                          · rfl
                          · go_simp
                          · rfl
                        try go_simp
                        refine wpAnyIn_ready (rs := [4]) (by kernel_rfl) (by simp) ((AllReadyIn.cons rfl (fun K hK => ?_) AllReadyIn.nil))
                        · go_simp
                          refine hK _ _ ?_
                          clear hK K
                          try go_simp
                          refine wpAnyIn_ready (rs := [10]) (by kernel_rfl) (by simp) ((AllReadyIn.cons rfl (fun K hK => ?_) AllReadyIn.nil))
                          · refine step_append rfl rfl hrun ?_
                            refine hK _ _ ?_
                            clear hK K
                            try go_simp
                            refine wpAnyIn_take (i := 11) (v := P R) rfl rfl (by kernel_rfl) (by kernel_rfl) (by kernel_rfl) (fun _ _ _ h => h) ?h6 ?_
                            case h6 =>
                              refine ⟨Or.inl ⟨?_, fun w => ?_⟩, fun _ => ?_⟩
                              · rfl
                              · go_simp
                              · rfl
                            try go_simp
                            refine wpAnyIn_take (i := 12) (v := .pointer (some ⟨R, 2, none⟩)) rfl rfl (by kernel_rfl) (by kernel_rfl) (by kernel_rfl) (fun _ _ _ h => h) ?h6 ?_
                            case h6 =>
                              refine ⟨Or.inl ⟨?_, fun w => ?_⟩, fun _ => ?_⟩
                              · rfl
                              · go_simp
                              · rfl
                            try go_simp
                            refine wpAnyIn_ready (rs := [13]) (by kernel_rfl) (by simp) ((AllReadyIn.cons rfl (fun K hK => ?_) AllReadyIn.nil))
                            · go_simp
                              refine hK _ _ ?_
                              clear hK K
                              try go_simp
                              refine wpAnyIn_done (by kernel_rfl) ?_ _
                              gi_wp2
                              go_roundw
                              case rel => exact ⟨k + 1, by go_num, by omega, hrel5⟩
                              case measure => simp [intOf]; omega
                    · go_simp
                      refine hK _ _ ?_
                      clear hK K
                      try go_simp
                      refine wpAnyIn_take (i := 2) (v := P R) rfl rfl (by kernel_rfl) (by kernel_rfl) (by kernel_rfl) (fun _ _ _ h => h) ?h6 ?_
                      case h6 =>
                        refine ⟨Or.inl ⟨?_, fun w => ?_⟩, fun _ => ?_⟩
                        · rfl
                        · go_simp
                        · rfl
                      try go_simp
                      refine wpAnyIn_take (i := 3) (v := .pointer (some ⟨R, 2, none⟩)) rfl rfl (by kernel_rfl) (by kernel_rfl) (by kernel_rfl) (fun _ _ _ h => h) ?h6 ?_
                      case h6 =>
                        refine ⟨Or.inl ⟨?_, fun w => ?_⟩, fun _ => ?_⟩
                        · rfl
                        · go_simp
                        · rfl
                      try go_simp
                      refine wpAnyIn_ready (rs := [0, 4]) (by kernel_rfl) (by simp) ((AllReadyIn.cons rfl (fun K hK => ?_) (AllReadyIn.cons rfl (fun K hK => ?_) AllReadyIn.nil)))
                      · go_simp
                        refine hK _ _ ?_
                        clear hK K
                        try go_simp
                        refine wpAnyIn_ready (rs := [4]) (by kernel_rfl) (by simp) ((AllReadyIn.cons rfl (fun K hK => ?_) AllReadyIn.nil))
                        · go_simp
                          refine hK _ _ ?_
                          clear hK K
                          try go_simp
                          refine wpAnyIn_ready (rs := [10]) (by kernel_rfl) (by simp) ((AllReadyIn.cons rfl (fun K hK => ?_) AllReadyIn.nil))
                          · refine step_append rfl rfl hrun ?_
                            refine hK _ _ ?_
                            clear hK K
                            try go_simp
                            refine wpAnyIn_take (i := 11) (v := P R) rfl rfl (by kernel_rfl) (by kernel_rfl) (by kernel_rfl) (fun _ _ _ h => h) ?h6 ?_
                            case h6 =>
                              refine ⟨Or.inl ⟨?_, fun w => ?_⟩, fun _ => ?_⟩
                              · rfl
                              · go_simp
                              · rfl
                            try go_simp
                            refine wpAnyIn_take (i := 12) (v := .pointer (some ⟨R, 2, none⟩)) rfl rfl (by kernel_rfl) (by kernel_rfl) (by kernel_rfl) (fun _ _ _ h => h) ?h6 ?_
                            case h6 =>
                              refine ⟨Or.inl ⟨?_, fun w => ?_⟩, fun _ => ?_⟩
                              · rfl
                              · go_simp
                              · rfl
                            try go_simp
                            refine wpAnyIn_ready (rs := [13]) (by kernel_rfl) (by simp) ((AllReadyIn.cons rfl (fun K hK => ?_) AllReadyIn.nil))
                            · go_simp
                              refine hK _ _ ?_
                              clear hK K
                              try go_simp
                              refine wpAnyIn_done (by kernel_rfl) ?_ _
                              gi_wp2
                              go_roundw
                              case rel => exact ⟨k + 1, by go_num, by omega, hrel5⟩
                              case measure => simp [intOf]; omega
                      · go_simp
                        refine hK _ _ ?_
                        clear hK K
                        try go_simp
                        refine wpAnyIn_ready (rs := [0, 10]) (by kernel_rfl) (by simp) ((AllReadyIn.cons rfl (fun K hK => ?_) (AllReadyIn.cons rfl (fun K hK => ?_) AllReadyIn.nil)))
                        · go_simp
                          refine hK _ _ ?_
                          clear hK K
                          try go_simp
                          refine wpAnyIn_ready (rs := [10]) (by kernel_rfl) (by simp) ((AllReadyIn.cons rfl (fun K hK => ?_) AllReadyIn.nil))
                          · refine step_append rfl rfl hrun ?_
                            refine hK _ _ ?_
                            clear hK K
                            try go_simp
                            refine wpAnyIn_take (i := 11) (v := P R) rfl rfl (by kernel_rfl) (by kernel_rfl) (by kernel_rfl) (fun _ _ _ h => h) ?h6 ?_
                            case h6 =>
                              refine ⟨Or.inl ⟨?_, fun w => ?_⟩, fun _ => ?_⟩
                              · rfl
                              · go_simp
                              · rfl
                            try go_simp
                            refine wpAnyIn_take (i := 12) (v := .pointer (some ⟨R, 2, none⟩)) rfl rfl (by kernel_rfl) (by kernel_rfl) (by kernel_rfl) (fun _ _ _ h => h) ?h6 ?_
                            case h6 =>
                              refine ⟨Or.inl ⟨?_, fun w => ?_⟩, fun _ => ?_⟩
                              · rfl
                              · go_simp
                              · rfl
                            try go_simp
                            refine wpAnyIn_ready (rs := [13]) (by kernel_rfl) (by simp) ((AllReadyIn.cons rfl (fun K hK => ?_) AllReadyIn.nil))
                            · go_simp
                              refine hK _ _ ?_
                              clear hK K
                              try go_simp
                              refine wpAnyIn_done (by kernel_rfl) ?_ _
                              gi_wp2
                              go_roundw
                              case rel => exact ⟨k + 1, by go_num, by omega, hrel5⟩
                              case measure => simp [intOf]; omega
                        · refine step_append rfl rfl hrun ?_
                          refine hK _ _ ?_
                          clear hK K
                          try go_simp
                          refine wpAnyIn_ready (rs := [0]) (by kernel_rfl) (by simp) ((AllReadyIn.cons rfl (fun K hK => ?_) AllReadyIn.nil))
                          · go_simp
                            refine hK _ _ ?_
                            clear hK K
                            try go_simp
                            refine wpAnyIn_take (i := 11) (v := P R) rfl rfl (by kernel_rfl) (by kernel_rfl) (by kernel_rfl) (fun _ _ _ h => h) ?h6 ?_
                            case h6 =>
                              refine ⟨Or.inl ⟨?_, fun w => ?_⟩, fun _ => ?_⟩
                              · rfl
                              · go_simp
                              · rfl
                            try go_simp
                            refine wpAnyIn_take (i := 12) (v := .pointer (some ⟨R, 2, none⟩)) rfl rfl (by kernel_rfl) (by kernel_rfl) (by kernel_rfl) (fun _ _ _ h => h) ?h6 ?_
                            case h6 =>
                              refine ⟨Or.inl ⟨?_, fun w => ?_⟩, fun _ => ?_⟩
                              · rfl
                              · go_simp
                              · rfl
                            try go_simp
                            refine wpAnyIn_ready (rs := [13]) (by kernel_rfl) (by simp) ((AllReadyIn.cons rfl (fun K hK => ?_) AllReadyIn.nil))
                            · go_simp
                              refine hK _ _ ?_
                              clear hK K
                              try go_simp
                              refine wpAnyIn_done (by kernel_rfl) ?_ _
                              gi_wp2
                              go_roundw
                              case rel => exact ⟨k + 1, by go_num, by omega, hrel5⟩
                              case measure => simp [intOf]; omega
              · have hdummy := 0
                have hoks : okc (x.1[k]'(by rw [hp.out]; exact hlt9)) = true := by
                  unfold okc
                  rw [hTk, beq_of_nat h35]; rfl
                have hbv : (x.1[k]'(by rw [hp.out]; exact hlt9) == 35) = true := by
                  rw [hTk, beq_of_nat h35]; rfl
                have hn8 : st.l.length ≤ 67117056 := by
                  have h1 := hok.out.1
                  have h2 := Nat.mul_le_mul hWle hHle
                  omega
                have hR5 : ∀ i, (Value.slice A' (st.l.length + k) c').ownBlock = some i → ¬ i = R := fun i hi e => by
                  have := own_ge i3.out i hi
                  omega
                obtain ⟨i0, hi0, hz0, hz1, hz2⟩ := info_parts info4
                obtain ⟨v', w4, hrun, own4, o4, hat⟩ := run_append_any (P := Try.prog) ((wr.alloc (Obj.cells #[Value.bool true] 4)).drew) w2.heap.size 22 22 4 i0 (.bool false) 1 1 Try.underlying22 hi0 hz0 hz1 hz2 rfl (by decide) (.slice A' (st.l.length + k) c') (st.l.length + k) _ (own_only i3.out (((Only.refl No wr).alloc _).drew) (fun _ _ => id)) (some ⟨wr.heap.size, 0, none⟩) 1 1 [.bool true] ((Rds.fresh (n := 1) (size := 1) (Blk.new wr 4 #[.bool true]) rfl).no ((Only.refl No _).drew)) (by simp [Value.oneCell']) (by unfold maxLen; omega) (by omega) (by have := i4.out.size; simp; omega)
                obtain ⟨A4, c4, rfl⟩ := own_slice own4
                have j2 : Blk w4 R 54 #[.int .i64 (p : Int), .int .i64 ((st.H + 1 : Nat) : Int), .slice A' (st.l.length + k) c', .int .i64 ((0 : Nat) : Int)] := ((i2.out.alloc _).drewN 1).only o4 (fun e => hR5 R e rfl)
                have jc := j2.cell 2
                have z4c := (kk4.out.alloc (.cells #[.bool true] 4)).cell 0
                have z4d := (((kk4.out.alloc (.cells #[.bool true] 4)).drewN 1).only o4 (fun e => by have := own_ge i3.out _ e; omega)).cell 0
                have g2c := (i2.out.alloc (.cells #[.bool true] 4)).cell 2
                have jf := j2.frozen 2
                simp only [List.getElem?_toArray, List.getElem?_cons_zero, List.getElem?_cons_succ] at jc z4c z4d g2c
                have hrel5 : Hid (∃ Lv', (x.1.take (k + 1)).all okc = true ∧ Blk (w4.setCell ⟨R, 2, none⟩ (.slice A4 (st.l.length + k + 1) c4)) R 54 #[.int .i64 (p : Int), .int .i64 ((st.H + 1 : Nat) : Int), Lv', .int .i64 ((0 : Nat) : Int)] ∧
                    (w4.setCell ⟨R, 2, none⟩ (.slice A4 (st.l.length + k + 1) c4)).ownsRow w2.heap.size 4 1 Lv' (st.l.length + (k + 1)) (boC (st.l ++ (x.1.take (k + 1)).map (· == 35))) ∧ Only (fun i => i = R ∨ Lv.ownBlock = some i) V (w4.setCell ⟨R, 2, none⟩ (.slice A4 (st.l.length + k + 1) c4)) ∧ ∀ i, Lv'.ownBlock = some i → Lv.ownBlock = some i ∨ V.heap.size ≤ i) := by
                  have htk : x.1.take (k + 1) = x.1.take k ++ [x.1[k]'(by rw [hp.out]; exact hlt9)] := List.take_succ_eq_append_getElem _
                  refine Lib.hid ⟨.slice A4 (st.l.length + k + 1) c4, ?_, j2.set 2 _, ?_, ?_, ?_⟩
                  · rw [htk, List.all_append, i1.out]
                    simp [hoks]
                  · have := own_only own4 ((Only.refl (One R) w4).setCell (p := ⟨R, 2, none⟩) (.inl rfl) (.slice A4 (st.l.length + k + 1) c4)) (fun i hi e => by
                      have := own_ge own4 i hi
                      have e : i = R := e
                      omega)
                    rw [htk, List.map_append, List.map_singleton, hbv, ← List.append_assoc]
                    unfold boC at this ⊢
                    rw [List.map_append, List.map_singleton]
                    exact this
                  · refine Only.setCell ?_ (p := ⟨R, 2, none⟩) (.inl (.inl rfl)) _
                    refine ((i4.out.alloc _).drew).then o4 fun i hi => ?_
                    rcases i5.out i hi with e | e
                    · exact .inl (.inr e)
                    · exact .inr e
                  · intro i hi
                    rcases hat with e | e
                    · rw [e] at hi
                      exact i5.out i hi
                    · rw [e] at hi
                      injection hi with hi
                      have := i4.out.size
                      subst hi
                      exact .inr (by simp; omega)
                clear own4 o4 hat j2 hoks hbv hR5 hn8 hz0 hz1 hz2 hi0
                gi_wp2
                refine wpIn_region_round (by kernel_rfl) (by kernel_rfl) ?_
                refine wpAnyIn_take (i := 5) (v := .string T) rfl rfl (by kernel_rfl) (by kernel_rfl) (by kernel_rfl) (fun _ _ _ h => h) ?h6 ?_
                case h6 =>
                  refine ⟨Or.inl ⟨?_, fun w => ?_⟩, fun _ => ?_⟩
                  · rfl
                  · go_simp
                  · rfl
                try go_simp
                refine wpAnyIn_take (i := 6) (v := .int .i64 k) rfl rfl (by kernel_rfl) (by kernel_rfl) (by kernel_rfl) (fun _ _ _ h => h) ?h6 ?_
                case h6 =>
                  refine ⟨Or.inl ⟨?_, fun w => ?_⟩, fun _ => ?_⟩
                  · rfl
                  · go_simp
                  · rfl
                try go_simp
                refine wpAnyIn_take (i := 7) (v := .int .u8 ((T[k]'(by rw [x3]; exact hlt9)).toNat : Int)) rfl rfl (by kernel_rfl) (by kernel_rfl) (by kernel_rfl) (fun _ _ _ h => h) ?h6 ?_
                case h6 =>
                  refine ⟨Or.inl ⟨?_, fun w => ?_⟩, fun _ => ?_⟩
                  · rfl
                  · go_simp
                  · rfl
                try go_simp
                refine wpAnyIn_take (i := 8) (v := .bool true) rfl rfl (by kernel_rfl) (by kernel_rfl) (by kernel_rfl) (fun _ _ _ h => h) ?h6 ?_
                case h6 =>
                  refine ⟨Or.inl ⟨?_, fun w => ?_⟩, fun _ => ?_⟩
                  · rfl
                  · go_simp
                  · rfl
                try go_simp
                refine wpAnyIn_ready (rs := [0, 1, 9]) (by kernel_rfl) (by simp) ((AllReadyIn.cons rfl (fun K hK => ?_) (AllReadyIn.cons rfl (fun K hK => ?_) (AllReadyIn.cons rfl (fun K hK => ?_) AllReadyIn.nil))))
                · go_simp
                  refine hK _ _ ?_
                  clear hK K
                  try go_simp
                  refine wpAnyIn_ready (rs := [1, 9]) (by kernel_rfl) (by simp) ((AllReadyIn.cons rfl (fun K hK => ?_) (AllReadyIn.cons rfl (fun K hK => ?_) AllReadyIn.nil)))
                  · go_simp
                    refine hK _ _ ?_
                    clear hK K
                    try go_simp
                    refine wpAnyIn_take (i := 2) (v := P R) rfl rfl (by kernel_rfl) (by kernel_rfl) (by kernel_rfl) (fun _ _ _ h => h) ?h6 ?_
                    case h6 =>
                      refine ⟨Or.inl ⟨?_, fun w => ?_⟩, fun _ => ?_⟩
                      · rfl
                      · go_simp
                      · rfl
                    try go_simp
                    refine wpAnyIn_take (i := 3) (v := .pointer (some ⟨R, 2, none⟩)) rfl rfl (by kernel_rfl) (by kernel_rfl) (by kernel_rfl) (fun _ _ _ h => h) ?h6 ?_
                    case h6 =>
                      refine ⟨Or.inl ⟨?_, fun w => ?_⟩, fun _ => ?_⟩
                      · rfl
                      · go_simp
                      · rfl
                    try go_simp
                    refine wpAnyIn_ready (rs := [4, 9]) (by kernel_rfl) (by simp) ((AllReadyIn.cons rfl (fun K hK => ?_) (AllReadyIn.cons rfl (fun K hK => ?_) AllReadyIn.nil)))
                    · go_simp
                      refine hK _ _ ?_
                      clear hK K
                      try go_simp
                      refine wpAnyIn_ready (rs := [9]) (by kernel_rfl) (by simp) ((AllReadyIn.cons rfl (fun K hK => ?_) AllReadyIn.nil))
                      · go_simp
                        refine hK _ _ ?_
                        clear hK K
                        try go_simp
                        refine wpAnyIn_ready (rs := [10]) (by kernel_rfl) (by simp) ((AllReadyIn.cons rfl (fun K hK => ?_) AllReadyIn.nil))
                        · refine step_append rfl rfl hrun ?_
                          refine hK _ _ ?_
                          clear hK K
                          try go_simp
                          refine wpAnyIn_take (i := 11) (v := P R) rfl rfl (by kernel_rfl) (by kernel_rfl) (by kernel_rfl) (fun _ _ _ h => h) ?h6 ?_
                          case h6 =>
                            refine ⟨Or.inl ⟨?_, fun w => ?_⟩, fun _ => ?_⟩
                            · rfl
                            · go_simp
                            · rfl
                          try go_simp
                          refine wpAnyIn_take (i := 12) (v := .pointer (some ⟨R, 2, none⟩)) rfl rfl (by kernel_rfl) (by kernel_rfl) (by kernel_rfl) (fun _ _ _ h => h) ?h6 ?_
                          case h6 =>
                            refine ⟨Or.inl ⟨?_, fun w => ?_⟩, fun _ => ?_⟩
                            · rfl
                            · go_simp
                            · rfl
                          try go_simp
                          refine wpAnyIn_ready (rs := [13]) (by kernel_rfl) (by simp) ((AllReadyIn.cons rfl (fun K hK => ?_) AllReadyIn.nil))
                          · go_simp
                            refine hK _ _ ?_
                            clear hK K
                            try go_simp
                            refine wpAnyIn_done (by kernel_rfl) ?_ _
                            gi_wp2
                            go_roundw
                            case rel => exact ⟨k + 1, by go_num, by omega, hrel5⟩
                            case measure => simp [intOf]; omega
                    · go_simp
                      refine hK _ _ ?_
                      clear hK K
                      try go_simp
                      refine wpAnyIn_ready (rs := [4]) (by kernel_rfl) (by simp) ((AllReadyIn.cons rfl (fun K hK => ?_) AllReadyIn.nil))
                      · go_simp
                        refine hK _ _ ?_
                        clear hK K
                        try go_simp
                        refine wpAnyIn_ready (rs := [10]) (by kernel_rfl) (by simp) ((AllReadyIn.cons rfl (fun K hK => ?_) AllReadyIn.nil))
                        · refine step_append rfl rfl hrun ?_
                          refine hK _ _ ?_
                          clear hK K
                          try go_simp
                          refine wpAnyIn_take (i := 11) (v := P R) rfl rfl (by kernel_rfl) (by kernel_rfl) (by kernel_rfl) (fun _ _ _ h => h) ?h6 ?_
                          case h6 =>
                            refine ⟨Or.inl ⟨?_, fun w => ?_⟩, fun _ => ?_⟩
                            · rfl
                            · go_simp
                            · rfl
                          try go_simp
                          refine wpAnyIn_take (i := 12) (v := .pointer (some ⟨R, 2, none⟩)) rfl rfl (by kernel_rfl) (by kernel_rfl) (by kernel_rfl) (fun _ _ _ h => h) ?h6 ?_
                          case h6 =>
                            refine ⟨Or.inl ⟨?_, fun w => ?_⟩, fun _ => ?_⟩
                            · rfl
                            · go_simp
                            · rfl
                          try go_simp
                          refine wpAnyIn_ready (rs := [13]) (by kernel_rfl) (by simp) ((AllReadyIn.cons rfl (fun K hK => ?_) AllReadyIn.nil))
                          · go_simp
                            refine hK _ _ ?_
                            clear hK K
                            try go_simp
                            refine wpAnyIn_done (by kernel_rfl) ?_ _
                            gi_wp2
                            go_roundw
                            case rel => exact ⟨k + 1, by go_num, by omega, hrel5⟩
                            case measure => simp [intOf]; omega
                  · go_simp
                    refine hK _ _ ?_
                    clear hK K
                    try go_simp
                    refine wpAnyIn_ready (rs := [1]) (by kernel_rfl) (by simp) ((AllReadyIn.cons rfl (fun K hK => ?_) AllReadyIn.nil))
                    · go_simp
                      refine hK _ _ ?_
                      clear hK K
                      try go_simp
                      refine wpAnyIn_take (i := 2) (v := P R) rfl rfl (by kernel_rfl) (by kernel_rfl) (by kernel_rfl) (fun _ _ _ h => h) ?h6 ?_
                      case h6 =>
                        refine ⟨Or.inl ⟨?_, fun w => ?_⟩, fun _ => ?_⟩
                        · rfl
                        · go_simp
                        · rfl
                      try go_simp
                      refine wpAnyIn_take (i := 3) (v := .pointer (some ⟨R, 2, none⟩)) rfl rfl (by kernel_rfl) (by kernel_rfl) (by kernel_rfl) (fun _ _ _ h => h) ?h6 ?_
                      case h6 =>
                        refine ⟨Or.inl ⟨?_, fun w => ?_⟩, fun _ => ?_⟩
                        · rfl
                        · go_simp
                        · rfl
                      try go_simp
                      refine wpAnyIn_ready (rs := [4]) (by kernel_rfl) (by simp) ((AllReadyIn.cons rfl (fun K hK => ?_) AllReadyIn.nil))
                      · go_simp
                        refine hK _ _ ?_
                        clear hK K
                        try go_simp
                        refine wpAnyIn_ready (rs := [10]) (by kernel_rfl) (by simp) ((AllReadyIn.cons rfl (fun K hK => ?_) AllReadyIn.nil))
                        · refine step_append rfl rfl hrun ?_
                          refine hK _ _ ?_
                          clear hK K
                          try go_simp
                          refine wpAnyIn_take (i := 11) (v := P R) rfl rfl (by kernel_rfl) (by kernel_rfl) (by kernel_rfl) (fun _ _ _ h => h) ?h6 ?_
                          case h6 =>
                            refine ⟨Or.inl ⟨?_, fun w => ?_⟩, fun _ => ?_⟩
                            · rfl
                            · go_simp
                            · rfl
                          try go_simp
                          refine wpAnyIn_take (i := 12) (v := .pointer (some ⟨R, 2, none⟩)) rfl rfl (by kernel_rfl) (by kernel_rfl) (by kernel_rfl) (fun _ _ _ h => h) ?h6 ?_
                          case h6 =>
                            refine ⟨Or.inl ⟨?_, fun w => ?_⟩, fun _ => ?_⟩
                            · rfl
                            · go_simp
                            · rfl
                          try go_simp
                          refine wpAnyIn_ready (rs := [13]) (by kernel_rfl) (by simp) ((AllReadyIn.cons rfl (fun K hK => ?_) AllReadyIn.nil))
                          · go_simp
                            refine hK _ _ ?_
                            clear hK K
                            try go_simp
                            refine wpAnyIn_done (by kernel_rfl) ?_ _
                            gi_wp2
                            go_roundw
                            case rel => exact ⟨k + 1, by go_num, by omega, hrel5⟩
                            case measure => simp [intOf]; omega
                · go_simp
                  refine hK _ _ ?_
                  clear hK K
                  try go_simp
                  refine wpAnyIn_take (i := 2) (v := P R) rfl rfl (by kernel_rfl) (by kernel_rfl) (by kernel_rfl) (fun _ _ _ h => h) ?h6 ?_
                  case h6 =>
                    refine ⟨Or.inl ⟨?_, fun w => ?_⟩, fun _ => ?_⟩
                    · rfl
                    · go_simp
                    · rfl
                  try go_simp
                  refine wpAnyIn_take (i := 3) (v := .pointer (some ⟨R, 2, none⟩)) rfl rfl (by kernel_rfl) (by kernel_rfl) (by kernel_rfl) (fun _ _ _ h => h) ?h6 ?_
                  case h6 =>
                    refine ⟨Or.inl ⟨?_, fun w => ?_⟩, fun _ => ?_⟩
                    · rfl
                    · go_simp
                    · rfl
                  try go_simp
                  refine wpAnyIn_ready (rs := [0, 4, 9]) (by kernel_rfl) (by simp) ((AllReadyIn.cons rfl (fun K hK => ?_) (AllReadyIn.cons rfl (fun K hK => ?_) (AllReadyIn.cons rfl (fun K hK => ?_) AllReadyIn.nil))))
                  · go_simp
                    refine hK _ _ ?_
                    clear hK K
                    try go_simp
                    refine wpAnyIn_ready (rs := [4, 9]) (by kernel_rfl) (by simp) ((AllReadyIn.cons rfl (fun K hK => ?_) (AllReadyIn.cons rfl (fun K hK => ?_) AllReadyIn.nil)))
                    · go_simp
                      refine hK _ _ ?_
                      clear hK K
                      try go_simp
                      refine wpAnyIn_ready (rs := [9]) (by kernel_rfl) (by simp) ((AllReadyIn.cons rfl (fun K hK => ?_) AllReadyIn.nil))
                      · go_simp
                        refine hK _ _ ?_
                        clear hK K
                        try go_simp
                        refine wpAnyIn_ready (rs := [10]) (by kernel_rfl) (by simp) ((AllReadyIn.cons rfl (fun K hK => ?_) AllReadyIn.nil))
                        · refine step_append rfl rfl hrun ?_
                          refine hK _ _ ?_
                          clear hK K
                          try go_simp
                          refine wpAnyIn_take (i := 11) (v := P R) rfl rfl (by kernel_rfl) (by kernel_rfl) (by kernel_rfl) (fun _ _ _ h => h) ?h6 ?_
                          case h6 =>
                            refine ⟨Or.inl ⟨?_, fun w => ?_⟩, fun _ => ?_⟩
                            · rfl
                            · go_simp
                            · rfl
                          try go_simp
                          refine wpAnyIn_take (i := 12) (v := .pointer (some ⟨R, 2, none⟩)) rfl rfl (by kernel_rfl) (by kernel_rfl) (by kernel_rfl) (fun _ _ _ h => h) ?h6 ?_
                          case h6 =>
                            refine ⟨Or.inl ⟨?_, fun w => ?_⟩, fun _ => ?_⟩
                            · rfl
                            · go_simp
                            · rfl
                          try go_simp
                          refine wpAnyIn_ready (rs := [13]) (by kernel_rfl) (by simp) ((AllReadyIn.cons rfl (fun K hK => ?_) AllReadyIn.nil))
                          · go_simp
                            refine hK _ _ ?_
                            clear hK K
                            try go_simp
                            refine wpAnyIn_done (by kernel_rfl) ?_ _
                            gi_wp2
                            go_roundw
                            case rel => exact ⟨k + 1, by go_num, by omega, hrel5⟩
                            case measure => simp [intOf]; omega
                    · go_simp
                      refine hK _ _ ?_
                      clear hK K
                      try go_simp
                      refine wpAnyIn_ready (rs := [4]) (by kernel_rfl) (by simp) ((AllReadyIn.cons rfl (fun K hK => ?_) AllReadyIn.nil))
                      · go_simp
                        refine hK _ _ ?_
                        clear hK K
                        try go_simp
                        refine wpAnyIn_ready (rs := [10]) (by kernel_rfl) (by simp) ((AllReadyIn.cons rfl (fun K hK => ?_) AllReadyIn.nil))
                        · refine step_append rfl rfl hrun ?_
                          refine hK _ _ ?_
                          clear hK K
                          try go_simp
                          refine wpAnyIn_take (i := 11) (v := P R) rfl rfl (by kernel_rfl) (by kernel_rfl) (by kernel_rfl) (fun _ _ _ h => h) ?h6 ?_
                          case h6 =>
                            refine ⟨Or.inl ⟨?_, fun w => ?_⟩, fun _ => ?_⟩
                            · rfl
                            · go_simp
                            · rfl
                          try go_simp
                          refine wpAnyIn_take (i := 12) (v := .pointer (some ⟨R, 2, none⟩)) rfl rfl (by kernel_rfl) (by kernel_rfl) (by kernel_rfl) (fun _ _ _ h => h) ?h6 ?_
                          case h6 =>
                            refine ⟨Or.inl ⟨?_, fun w => ?_⟩, fun _ => ?_⟩
                            · rfl
                            · go_simp
                            · rfl
                          try go_simp
                          refine wpAnyIn_ready (rs := [13]) (by kernel_rfl) (by simp) ((AllReadyIn.cons rfl (fun K hK => ?_) AllReadyIn.nil))
                          · go_simp
                            refine hK _ _ ?_
                            clear hK K
                            try go_simp
                            refine wpAnyIn_done (by kernel_rfl) ?_ _
                            gi_wp2
                            go_roundw
                            case rel => exact ⟨k + 1, by go_num, by omega, hrel5⟩
                            case measure => simp [intOf]; omega
                  · go_simp
                    refine hK _ _ ?_
                    clear hK K
                    try go_simp
                    refine wpAnyIn_ready (rs := [0, 9]) (by kernel_rfl) (by simp) ((AllReadyIn.cons rfl (fun K hK => ?_) (AllReadyIn.cons rfl (fun K hK => ?_) AllReadyIn.nil)))
                    · go_simp
                      refine hK _ _ ?_
                      clear hK K
                      try go_simp
                      refine wpAnyIn_ready (rs := [9]) (by kernel_rfl) (by simp) ((AllReadyIn.cons rfl (fun K hK => ?_) AllReadyIn.nil))
                      · go_simp
                        refine hK _ _ ?_
                        clear hK K
                        try go_simp
                        refine wpAnyIn_ready (rs := [10]) (by kernel_rfl) (by simp) ((AllReadyIn.cons rfl (fun K hK => ?_) AllReadyIn.nil))
                        · refine step_append rfl rfl hrun ?_
                          refine hK _ _ ?_
                          clear hK K
                          try go_simp
                          refine wpAnyIn_take (i := 11) (v := P R) rfl rfl (by kernel_rfl) (by kernel_rfl) (by kernel_rfl) (fun _ _ _ h => h) ?h6 ?_
                          case h6 =>
                            refine ⟨Or.inl ⟨?_, fun w => ?_⟩, fun _ => ?_⟩
                            · rfl
                            · go_simp
                            · rfl
                          try go_simp
                          refine wpAnyIn_take (i := 12) (v := .pointer (some ⟨R, 2, none⟩)) rfl rfl (by kernel_rfl) (by kernel_rfl) (by kernel_rfl) (fun _ _ _ h => h) ?h6 ?_
                          case h6 =>
                            refine ⟨Or.inl ⟨?_, fun w => ?_⟩, fun _ => ?_⟩
                            · rfl
                            · go_simp
                            · rfl
                          try go_simp
                          refine wpAnyIn_ready (rs := [13]) (by kernel_rfl) (by simp) ((AllReadyIn.cons rfl (fun K hK => ?_) AllReadyIn.nil))
                          · go_simp
                            refine hK _ _ ?_
                            clear hK K
                            try go_simp
                            refine wpAnyIn_done (by kernel_rfl) ?_ _
                            gi_wp2
                            go_roundw
                            case rel => exact ⟨k + 1, by go_num, by omega, hrel5⟩
                            case measure => simp [intOf]; omega
                    · go_simp
                      refine hK _ _ ?_
                      clear hK K
                      try go_simp
                      refine wpAnyIn_ready (rs := [0, 10]) (by kernel_rfl) (by simp) ((AllReadyIn.cons rfl (fun K hK => ?_) (AllReadyIn.cons rfl (fun K hK => ?_) AllReadyIn.nil)))
                      · go_simp
                        refine hK _ _ ?_
                        clear hK K
                        try go_simp
                        refine wpAnyIn_ready (rs := [10]) (by kernel_rfl) (by simp) ((AllReadyIn.cons rfl (fun K hK => ?_) AllReadyIn.nil))
                        · refine step_append rfl rfl hrun ?_
                          refine hK _ _ ?_
                          clear hK K
                          try go_simp
                          refine wpAnyIn_take (i := 11) (v := P R) rfl rfl (by kernel_rfl) (by kernel_rfl) (by kernel_rfl) (fun _ _ _ h => h) ?h6 ?_
                          case h6 =>
                            refine ⟨Or.inl ⟨?_, fun w => ?_⟩, fun _ => ?_⟩
                            · rfl
                            · go_simp
                            · rfl
                          try go_simp
                          refine wpAnyIn_take (i := 12) (v := .pointer (some ⟨R, 2, none⟩)) rfl rfl (by kernel_rfl) (by kernel_rfl) (by kernel_rfl) (fun _ _ _ h => h) ?h6 ?_
                          case h6 =>
                            refine ⟨Or.inl ⟨?_, fun w => ?_⟩, fun _ => ?_⟩
                            · rfl
                            · go_simp
                            · rfl
                          try go_simp
                          refine wpAnyIn_ready (rs := [13]) (by kernel_rfl) (by simp) ((AllReadyIn.cons rfl (fun K hK => ?_) AllReadyIn.nil))
                          · go_simp
                            refine hK _ _ ?_
                            clear hK K
                            try go_simp
                            refine wpAnyIn_done (by kernel_rfl) ?_ _
                            gi_wp2
                            go_roundw
                            case rel => exact ⟨k + 1, by go_num, by omega, hrel5⟩
                            case measure => simp [intOf]; omega
                      · refine step_append rfl rfl hrun ?_
                        refine hK _ _ ?_
                        clear hK K
                        try go_simp
                        refine wpAnyIn_ready (rs := [0]) (by kernel_rfl) (by simp) ((AllReadyIn.cons rfl (fun K hK => ?_) AllReadyIn.nil))
                        · go_simp
                          refine hK _ _ ?_
                          clear hK K
                          try go_simp
                          refine wpAnyIn_take (i := 11) (v := P R) rfl rfl (by kernel_rfl) (by kernel_rfl) (by kernel_rfl) (fun _ _ _ h => h) ?h6 ?_
                          case h6 =>
                            refine ⟨Or.inl ⟨?_, fun w => ?_⟩, fun _ => ?_⟩
                            · rfl
                            · go_simp
                            · rfl
                          try go_simp
                          refine wpAnyIn_take (i := 12) (v := .pointer (some ⟨R, 2, none⟩)) rfl rfl (by kernel_rfl) (by kernel_rfl) (by kernel_rfl) (fun _ _ _ h => h) ?h6 ?_
                          case h6 =>
                            refine ⟨Or.inl ⟨?_, fun w => ?_⟩, fun _ => ?_⟩
                            · rfl
                            · go_simp
                            · rfl
                          try go_simp
                          refine wpAnyIn_ready (rs := [13]) (by kernel_rfl) (by simp) ((AllReadyIn.cons rfl (fun K hK => ?_) AllReadyIn.nil))
                          · go_simp
                            refine hK _ _ ?_
                            clear hK K
                            try go_simp
                            refine wpAnyIn_done (by kernel_rfl) ?_ _
                            gi_wp2
                            go_roundw
                            case rel => exact ⟨k + 1, by go_num, by omega, hrel5⟩
                            case measure => simp [intOf]; omega
                  · go_simp
                    refine hK _ _ ?_
                    clear hK K
                    try go_simp
                    refine wpAnyIn_ready (rs := [0, 4]) (by kernel_rfl) (by simp) ((AllReadyIn.cons rfl (fun K hK => ?_) (AllReadyIn.cons rfl (fun K hK => ?_) AllReadyIn.nil)))
                    · go_simp
                      refine hK _ _ ?_
                      clear hK K
                      try go_simp
                      refine wpAnyIn_ready (rs := [4]) (by kernel_rfl) (by simp) ((AllReadyIn.cons rfl (fun K hK => ?_) AllReadyIn.nil))
                      · go_simp
                        refine hK _ _ ?_
                        clear hK K
                        try go_simp
                        refine wpAnyIn_ready (rs := [10]) (by kernel_rfl) (by simp) ((AllReadyIn.cons rfl (fun K hK => ?_) AllReadyIn.nil))
                        · refine step_append rfl rfl hrun ?_
                          refine hK _ _ ?_
                          clear hK K
                          try go_simp
                          refine wpAnyIn_take (i := 11) (v := P R) rfl rfl (by kernel_rfl) (by kernel_rfl) (by kernel_rfl) (fun _ _ _ h => h) ?h6 ?_
                          case h6 =>
                            refine ⟨Or.inl ⟨?_, fun w => ?_⟩, fun _ => ?_⟩
                            · rfl
                            · go_simp
                            · rfl
                          try go_simp
                          refine wpAnyIn_take (i := 12) (v := .pointer (some ⟨R, 2, none⟩)) rfl rfl (by kernel_rfl) (by kernel_rfl) (by kernel_rfl) (fun _ _ _ h => h) ?h6 ?_
                          case h6 =>
                            refine ⟨Or.inl ⟨?_, fun w => ?_⟩, fun _ => ?_⟩
                            · rfl
                            · go_simp
                            · rfl
                          try go_simp
                          refine wpAnyIn_ready (rs := [13]) (by kernel_rfl) (by simp) ((AllReadyIn.cons rfl (fun K hK => ?_) AllReadyIn.nil))
                          · go_simp
                            refine hK _ _ ?_
                            clear hK K
                            try go_simp
                            refine wpAnyIn_done (by kernel_rfl) ?_ _
                            gi_wp2
                            go_roundw
                            case rel => exact ⟨k + 1, by go_num, by omega, hrel5⟩
                            case measure => simp [intOf]; omega
                    · go_simp
                      refine hK _ _ ?_
                      clear hK K
                      try go_simp
                      refine wpAnyIn_ready (rs := [0, 10]) (by kernel_rfl) (by simp) ((AllReadyIn.cons rfl (fun K hK => ?_) (AllReadyIn.cons rfl (fun K hK => ?_) AllReadyIn.nil)))
                      · go_simp
                        refine hK _ _ ?_
                        clear hK K
                        try go_simp
                        refine wpAnyIn_ready (rs := [10]) (by kernel_rfl) (by simp) ((AllReadyIn.cons rfl (fun K hK => ?_) AllReadyIn.nil))
                        · refine step_append rfl rfl hrun ?_
                          refine hK _ _ ?_
                          clear hK K
                          try go_simp
                          refine wpAnyIn_take (i := 11) (v := P R) rfl rfl (by kernel_rfl) (by kernel_rfl) (by kernel_rfl) (fun _ _ _ h => h) ?h6 ?_
                          case h6 =>
                            refine ⟨Or.inl ⟨?_, fun w => ?_⟩, fun _ => ?_⟩
                            · rfl
                            · go_simp
                            · rfl
                          try go_simp
                          refine wpAnyIn_take (i := 12) (v := .pointer (some ⟨R, 2, none⟩)) rfl rfl (by kernel_rfl) (by kernel_rfl) (by kernel_rfl) (fun _ _ _ h => h) ?h6 ?_
                          case h6 =>
                            refine ⟨Or.inl ⟨?_, fun w => ?_⟩, fun _ => ?_⟩
                            · rfl
                            · go_simp
                            · rfl
                          try go_simp
                          refine wpAnyIn_ready (rs := [13]) (by kernel_rfl) (by simp) ((AllReadyIn.cons rfl (fun K hK => ?_) AllReadyIn.nil))
                          · go_simp
                            refine hK _ _ ?_
                            clear hK K
                            try go_simp
                            refine wpAnyIn_done (by kernel_rfl) ?_ _
                            gi_wp2
                            go_roundw
                            case rel => exact ⟨k + 1, by go_num, by omega, hrel5⟩
                            case measure => simp [intOf]; omega
                      · refine step_append rfl rfl hrun ?_
                        refine hK _ _ ?_
                        clear hK K
                        try go_simp
                        refine wpAnyIn_ready (rs := [0]) (by kernel_rfl) (by simp) ((AllReadyIn.cons rfl (fun K hK => ?_) AllReadyIn.nil))
                        · go_simp
                          refine hK _ _ ?_
                          clear hK K
                          try go_simp
                          refine wpAnyIn_take (i := 11) (v := P R) rfl rfl (by kernel_rfl) (by kernel_rfl) (by kernel_rfl) (fun _ _ _ h => h) ?h6 ?_
                          case h6 =>
                            refine ⟨Or.inl ⟨?_, fun w => ?_⟩, fun _ => ?_⟩
                            · rfl
                            · go_simp
                            · rfl
                          try go_simp
                          refine wpAnyIn_take (i := 12) (v := .pointer (some ⟨R, 2, none⟩)) rfl rfl (by kernel_rfl) (by kernel_rfl) (by kernel_rfl) (fun _ _ _ h => h) ?h6 ?_
                          case h6 =>
                            refine ⟨Or.inl ⟨?_, fun w => ?_⟩, fun _ => ?_⟩
                            · rfl
                            · go_simp
                            · rfl
                          try go_simp
                          refine wpAnyIn_ready (rs := [13]) (by kernel_rfl) (by simp) ((AllReadyIn.cons rfl (fun K hK => ?_) AllReadyIn.nil))
                          · go_simp
                            refine hK _ _ ?_
                            clear hK K
                            try go_simp
                            refine wpAnyIn_done (by kernel_rfl) ?_ _
                            gi_wp2
                            go_roundw
                            case rel => exact ⟨k + 1, by go_num, by omega, hrel5⟩
                            case measure => simp [intOf]; omega
                · go_simp
                  refine hK _ _ ?_
                  clear hK K
                  try go_simp
                  refine wpAnyIn_ready (rs := [0, 1]) (by kernel_rfl) (by simp) ((AllReadyIn.cons rfl (fun K hK => ?_) (AllReadyIn.cons rfl (fun K hK => ?_) AllReadyIn.nil)))
                  · go_simp
                    refine hK _ _ ?_
                    clear hK K
                    try go_simp
                    refine wpAnyIn_ready (rs := [1]) (by kernel_rfl) (by simp) ((AllReadyIn.cons rfl (fun K hK => ?_) AllReadyIn.nil))
                    · go_simp
                      refine hK _ _ ?_
                      clear hK K
                      try go_simp
                      refine wpAnyIn_take (i := 2) (v := P R) rfl rfl (by kernel_rfl) (by kernel_rfl) (by kernel_rfl) (fun _ _ _ h => h) ?h6 ?_
                      case h6 =>
                        refine ⟨Or.inl ⟨?_, fun w => ?_⟩, fun _ => ?_⟩
                        · rfl
                        · go_simp
                        · rfl
                      try go_simp
                      refine wpAnyIn_take (i := 3) (v := .pointer (some ⟨R, 2, none⟩)) rfl rfl (by kernel_rfl) (by kernel_rfl) (by kernel_rfl) (fun _ _ _ h => h) ?h6 ?_
                      case h6 =>
                        refine ⟨Or.inl ⟨?_, fun w => ?_⟩, fun _ => ?_⟩
                        · rfl
                        · go_simp
                        · rfl
                      try go_simp
                      refine wpAnyIn_ready (rs := [4]) (by kernel_rfl) (by simp) ((AllReadyIn.cons rfl (fun K hK => ?_) AllReadyIn.nil))
                      · go_simp
                        refine hK _ _ ?_
                        clear hK K
                        try go_simp
                        refine wpAnyIn_ready (rs := [10]) (by kernel_rfl) (by simp) ((AllReadyIn.cons rfl (fun K hK => ?_) AllReadyIn.nil))
                        · refine step_append rfl rfl hrun ?_
                          refine hK _ _ ?_
                          clear hK K
                          try go_simp
                          refine wpAnyIn_take (i := 11) (v := P R) rfl rfl (by kernel_rfl) (by kernel_rfl) (by kernel_rfl) (fun _ _ _ h => h) ?h6 ?_
                          case h6 =>
                            refine ⟨Or.inl ⟨?_, fun w => ?_⟩, fun _ => ?_⟩
                            · rfl
                            · go_simp
                            · rfl
                          try go_simp
                          refine wpAnyIn_take (i := 12) (v := .pointer (some ⟨R, 2, none⟩)) rfl rfl (by kernel_rfl) (by kernel_rfl) (by kernel_rfl) (fun _ _ _ h => h) ?h6 ?_
                          case h6 =>
                            refine ⟨Or.inl ⟨?_, fun w => ?_⟩, fun _ => ?_⟩
                            · rfl
                            · go_simp
                            · rfl
                          try go_simp
                          refine wpAnyIn_ready (rs := [13]) (by kernel_rfl) (by simp) ((AllReadyIn.cons rfl (fun K hK => ?_) AllReadyIn.nil))
                          · go_simp
                            refine hK _ _ ?_
                            clear hK K
                            try go_simp
                            refine wpAnyIn_done (by kernel_rfl) ?_ _
                            gi_wp2
                            go_roundw
                            case rel => exact ⟨k + 1, by go_num, by omega, hrel5⟩
                            case measure => simp [intOf]; omega
                  · go_simp
                    refine hK _ _ ?_
                    clear hK K
                    try go_simp
                    refine wpAnyIn_take (i := 2) (v := P R) rfl rfl (by kernel_rfl) (by kernel_rfl) (by kernel_rfl) (fun _ _ _ h => h) ?h6 ?_
                    case h6 =>
                      refine ⟨Or.inl ⟨?_, fun w => ?_⟩, fun _ => ?_⟩
                      · rfl
                      · go_simp
                      · rfl
                    try go_simp
                    refine wpAnyIn_take (i := 3) (v := .pointer (some ⟨R, 2, none⟩)) rfl rfl (by kernel_rfl) (by kernel_rfl) (by kernel_rfl) (fun _ _ _ h => h) ?h6 ?_
                    case h6 =>
                      refine ⟨Or.inl ⟨?_, fun w => ?_⟩, fun _ => ?_⟩
                      · rfl
                      · go_simp
                      · rfl
                    try go_simp
                    refine wpAnyIn_ready (rs := [0, 4]) (by kernel_rfl) (by simp) ((AllReadyIn.cons rfl (fun K hK => ?_) (AllReadyIn.cons rfl (fun K hK => ?_) AllReadyIn.nil)))
                    · go_simp
                      refine hK _ _ ?_
                      clear hK K
                      try go_simp
                      refine wpAnyIn_ready (rs := [4]) (by kernel_rfl) (by simp) ((AllReadyIn.cons rfl (fun K hK => ?_) AllReadyIn.nil))
                      · go_simp
                        refine hK _ _ ?_
                        clear hK K
                        try go_simp
                        refine wpAnyIn_ready (rs := [10]) (by kernel_rfl) (by simp) ((AllReadyIn.cons rfl (fun K hK => ?_) AllReadyIn.nil))
                        · refine step_append rfl rfl hrun ?_
                          refine hK _ _ ?_
                          clear hK K
                          try go_simp
                          refine wpAnyIn_take (i := 11) (v := P R) rfl rfl (by kernel_rfl) (by kernel_rfl) (by kernel_rfl) (fun _ _ _ h => h) ?h6 ?_
                          case h6 =>
                            refine ⟨Or.inl ⟨?_, fun w => ?_⟩, fun _ => ?_⟩
                            · rfl
                            · go_simp
                            · rfl
                          try go_simp
                          refine wpAnyIn_take (i := 12) (v := .pointer (some ⟨R, 2, none⟩)) rfl rfl (by kernel_rfl) (by kernel_rfl) (by kernel_rfl) (fun _ _ _ h => h) ?h6 ?_
                          case h6 =>
                            refine ⟨Or.inl ⟨?_, fun w => ?_⟩, fun _ => ?_⟩
                            · rfl
                            · go_simp
                            · rfl
                          try go_simp
                          refine wpAnyIn_ready (rs := [13]) (by kernel_rfl) (by simp) ((AllReadyIn.cons rfl (fun K hK => ?_) AllReadyIn.nil))
                          · go_simp
                            refine hK _ _ ?_
                            clear hK K
                            try go_simp
                            refine wpAnyIn_done (by kernel_rfl) ?_ _
                            gi_wp2
                            go_roundw
                            case rel => exact ⟨k + 1, by go_num, by omega, hrel5⟩
                            case measure => simp [intOf]; omega
                    · go_simp
                      refine hK _ _ ?_
                      clear hK K
                      try go_simp
                      refine wpAnyIn_ready (rs := [0, 10]) (by kernel_rfl) (by simp) ((AllReadyIn.cons rfl (fun K hK => ?_) (AllReadyIn.cons rfl (fun K hK => ?_) AllReadyIn.nil)))
                      · go_simp
                        refine hK _ _ ?_
                        clear hK K
                        try go_simp
                        refine wpAnyIn_ready (rs := [10]) (by kernel_rfl) (by simp) ((AllReadyIn.cons rfl (fun K hK => ?_) AllReadyIn.nil))
                        · refine step_append rfl rfl hrun ?_
                          refine hK _ _ ?_
                          clear hK K
                          try go_simp
                          refine wpAnyIn_take (i := 11) (v := P R) rfl rfl (by kernel_rfl) (by kernel_rfl) (by kernel_rfl) (fun _ _ _ h => h) ?h6 ?_
                          case h6 =>
                            refine ⟨Or.inl ⟨?_, fun w => ?_⟩, fun _ => ?_⟩
                            · rfl
                            · go_simp
                            · rfl
                          try go_simp
                          refine wpAnyIn_take (i := 12) (v := .pointer (some ⟨R, 2, none⟩)) rfl rfl (by kernel_rfl) (by kernel_rfl) (by kernel_rfl) (fun _ _ _ h => h) ?h6 ?_
                          case h6 =>
                            refine ⟨Or.inl ⟨?_, fun w => ?_⟩, fun _ => ?_⟩
                            · rfl
                            · go_simp
                            · rfl
                          try go_simp
                          refine wpAnyIn_ready (rs := [13]) (by kernel_rfl) (by simp) ((AllReadyIn.cons rfl (fun K hK => ?_) AllReadyIn.nil))
                          · go_simp
                            refine hK _ _ ?_
                            clear hK K
                            try go_simp
                            refine wpAnyIn_done (by kernel_rfl) ?_ _
                            gi_wp2
                            go_roundw
                            case rel => exact ⟨k + 1, by go_num, by omega, hrel5⟩
                            case measure => simp [intOf]; omega
                      · refine step_append rfl rfl hrun ?_
                        refine hK _ _ ?_
                        clear hK K
                        try go_simp
                        refine wpAnyIn_ready (rs := [0]) (by kernel_rfl) (by simp) ((AllReadyIn.cons rfl (fun K hK => ?_) AllReadyIn.nil))
                        · go_simp
                          refine hK _ _ ?_
                          clear hK K
                          try go_simp
                          refine wpAnyIn_take (i := 11) (v := P R) rfl rfl (by kernel_rfl) (by kernel_rfl) (by kernel_rfl) (fun _ _ _ h => h) ?h6 ?_
                          case h6 =>
                            refine ⟨Or.inl ⟨?_, fun w => ?_⟩, fun _ => ?_⟩
                            · rfl
                            · go_simp
                            · rfl
                          try go_simp
                          refine wpAnyIn_take (i := 12) (v := .pointer (some ⟨R, 2, none⟩)) rfl rfl (by kernel_rfl) (by kernel_rfl) (by kernel_rfl) (fun _ _ _ h => h) ?h6 ?_
                          case h6 =>
                            refine ⟨Or.inl ⟨?_, fun w => ?_⟩, fun _ => ?_⟩
                            · rfl
                            · go_simp
                            · rfl
                          try go_simp
                          refine wpAnyIn_ready (rs := [13]) (by kernel_rfl) (by simp) ((AllReadyIn.cons rfl (fun K hK => ?_) AllReadyIn.nil))
                          · go_simp
                            refine hK _ _ ?_
                            clear hK K
                            try go_simp
                            refine wpAnyIn_done (by kernel_rfl) ?_ _
                            gi_wp2
                            go_roundw
                            case rel => exact ⟨k + 1, by go_num, by omega, hrel5⟩
                            case measure => simp [intOf]; omega
            · obtain rfl : p = k := by omega
              have hall : x.1.all okc = true := by
                have := i1.out
                rw [List.take_of_length_le (by rw [hp.out]; exact Nat.le_refl _)] at this
                exact this
              have hn : Hid (rdL (pre ++ [x]) = some ⟨p, st.H + 1, st.l ++ x.1.map (· == 35)⟩) := Lib.hid (by rw [hrd.out, if_pos hall])
              have hown5 : wr.ownsRow w2.heap.size 4 1 (.slice A' (st.l.length + p) c') (st.l ++ x.1.map (· == 35)).length (boC (st.l ++ x.1.map (· == 35))) := by
                have := i3.out
                rw [List.take_of_length_le (by rw [hp.out]; exact Nat.le_refl _)] at this
                rw [List.length_append, List.length_map, hp.out]
                exact this
              replace hown5 := Lib.hid hown5
              gi_wp2
              have hge := own_ge kO.out
              have nS : ∀ i, i < w2.heap.size → i ≠ R → ¬ (i = R ∨ Lv.ownBlock = some i) := fun i hi hr e => by
                rcases e with e | e
                · exact hr e
                · have := hge i e
                  omega
              refine ⟨(KeepsOthers.of_only i4.out ?_).from _, i4.out.block b1 (Nat.lt_of_lt_of_le h1w hsz) (nS _ h1w hR1), ⟨⟨p, st.H + 1, st.l ++ x.1.map (· == 35)⟩, _, hn.out, i2.out, hown5.out, kk2.out, kk3.out, kk4.out, ho.out.then i4.out fun i hi => .inr ?_, Nat.le_trans hsz i4.out.size⟩⟩
              · rintro k (rfl | e)
                · exact ⟨_, _, _, kR.out⟩
                · exact own_cellsObj kO.out k e
              · rcases hi with e | e
                · omega
                · have := hge i e
                  omega
        · have hpe : p = st.W := by
            by_cases e : p = st.W
            · exact e
            · exact absurd ⟨hz, e⟩ hbad
          have hb2' : ((st.W : Nat) : Int) = (p : Int) := by omega
          have hb1' : (0 : Int) < (st.H : Int) := by omega
          clear hbad hpe
          gi_wp2
          obtain ⟨W1, hW1⟩ : ∃ W1, W1 = ((V.setCell { block := R, off := 0 } (Value.int IntKind.i64 (p : Int))).setCell { block := R, off := 1 } (Value.int IntKind.i64 ((st.H + 1 : Nat) : Int))) := ⟨_, rfl⟩
          have kR1 : Hid (Blk W1 R 54 #[.int .i64 (p : Int), .int .i64 ((st.H + 1 : Nat) : Int), Lv, .int .i64 ((0 : Nat) : Int)]) := Lib.hid (by rw [hW1]; exact (kR.out.set 0 _).set 1 _)
          have oW1 : Hid (Only (fun i => i = R ∨ Lv.ownBlock = some i) V W1) := Lib.hid (by rw [hW1]; exact ((Only.refl _ V).setCell (p := ⟨R, 0, none⟩) (.inl (.inl rfl)) _).setCell (p := ⟨R, 1, none⟩) (.inl (.inl rfl)) _)
          have oW1n : Hid (Only (One R) V W1) := Lib.hid (by rw [hW1]; exact ((Only.refl (One R) V).setCell (p := ⟨R, 0, none⟩) (.inl rfl) _).setCell (p := ⟨R, 1, none⟩) (.inl rfl) _)
          push_cast at hW1
          rw [← hW1]
          clear hW1
          gi_loopw [52] (fun v52 wr => ∃ k : Nat, v52 = .int .i64 k ∧ k ≤ p ∧ Hid (∃ Lv', (x.1.take k).all okc = true ∧ Blk wr R 54 #[.int .i64 (p : Int), .int .i64 ((st.H + 1 : Nat) : Int), Lv', .int .i64 ((0 : Nat) : Int)] ∧
            wr.ownsRow w2.heap.size 4 1 Lv' (st.l.length + k) (boC (st.l ++ (x.1.take k).map (· == 35))) ∧ Only (fun i => i = R ∨ Lv.ownBlock = some i) V wr ∧ ∀ i, Lv'.ownBlock = some i → Lv.ownBlock = some i ∨ V.heap.size ≤ i)) (fun v52 _ => p - (intOf v52).toNat)
          case atStart => exact ⟨0, rfl, Nat.zero_le _, Lib.hid ⟨Lv, by simp, kR1.out, by rw [List.take_zero, List.map_nil, List.append_nil]; exact own_only kO.out oW1n.out (fun i hi e => by have := own_ge kO.out i hi; have e : i = R := e; omega), oW1.out, fun i hi => .inl hi⟩⟩
          case round =>
            obtain ⟨k, rfl, hk, hI⟩ := hrel
            obtain ⟨Lv', i1, i2, i3, i4, i5⟩ := hI.out
            obtain ⟨A', c', rfl⟩ := own_slice i3
            have hge := own_ge kO.out
            have nS : ∀ i, i < w2.heap.size → i ≠ R → ¬ (i = R ∨ Lv.ownBlock = some i) := fun i hi hr e => by
              rcases e with e | e
              · exact hr e
              · have := hge i e
                omega
            have g0 := i2.cell 0
            have g2 := i2.cell 2
            have gf := i2.frozen 2
            have kk4 := k4.out.only i4 (nS _ h4w hR4)
            have kk2 := k2.out.only i4 (nS _ hwD hR2)
            have kk3 := k3.out.only i4 (nS _ h3w hR3)
            have z4r := kk4.cell 0
            have z2r := kk2.cell 0
            have z3r := kk3.cell 0
            have y2r := kk2.frozen 0
            have y3r := kk3.frozen 0
            simp only [List.getElem?_toArray, List.getElem?_cons_zero, List.getElem?_cons_succ] at g0 g2 z4r z2r z3r
            replace i1 := Lib.hid i1
            replace i2 := Lib.hid i2
            replace i3 := Lib.hid i3
            replace i4 := Lib.hid i4
            replace i5 := Lib.hid i5
            replace kk2 := Lib.hid kk2
            replace kk3 := Lib.hid kk3
            replace kk4 := Lib.hid kk4
            clear nS hge
            by_cases hlt9 : k < p
            · have hlt8 : (k : Int) < p := by omega
              have hTk : x.1[k]'(by rw [hp.out]; exact hlt9) = T[k]'(by rw [x3]; exact hlt9) := by
                have h9 : ∀ (U : ByteArray) (hU : (⟨x.1.toArray⟩ : ByteArray) = U) (h1 : k < U.size) (h2 : k < x.1.length), x.1[k] = U[k]'h1 := by
                  rintro U rfl h1 h2
                  rfl
                exact h9 T hT.out _ _
              cases h35 : (((T[k]'(by rw [x3]; exact hlt9)).toNat : Int) == 35)
              · cases h46 : (((T[k]'(by rw [x3]; exact hlt9)).toNat : Int) == 46)
                · have hbadk : x.1.all okc = false := by
                    rw [List.all_eq_false]
                    refine ⟨x.1[k]'(by rw [hp.out]; exact hlt9), List.getElem_mem _, ?_⟩
                    rw [hTk]
                    intro hh
                    unfold okc at hh
                    rcases (Bool.or_eq_true _ _).mp hh with e | e
                    · have e := eq_of_beq e
                      rw [e] at h35
                      cases h35
                    · have e := eq_of_beq e
                      rw [e] at h46
                      cases h46
                  have hn : Hid (rdL (pre ++ [x]) = none) := Lib.hid (by rw [hrd.out, if_neg (by rw [hbadk]; simp)])
                  gi_wp2
                  obtain ⟨W5, hW5⟩ : ∃ W5, W5 = ((wr.setCell { block := w.heap.size, off := 0 } (Value.pointer none)).setCell { block := b3, off := 0 } (Value.int IntKind.i64 310)) := ⟨_, rfl⟩
                  have o7 : Only (fun k => k = w.heap.size ∨ k = b3 ∨ k = R ∨ Lv.ownBlock = some k) V W5 := by rw [hW5]; exact ((i4.out.mono fun i hi => .inr (.inr hi)).setCell (p := ⟨w.heap.size, 0, none⟩) (.inl (.inl rfl)) _).setCell (p := ⟨b3, 0, none⟩) (.inl (.inr (.inl rfl))) _
                  have j2 : Blk W5 w.heap.size 24 #[.pointer none] := by rw [hW5]; exact (Blk.set0 kk2.out _).far hnB _
                  have j3 : Blk W5 b3 33 #[.int .i64 310] := by rw [hW5]; exact Blk.set0 (kk3.out.far (p := ⟨w.heap.size, 0, none⟩) hnA _) _
                  rw [← hW5]
                  refine ⟨(KeepsOthers.of_only o7 ?_).from _, hn.out, j2, j3, ho.out.then o7 fun i hi => .inr ?_⟩
                  · rintro k (rfl | rfl | rfl | e)
                    · exact ⟨_, _, _, k2.out⟩
                    · exact ⟨_, _, _, k3.out⟩
                    · exact ⟨_, _, _, kR.out⟩
                    · exact own_cellsObj kO.out k e
                  · rcases hi with e | e | e | e
                    · omega
                    · omega
                    · omega
                    · have := own_ge kO.out i e
                      omega
                · have hdummy := 0
                  have hoks : okc (x.1[k]'(by rw [hp.out]; exact hlt9)) = true := by
                    unfold okc
                    rw [hTk, beq_of_nat' h46]; rfl
                  have hbv : (x.1[k]'(by rw [hp.out]; exact hlt9) == 35) = false := by
                    rw [hTk, beq_of_nat' h46]; rfl
                  have hn8 : st.l.length ≤ 67117056 := by
                    have h1 := hok.out.1
                    have h2 := Nat.mul_le_mul hWle hHle
                    omega
                  have hR5 : ∀ i, (Value.slice A' (st.l.length + k) c').ownBlock = some i → ¬ i = R := fun i hi e => by
                    have := own_ge i3.out i hi
                    omega
                  obtain ⟨i0, hi0, hz0, hz1, hz2⟩ := info_parts info4
                  obtain ⟨v', w4, hrun, own4, o4, hat⟩ := run_append_any (P := Try.prog) ((wr.alloc (Obj.cells #[Value.bool false] 4)).drew) w2.heap.size 22 22 4 i0 (.bool false) 1 1 Try.underlying22 hi0 hz0 hz1 hz2 rfl (by decide) (.slice A' (st.l.length + k) c') (st.l.length + k) _ (own_only i3.out (((Only.refl No wr).alloc _).drew) (fun _ _ => id)) (some ⟨wr.heap.size, 0, none⟩) 1 1 [.bool false] ((Rds.fresh (n := 1) (size := 1) (Blk.new wr 4 #[.bool false]) rfl).no ((Only.refl No _).drew)) (by simp [Value.oneCell']) (by unfold maxLen; omega) (by omega) (by have := i4.out.size; simp; omega)
                  obtain ⟨A4, c4, rfl⟩ := own_slice own4
                  have j2 : Blk w4 R 54 #[.int .i64 (p : Int), .int .i64 ((st.H + 1 : Nat) : Int), .slice A' (st.l.length + k) c', .int .i64 ((0 : Nat) : Int)] := ((i2.out.alloc _).drewN 1).only o4 (fun e => hR5 R e rfl)
                  have jc := j2.cell 2
                  have z4c := (kk4.out.alloc (.cells #[.bool false] 4)).cell 0
                  have z4d := (((kk4.out.alloc (.cells #[.bool false] 4)).drewN 1).only o4 (fun e => by have := own_ge i3.out _ e; omega)).cell 0
                  have g2c := (i2.out.alloc (.cells #[.bool false] 4)).cell 2
                  have jf := j2.frozen 2
                  simp only [List.getElem?_toArray, List.getElem?_cons_zero, List.getElem?_cons_succ] at jc z4c z4d g2c
                  have hrel5 : Hid (∃ Lv', (x.1.take (k + 1)).all okc = true ∧ Blk (w4.setCell ⟨R, 2, none⟩ (.slice A4 (st.l.length + k + 1) c4)) R 54 #[.int .i64 (p : Int), .int .i64 ((st.H + 1 : Nat) : Int), Lv', .int .i64 ((0 : Nat) : Int)] ∧
                      (w4.setCell ⟨R, 2, none⟩ (.slice A4 (st.l.length + k + 1) c4)).ownsRow w2.heap.size 4 1 Lv' (st.l.length + (k + 1)) (boC (st.l ++ (x.1.take (k + 1)).map (· == 35))) ∧ Only (fun i => i = R ∨ Lv.ownBlock = some i) V (w4.setCell ⟨R, 2, none⟩ (.slice A4 (st.l.length + k + 1) c4)) ∧ ∀ i, Lv'.ownBlock = some i → Lv.ownBlock = some i ∨ V.heap.size ≤ i) := by
                    have htk : x.1.take (k + 1) = x.1.take k ++ [x.1[k]'(by rw [hp.out]; exact hlt9)] := List.take_succ_eq_append_getElem _
                    refine Lib.hid ⟨.slice A4 (st.l.length + k + 1) c4, ?_, j2.set 2 _, ?_, ?_, ?_⟩
                    · rw [htk, List.all_append, i1.out]
                      simp [hoks]
                    · have := own_only own4 ((Only.refl (One R) w4).setCell (p := ⟨R, 2, none⟩) (.inl rfl) (.slice A4 (st.l.length + k + 1) c4)) (fun i hi e => by
                        have := own_ge own4 i hi
                        have e : i = R := e
                        omega)
                      rw [htk, List.map_append, List.map_singleton, hbv, ← List.append_assoc]
                      unfold boC at this ⊢
                      rw [List.map_append, List.map_singleton]
                      exact this
                    · refine Only.setCell ?_ (p := ⟨R, 2, none⟩) (.inl (.inl rfl)) _
                      refine ((i4.out.alloc _).drew).then o4 fun i hi => ?_
                      rcases i5.out i hi with e | e
                      · exact .inl (.inr e)
                      · exact .inr e
                    · intro i hi
                      rcases hat with e | e
                      · rw [e] at hi
                        exact i5.out i hi
                      · rw [e] at hi
                        injection hi with hi
                        have := i4.out.size
                        subst hi
                        exact .inr (by simp; omega)
                  clear own4 o4 hat j2 hoks hbv hR5 hn8 hz0 hz1 hz2 hi0
                  gi_wp2
                  refine wpIn_region_round (by kernel_rfl) (by kernel_rfl) ?_
                  refine wpAnyIn_take (i := 5) (v := .string T) rfl rfl (by kernel_rfl) (by kernel_rfl) (by kernel_rfl) (fun _ _ _ h => h) ?h6 ?_
                  case h6 =>
                    refine ⟨Or.inl ⟨?_, fun w => ?_⟩, fun _ => ?_⟩
                    · rfl
                    · go_simp
                    · rfl
                  try go_simp
                  refine wpAnyIn_take (i := 6) (v := .int .i64 k) rfl rfl (by kernel_rfl) (by kernel_rfl) (by kernel_rfl) (fun _ _ _ h => h) ?h6 ?_
                  case h6 =>
                    refine ⟨Or.inl ⟨?_, fun w => ?_⟩, fun _ => ?_⟩
                    · rfl
                    · go_simp
                    · rfl
                  try go_simp
                  refine wpAnyIn_take (i := 7) (v := .int .u8 ((T[k]'(by rw [x3]; exact hlt9)).toNat : Int)) rfl rfl (by kernel_rfl) (by kernel_rfl) (by kernel_rfl) (fun _ _ _ h => h) ?h6 ?_
                  case h6 =>
                    refine ⟨Or.inl ⟨?_, fun w => ?_⟩, fun _ => ?_⟩
                    · rfl
                    · go_simp
                    · rfl
                  try go_simp
                  refine wpAnyIn_take (i := 8) (v := .bool false) rfl rfl (by kernel_rfl) (by kernel_rfl) (by kernel_rfl) (fun _ _ _ h => h) ?h6 ?_
                  case h6 =>
                    refine ⟨Or.inl ⟨?_, fun w => ?_⟩, fun _ => ?_⟩
                    · rfl
                    · go_simp
                    · rfl
                  try go_simp
                  refine wpAnyIn_ready (rs := [0, 1, 9]) (by kernel_rfl) (by simp) ((AllReadyIn.cons rfl (fun K hK => ?_) (AllReadyIn.cons rfl (fun K hK => ?_) (AllReadyIn.cons rfl (fun K hK => ?_) AllReadyIn.nil))))
                  · go_simp
                    refine hK _ _ ?_
                    clear hK K
                    try go_simp
                    refine wpAnyIn_ready (rs := [1, 9]) (by kernel_rfl) (by simp) ((AllReadyIn.cons rfl (fun K hK => ?_) (AllReadyIn.cons rfl (fun K hK => ?_) AllReadyIn.nil)))
                    · go_simp
                      refine hK _ _ ?_
                      clear hK K
                      try go_simp
                      refine wpAnyIn_take (i := 2) (v := P R) rfl rfl (by kernel_rfl) (by kernel_rfl) (by kernel_rfl) (fun _ _ _ h => h) ?h6 ?_
                      case h6 =>
                        refine ⟨Or.inl ⟨?_, fun w => ?_⟩, fun _ => ?_⟩
                        · rfl
                        · go_simp
                        · rfl
                      try go_simp
                      refine wpAnyIn_take (i := 3) (v := .pointer (some ⟨R, 2, none⟩)) rfl rfl (by kernel_rfl) (by kernel_rfl) (by kernel_rfl) (fun _ _ _ h => h) ?h6 ?_
                      case h6 =>
                        refine ⟨Or.inl ⟨?_, fun w => ?_⟩, fun _ => ?_⟩
                        · rfl
                        · go_simp
                        · rfl
                      try go_simp
                      refine wpAnyIn_ready (rs := [4, 9]) (by kernel_rfl) (by simp) ((AllReadyIn.cons rfl (fun K hK => ?_) (AllReadyIn.cons rfl (fun K hK => ?_) AllReadyIn.nil)))
                      · go_simp
                        refine hK _ _ ?_
                        clear hK K
                        try go_simp
                        refine wpAnyIn_ready (rs := [9]) (by kernel_rfl) (by simp) ((AllReadyIn.cons rfl (fun K hK => ?_) AllReadyIn.nil))
                        · go_simp
                          refine hK _ _ ?_
                          clear hK K
                          try go_simp
                          refine wpAnyIn_ready (rs := [10]) (by kernel_rfl) (by simp) ((AllReadyIn.cons rfl (fun K hK => ?_) AllReadyIn.nil))
                          · refine step_append rfl rfl hrun ?_
                            refine hK _ _ ?_
                            clear hK K
                            try go_simp
                            refine wpAnyIn_take (i := 11) (v := P R) rfl rfl (by kernel_rfl) (by kernel_rfl) (by kernel_rfl) (fun _ _ _ h => h) ?h6 ?_
                            case h6 =>
                              refine ⟨Or.inl ⟨?_, fun w => ?_⟩, fun _ => ?_⟩
                              · rfl
                              · go_simp
                              · rfl
                            try go_simp
                            refine wpAnyIn_take (i := 12) (v := .pointer (some ⟨R, 2, none⟩)) rfl rfl (by kernel_rfl) (by kernel_rfl) (by kernel_rfl) (fun _ _ _ h => h) ?h6 ?_
                            case h6 =>
                              refine ⟨Or.inl ⟨?_, fun w => ?_⟩, fun _ => ?_⟩
                              · rfl
                              · go_simp
                              · rfl
                            try go_simp
                            refine wpAnyIn_ready (rs := [13]) (by kernel_rfl) (by simp) ((AllReadyIn.cons rfl (fun K hK => ?_) AllReadyIn.nil))
                            · go_simp
                              refine hK _ _ ?_
                              clear hK K
                              try go_simp
                              refine wpAnyIn_done (by kernel_rfl) ?_ _
                              gi_wp2
                              go_roundw
                              case rel => exact ⟨k + 1, by go_num, by omega, hrel5⟩
                              case measure => simp [intOf]; omega
                      · go_simp
                        refine hK _ _ ?_
                        clear hK K
                        try go_simp
                        refine wpAnyIn_ready (rs := [4]) (by kernel_rfl) (by simp) ((AllReadyIn.cons rfl (fun K hK => ?_) AllReadyIn.nil))
                        · go_simp
                          refine hK _ _ ?_
                          clear hK K
                          try go_simp
                          refine wpAnyIn_ready (rs := [10]) (by kernel_rfl) (by simp) ((AllReadyIn.cons rfl (fun K hK => ?_) AllReadyIn.nil))
                          · refine step_append rfl rfl hrun ?_
                            refine hK _ _ ?_
                            clear hK K
                            try go_simp
                            refine wpAnyIn_take (i := 11) (v := P R) rfl rfl (by kernel_rfl) (by kernel_rfl) (by kernel_rfl) (fun _ _ _ h => h) ?h6 ?_
                            case h6 =>
                              refine ⟨Or.inl ⟨?_, fun w => ?_⟩, fun _ => ?_⟩
                              · rfl
                              · go_simp
                              · rfl
                            try go_simp
                            refine wpAnyIn_take (i := 12) (v := .pointer (some ⟨R, 2, none⟩)) rfl rfl (by kernel_rfl) (by kernel_rfl) (by kernel_rfl) (fun _ _ _ h => h) ?h6 ?_
                            case h6 =>
                              refine ⟨Or.inl ⟨?_, fun w => ?_⟩, fun _ => ?_⟩
                              · rfl
                              · go_simp
                              · rfl
                            try go_simp
                            refine wpAnyIn_ready (rs := [13]) (by kernel_rfl) (by simp) ((AllReadyIn.cons rfl (fun K hK => ?_) AllReadyIn.nil))
                            · go_simp
                              refine hK _ _ ?_
                              clear hK K
                              try go_simp
                              refine wpAnyIn_done (by kernel_rfl) ?_ _
                              gi_wp2
                              go_roundw
                              case rel => exact ⟨k + 1, by go_num, by omega, hrel5⟩
                              case measure => simp [intOf]; omega
                    · go_simp
                      refine hK _ _ ?_
                      clear hK K
                      try go_simp
                      refine wpAnyIn_ready (rs := [1]) (by kernel_rfl) (by simp) ((AllReadyIn.cons rfl (fun K hK => ?_) AllReadyIn.nil))
                      · go_simp
                        refine hK _ _ ?_
                        clear hK K
                        try go_simp
                        refine wpAnyIn_take (i := 2) (v := P R) rfl rfl (by kernel_rfl) (by kernel_rfl) (by kernel_rfl) (fun _ _ _ h => h) ?h6 ?_
                        case h6 =>
                          refine ⟨Or.inl ⟨?_, fun w => ?_⟩, fun _ => ?_⟩
                          · rfl
                          · go_simp
                          · rfl
                        try go_simp
                        refine wpAnyIn_take (i := 3) (v := .pointer (some ⟨R, 2, none⟩)) rfl rfl (by kernel_rfl) (by kernel_rfl) (by kernel_rfl) (fun _ _ _ h => h) ?h6 ?_
                        case h6 =>
                          refine ⟨Or.inl ⟨?_, fun w => ?_⟩, fun _ => ?_⟩
                          · rfl
                          · go_simp
                          · rfl
                        try go_simp
                        refine wpAnyIn_ready (rs := [4]) (by kernel_rfl) (by simp) ((AllReadyIn.cons rfl (fun K hK => ?_) AllReadyIn.nil))
                        · go_simp
                          refine hK _ _ ?_
                          clear hK K
                          try go_simp
                          refine wpAnyIn_ready (rs := [10]) (by kernel_rfl) (by simp) ((AllReadyIn.cons rfl (fun K hK => ?_) AllReadyIn.nil))
                          · refine step_append rfl rfl hrun ?_
                            refine hK _ _ ?_
                            clear hK K
                            try go_simp
                            refine wpAnyIn_take (i := 11) (v := P R) rfl rfl (by kernel_rfl) (by kernel_rfl) (by kernel_rfl) (fun _ _ _ h => h) ?h6 ?_
                            case h6 =>
                              refine ⟨Or.inl ⟨?_, fun w => ?_⟩, fun _ => ?_⟩
                              · rfl
                              · go_simp
                              · rfl
                            try go_simp
                            refine wpAnyIn_take (i := 12) (v := .pointer (some ⟨R, 2, none⟩)) rfl rfl (by kernel_rfl) (by kernel_rfl) (by kernel_rfl) (fun _ _ _ h => h) ?h6 ?_
                            case h6 =>
                              refine ⟨Or.inl ⟨?_, fun w => ?_⟩, fun _ => ?_⟩
                              · rfl
                              · go_simp
                              · rfl
                            try go_simp
                            refine wpAnyIn_ready (rs := [13]) (by kernel_rfl) (by simp) ((AllReadyIn.cons rfl (fun K hK => ?_) AllReadyIn.nil))
                            · go_simp
                              refine hK _ _ ?_
                              clear hK K
                              try go_simp
                              refine wpAnyIn_done (by kernel_rfl) ?_ _
                              gi_wp2
                              go_roundw
                              case rel => exact ⟨k + 1, by go_num, by omega, hrel5⟩
                              case measure => simp [intOf]; omega
                  · go_simp
                    refine hK _ _ ?_
                    clear hK K
                    try go_simp
                    refine wpAnyIn_take (i := 2) (v := P R) rfl rfl (by kernel_rfl) (by kernel_rfl) (by kernel_rfl) (fun _ _ _ h => h) ?h6 ?_
                    case h6 =>
                      refine ⟨Or.inl ⟨?_, fun w => ?_⟩, fun _ => ?_⟩
                      · rfl
                      · go_simp
                      · rfl
                    try go_simp
                    refine wpAnyIn_take (i := 3) (v := .pointer (some ⟨R, 2, none⟩)) rfl rfl (by kernel_rfl) (by kernel_rfl) (by kernel_rfl) (fun _ _ _ h => h) ?h6 ?_
                    case h6 =>
                      refine ⟨Or.inl ⟨?_, fun w => ?_⟩, fun _ => ?_⟩
                      · rfl
                      · go_simp
                      · rfl
                    try go_simp
                    refine wpAnyIn_ready (rs := [0, 4, 9]) (by kernel_rfl) (by simp) ((AllReadyIn.cons rfl (fun K hK => ?_) (AllReadyIn.cons rfl (fun K hK => ?_) (AllReadyIn.cons rfl (fun K hK => ?_) AllReadyIn.nil))))
                    · go_simp
                      refine hK _ _ ?_
                      clear hK K
                      try go_simp
                      refine wpAnyIn_ready (rs := [4, 9]) (by kernel_rfl) (by simp) ((AllReadyIn.cons rfl (fun K hK => ?_) (AllReadyIn.cons rfl (fun K hK => ?_) AllReadyIn.nil)))
                      · go_simp
                        refine hK _ _ ?_
                        clear hK K
                        try go_simp
                        refine wpAnyIn_ready (rs := [9]) (by kernel_rfl) (by simp) ((AllReadyIn.cons rfl (fun K hK => ?_) AllReadyIn.nil))
                        · go_simp
                          refine hK _ _ ?_
                          clear hK K
                          try go_simp
                          refine wpAnyIn_ready (rs := [10]) (by kernel_rfl) (by simp) ((AllReadyIn.cons rfl (fun K hK => ?_) AllReadyIn.nil))
                          · refine step_append rfl rfl hrun ?_
                            refine hK _ _ ?_
                            clear hK K
                            try go_simp
                            refine wpAnyIn_take (i := 11) (v := P R) rfl rfl (by kernel_rfl) (by kernel_rfl) (by kernel_rfl) (fun _ _ _ h => h) ?h6 ?_
                            case h6 =>
                              refine ⟨Or.inl ⟨?_, fun w => ?_⟩, fun _ => ?_⟩
                              · rfl
                              · go_simp
                              · rfl
                            try go_simp
                            refine wpAnyIn_take (i := 12) (v := .pointer (some ⟨R, 2, none⟩)) rfl rfl (by kernel_rfl) (by kernel_rfl) (by kernel_rfl) (fun _ _ _ h => h) ?h6 ?_
                            case h6 =>
                              refine ⟨Or.inl ⟨?_, fun w => ?_⟩, fun _ => ?_⟩
                              · rfl
                              · go_simp
                              · rfl
                            try go_simp
                            refine wpAnyIn_ready (rs := [13]) (by kernel_rfl) (by simp) ((AllReadyIn.cons rfl (fun K hK => ?_) AllReadyIn.nil))
                            · go_simp
                              refine hK _ _ ?_
                              clear hK K
                              try go_simp
                              refine wpAnyIn_done (by kernel_rfl) ?_ _
                              gi_wp2
                              go_roundw
                              case rel => exact ⟨k + 1, by go_num, by omega, hrel5⟩
                              case measure => simp [intOf]; omega
                      · go_simp
                        refine hK _ _ ?_
                        clear hK K
                        try go_simp
                        refine wpAnyIn_ready (rs := [4]) (by kernel_rfl) (by simp) ((AllReadyIn.cons rfl (fun K hK => ?_) AllReadyIn.nil))
                        · go_simp
                          refine hK _ _ ?_
                          clear hK K
                          try go_simp
                          refine wpAnyIn_ready (rs := [10]) (by kernel_rfl) (by simp) ((AllReadyIn.cons rfl (fun K hK => ?_) AllReadyIn.nil))
                          · refine step_append rfl rfl hrun ?_
                            refine hK _ _ ?_
                            clear hK K
                            try go_simp
                            refine wpAnyIn_take (i := 11) (v := P R) rfl rfl (by kernel_rfl) (by kernel_rfl) (by kernel_rfl) (fun _ _ _ h => h) ?h6 ?_
                            case h6 =>
                              refine ⟨Or.inl ⟨?_, fun w => ?_⟩, fun _ => ?_⟩
                              · rfl
                              · go_simp
                              · rfl
                            try go_simp
                            refine wpAnyIn_take (i := 12) (v := .pointer (some ⟨R, 2, none⟩)) rfl rfl (by kernel_rfl) (by kernel_rfl) (by kernel_rfl) (fun _ _ _ h => h) ?h6 ?_
                            case h6 =>
                              refine ⟨Or.inl ⟨?_, fun w => ?_⟩, fun _ => ?_⟩
                              · rfl
                              · go_simp
                              · rfl
                            try go_simp
                            refine wpAnyIn_ready (rs := [13]) (by kernel_rfl) (by simp) ((AllReadyIn.cons rfl (fun K hK => ?_) AllReadyIn.nil))
                            · go_simp
                              refine hK _ _ ?_
                              clear hK K
                              try go_simp
                              refine wpAnyIn_done (by kernel_rfl) ?_ _
                              gi_wp2
                              go_roundw
                              case rel => exact ⟨k + 1, by go_num, by omega, hrel5⟩
                              case measure => simp [intOf]; omega
                    · go_simp
                      refine hK _ _ ?_
                      clear hK K
                      try go_simp
                      refine wpAnyIn_ready (rs := [0, 9]) (by kernel_rfl) (by simp) ((AllReadyIn.cons rfl (fun K hK => ?_) (AllReadyIn.cons rfl (fun K hK => ?_) AllReadyIn.nil)))
                      · go_simp
                        refine hK _ _ ?_
                        clear hK K
                        try go_simp
                        refine wpAnyIn_ready (rs := [9]) (by kernel_rfl) (by simp) ((AllReadyIn.cons rfl (fun K hK => ?_) AllReadyIn.nil))
                        · go_simp
                          refine hK _ _ ?_
                          clear hK K
                          try go_simp
                          refine wpAnyIn_ready (rs := [10]) (by kernel_rfl) (by simp) ((AllReadyIn.cons rfl (fun K hK => ?_) AllReadyIn.nil))
                          · refine step_append rfl rfl hrun ?_
                            refine hK _ _ ?_
                            clear hK K
                            try go_simp
                            refine wpAnyIn_take (i := 11) (v := P R) rfl rfl (by kernel_rfl) (by kernel_rfl) (by kernel_rfl) (fun _ _ _ h => h) ?h6 ?_
                            case h6 =>
                              refine ⟨Or.inl ⟨?_, fun w => ?_⟩, fun _ => ?_⟩
                              · rfl
                              · go_simp
                              · rfl
                            try go_simp
                            refine wpAnyIn_take (i := 12) (v := .pointer (some ⟨R, 2, none⟩)) rfl rfl (by kernel_rfl) (by kernel_rfl) (by kernel_rfl) (fun _ _ _ h => h) ?h6 ?_
                            case h6 =>
                              refine ⟨Or.inl ⟨?_, fun w => ?_⟩, fun _ => ?_⟩
                              · rfl
                              · go_simp
                              · rfl
                            try go_simp
                            refine wpAnyIn_ready (rs := [13]) (by kernel_rfl) (by simp) ((AllReadyIn.cons rfl (fun K hK => ?_) AllReadyIn.nil))
                            · go_simp
                              refine hK _ _ ?_
                              clear hK K
                              try go_simp
                              refine wpAnyIn_done (by kernel_rfl) ?_ _
                              gi_wp2
                              go_roundw
                              case rel => exact ⟨k + 1, by go_num, by omega, hrel5⟩
                              case measure => simp [intOf]; omega
                      · go_simp
                        refine hK _ _ ?_
                        clear hK K
                        try go_simp
                        refine wpAnyIn_ready (rs := [0, 10]) (by kernel_rfl) (by simp) ((AllReadyIn.cons rfl (fun K hK => ?_) (AllReadyIn.cons rfl (fun K hK => ?_) AllReadyIn.nil)))
                        · go_simp
                          refine hK _ _ ?_
                          clear hK K
                          try go_simp
                          refine wpAnyIn_ready (rs := [10]) (by kernel_rfl) (by simp) ((AllReadyIn.cons rfl (fun K hK => ?_) AllReadyIn.nil))
                          · refine step_append rfl rfl hrun ?_
                            refine hK _ _ ?_
                            clear hK K
                            try go_simp
                            refine wpAnyIn_take (i := 11) (v := P R) rfl rfl (by kernel_rfl) (by kernel_rfl) (by kernel_rfl) (fun _ _ _ h => h) ?h6 ?_
                            case h6 =>
                              refine ⟨Or.inl ⟨?_, fun w => ?_⟩, fun _ => ?_⟩
                              · rfl
                              · go_simp
                              · rfl
                            try go_simp
                            refine wpAnyIn_take (i := 12) (v := .pointer (some ⟨R, 2, none⟩)) rfl rfl (by kernel_rfl) (by kernel_rfl) (by kernel_rfl) (fun _ _ _ h => h) ?h6 ?_
                            case h6 =>
                              refine ⟨Or.inl ⟨?_, fun w => ?_⟩, fun _ => ?_⟩
                              · rfl
                              · go_simp
                              · rfl
                            try go_simp
                            refine wpAnyIn_ready (rs := [13]) (by kernel_rfl) (by simp) ((AllReadyIn.cons rfl (fun K hK => ?_) AllReadyIn.nil))
                            · go_simp
                              refine hK _ _ ?_
                              clear hK K
                              try go_simp
                              refine wpAnyIn_done (by kernel_rfl) ?_ _
                              gi_wp2
                              go_roundw
                              case rel => exact ⟨k + 1, by go_num, by omega, hrel5⟩
                              case measure => simp [intOf]; omega
                        · refine step_append rfl rfl hrun ?_
                          refine hK _ _ ?_
                          clear hK K
                          try go_simp
                          refine wpAnyIn_ready (rs := [0]) (by kernel_rfl) (by simp) ((AllReadyIn.cons rfl (fun K hK => ?_) AllReadyIn.nil))
                          · go_simp
                            refine hK _ _ ?_
                            clear hK K
                            try go_simp
                            refine wpAnyIn_take (i := 11) (v := P R) rfl rfl (by kernel_rfl) (by kernel_rfl) (by kernel_rfl) (fun _ _ _ h => h) ?h6 ?_
                            case h6 =>
                              refine ⟨Or.inl ⟨?_, fun w => ?_⟩, fun _ => ?_⟩
                              · rfl
                              · go_simp
                              · rfl
                            try go_simp
                            refine wpAnyIn_take (i := 12) (v := .pointer (some ⟨R, 2, none⟩)) rfl rfl (by kernel_rfl) (by kernel_rfl) (by kernel_rfl) (fun _ _ _ h => h) ?h6 ?_
                            case h6 =>
                              refine ⟨Or.inl ⟨?_, fun w => ?_⟩, fun _ => ?_⟩
                              · rfl
                              · go_simp
                              · rfl
                            try go_simp
                            refine wpAnyIn_ready (rs := [13]) (by kernel_rfl) (by simp) ((AllReadyIn.cons rfl (fun K hK => ?_) AllReadyIn.nil))
                            · go_simp
                              refine hK _ _ ?_
                              clear hK K
                              try go_simp
                              refine wpAnyIn_done (by kernel_rfl) ?_ _
                              gi_wp2
                              go_roundw
                              case rel => exact ⟨k + 1, by go_num, by omega, hrel5⟩
                              case measure => simp [intOf]; omega
                    · go_simp
                      refine hK _ _ ?_
                      clear hK K
                      try go_simp
                      refine wpAnyIn_ready (rs := [0, 4]) (by kernel_rfl) (by simp) ((AllReadyIn.cons rfl (fun K hK => ?_) (AllReadyIn.cons rfl (fun K hK => ?_) AllReadyIn.nil)))
                      · go_simp
                        refine hK _ _ ?_
                        clear hK K
                        try go_simp
                        refine wpAnyIn_ready (rs := [4]) (by kernel_rfl) (by simp) ((AllReadyIn.cons rfl (fun K hK => ?_) AllReadyIn.nil))
                        · go_simp
                          refine hK _ _ ?_
                          clear hK K
                          try go_simp
                          refine wpAnyIn_ready (rs := [10]) (by kernel_rfl) (by simp) ((AllReadyIn.cons rfl (fun K hK => ?_) AllReadyIn.nil))
                          · refine step_append rfl rfl hrun ?_
                            refine hK _ _ ?_
                            clear hK K
                            try go_simp
                            refine wpAnyIn_take (i := 11) (v := P R) rfl rfl (by kernel_rfl) (by kernel_rfl) (by kernel_rfl) (fun _ _ _ h => h) ?h6 ?_
                            case h6 =>
                              refine ⟨Or.inl ⟨?_, fun w => ?_⟩, fun _ => ?_⟩
                              · rfl
                              · go_simp
                              · rfl
                            try go_simp
                            refine wpAnyIn_take (i := 12) (v := .pointer (some ⟨R, 2, none⟩)) rfl rfl (by kernel_rfl) (by kernel_rfl) (by kernel_rfl) (fun _ _ _ h => h) ?h6 ?_
                            case h6 =>
                              refine ⟨Or.inl ⟨?_, fun w => ?_⟩, fun _ => ?_⟩
                              · rfl
                              · go_simp
                              · rfl
                            try go_simp
                            refine wpAnyIn_ready (rs := [13]) (by kernel_rfl) (by simp) ((AllReadyIn.cons rfl (fun K hK => ?_) AllReadyIn.nil))
                            · go_simp
                              refine hK _ _ ?_
                              clear hK K
                              try go_simp
                              refine wpAnyIn_done (by kernel_rfl) ?_ _
                              gi_wp2
                              go_roundw
                              case rel => exact ⟨k + 1, by go_num, by omega, hrel5⟩
                              case measure => simp [intOf]; omega
                      · go_simp
                        refine hK _ _ ?_
                        clear hK K
                        try go_simp
                        refine wpAnyIn_ready (rs := [0, 10]) (by kernel_rfl) (by simp) ((AllReadyIn.cons rfl (fun K hK => ?_) (AllReadyIn.cons rfl (fun K hK => ?_) AllReadyIn.nil)))
                        · go_simp
                          refine hK _ _ ?_
                          clear hK K
                          try go_simp
                          refine wpAnyIn_ready (rs := [10]) (by kernel_rfl) (by simp) ((AllReadyIn.cons rfl (fun K hK => ?_) AllReadyIn.nil))
                          · refine step_append rfl rfl hrun ?_
                            refine hK _ _ ?_
                            clear hK K
                            try go_simp
                            refine wpAnyIn_take (i := 11) (v := P R) rfl rfl (by kernel_rfl) (by kernel_rfl) (by kernel_rfl) (fun _ _ _ h => h) ?h6 ?_
                            case h6 =>
                              refine ⟨Or.inl ⟨?_, fun w => ?_⟩, fun _ => ?_⟩
                              · rfl
                              · go_simp
                              · rfl
                            try go_simp
                            refine wpAnyIn_take (i := 12) (v := .pointer (some ⟨R, 2, none⟩)) rfl rfl (by kernel_rfl) (by kernel_rfl) (by kernel_rfl) (fun _ _ _ h => h) ?h6 ?_
                            case h6 =>
                              refine ⟨Or.inl ⟨?_, fun w => ?_⟩, fun _ => ?_⟩
                              · rfl
                              · go_simp
                              · rfl
                            try go_simp
                            refine wpAnyIn_ready (rs := [13]) (by kernel_rfl) (by simp) ((AllReadyIn.cons rfl (fun K hK => ?_) AllReadyIn.nil))
                            · go_simp
                              refine hK _ _ ?_
                              clear hK K
                              try go_simp
                              refine wpAnyIn_done (by kernel_rfl) ?_ _
                              gi_wp2
                              go_roundw
                              case rel => exact ⟨k + 1, by go_num, by omega, hrel5⟩
                              case measure => simp [intOf]; omega
                        · refine step_append rfl rfl hrun ?_
                          refine hK _ _ ?_
                          clear hK K
                          try go_simp
                          refine wpAnyIn_ready (rs := [0]) (by kernel_rfl) (by simp) ((AllReadyIn.cons rfl (fun K hK => ?_) AllReadyIn.nil))
                          · go_simp
                            refine hK _ _ ?_
                            clear hK K
                            try go_simp
                            refine wpAnyIn_take (i := 11) (v := P R) rfl rfl (by kernel_rfl) (by kernel_rfl) (by kernel_rfl) (fun _ _ _ h => h) ?h6 ?_
                            case h6 =>
                              refine ⟨Or.inl ⟨?_, fun w => ?_⟩, fun _ => ?_⟩
                              · rfl
                              · go_simp
                              · rfl
                            try go_simp
                            refine wpAnyIn_take (i := 12) (v := .pointer (some ⟨R, 2, none⟩)) rfl rfl (by kernel_rfl) (by kernel_rfl) (by kernel_rfl) (fun _ _ _ h => h) ?h6 ?_
                            case h6 =>
                              refine ⟨Or.inl ⟨?_, fun w => ?_⟩, fun _ => ?_⟩
                              · rfl
                              · go_simp
                              · rfl
                            try go_simp
                            refine wpAnyIn_ready (rs := [13]) (by kernel_rfl) (by simp) ((AllReadyIn.cons rfl (fun K hK => ?_) AllReadyIn.nil))
                            · go_simp
                              refine hK _ _ ?_
                              clear hK K
                              try go_simp
                              refine wpAnyIn_done (by kernel_rfl) ?_ _
                              gi_wp2
                              go_roundw
                              case rel => exact ⟨k + 1, by go_num, by omega, hrel5⟩
                              case measure => simp [intOf]; omega
                  · go_simp
                    refine hK _ _ ?_
                    clear hK K
                    try go_simp
                    refine wpAnyIn_ready (rs := [0, 1]) (by kernel_rfl) (by simp) ((AllReadyIn.cons rfl (fun K hK => ?_) (AllReadyIn.cons rfl (fun K hK => ?_) AllReadyIn.nil)))
                    · go_simp
                      refine hK _ _ ?_
                      clear hK K
                      try go_simp
                      refine wpAnyIn_ready (rs := [1]) (by kernel_rfl) (by simp) ((AllReadyIn.cons rfl (fun K hK => ?_) AllReadyIn.nil))
                      · go_simp
                        refine hK _ _ ?_
                        clear hK K
                        try go_simp
                        refine wpAnyIn_take (i := 2) (v := P R) rfl rfl (by kernel_rfl) (by kernel_rfl) (by kernel_rfl) (fun _ _ _ h => h) ?h6 ?_
                        case h6 =>
                          refine ⟨Or.inl ⟨?_, fun w => ?_⟩, fun _ => ?_⟩
                          · rfl
                          · go_simp
                          · rfl
                        try go_simp
                        refine wpAnyIn_take (i := 3) (v := .pointer (some ⟨R, 2, none⟩)) rfl rfl (by kernel_rfl) (by kernel_rfl) (by kernel_rfl) (fun _ _ _ h => h) ?h6 ?_
                        case h6 =>
                          refine ⟨Or.inl ⟨?_, fun w => ?_⟩, fun _ => ?_⟩
                          · rfl
                          · go_simp
                          · rfl
                        try go_simp
                        refine wpAnyIn_ready (rs := [4]) (by kernel_rfl) (by simp) ((AllReadyIn.cons rfl (fun K hK => ?_) AllReadyIn.nil))
                        · go_simp
                          refine hK _ _ ?_
                          clear hK K
                          try go_simp
                          refine wpAnyIn_ready (rs := [10]) (by kernel_rfl) (by simp) ((AllReadyIn.cons rfl (fun K hK => ?_) AllReadyIn.nil))
                          · refine step_append rfl rfl hrun ?_
                            refine hK _ _ ?_
                            clear hK K
                            try go_simp
                            refine wpAnyIn_take (i := 11) (v := P R) rfl rfl (by kernel_rfl) (by kernel_rfl) (by kernel_rfl) (fun _ _ _ h => h) ?h6 ?_
                            case h6 =>
                              refine ⟨Or.inl ⟨?_, fun w => ?_⟩, fun _ => ?_⟩
                              · rfl
                              · go_simp
                              · rfl
                            try go_simp
                            refine wpAnyIn_take (i := 12) (v := .pointer (some ⟨R, 2, none⟩)) rfl rfl (by kernel_rfl) (by kernel_rfl) (by kernel_rfl) (fun _ _ _ h => h) ?h6 ?_
                            case h6 =>
                              refine ⟨Or.inl ⟨?_, fun w => ?_⟩, fun _ => ?_⟩
                              · rfl
                              · go_simp
                              · rfl
                            try go_simp
                            refine wpAnyIn_ready (rs := [13]) (by kernel_rfl) (by simp) ((AllReadyIn.cons rfl (fun K hK => ?_) AllReadyIn.nil))
                            · go_simp
                              refine hK _ _ ?_
                              clear hK K
                              try go_simp
                              refine wpAnyIn_done (by kernel_rfl) ?_ _
                              gi_wp2
                              go_roundw
                              case rel => exact ⟨k + 1, by go_num, by omega, hrel5⟩
                              case measure => simp [intOf]; omega
                    · go_simp
                      refine hK _ _ ?_
                      clear hK K
                      try go_simp
                      refine wpAnyIn_take (i := 2) (v := P R) rfl rfl (by kernel_rfl) (by kernel_rfl) (by kernel_rfl) (fun _ _ _ h => h) ?h6 ?_
                      case h6 =>
                        refine ⟨Or.inl ⟨?_, fun w => ?_⟩, fun _ => ?_⟩
                        · rfl
                        · go_simp
                        · rfl
                      try go_simp
                      refine wpAnyIn_take (i := 3) (v := .pointer (some ⟨R, 2, none⟩)) rfl rfl (by kernel_rfl) (by kernel_rfl) (by kernel_rfl) (fun _ _ _ h => h) ?h6 ?_
                      case h6 =>
                        refine ⟨Or.inl ⟨?_, fun w => ?_⟩, fun _ => ?_⟩
                        · rfl
                        · go_simp
                        · rfl
                      try go_simp
                      refine wpAnyIn_ready (rs := [0, 4]) (by kernel_rfl) (by simp) ((AllReadyIn.cons rfl (fun K hK => ?_) (AllReadyIn.cons rfl (fun K hK => ?_) AllReadyIn.nil)))
                      · go_simp
                        refine hK _ _ ?_
                        clear hK K
                        try go_simp
                        refine wpAnyIn_ready (rs := [4]) (by kernel_rfl) (by simp) ((AllReadyIn.cons rfl (fun K hK => ?_) AllReadyIn.nil))
                        · go_simp
                          refine hK _ _ ?_
                          clear hK K
                          try go_simp
                          refine wpAnyIn_ready (rs := [10]) (by kernel_rfl) (by simp) ((AllReadyIn.cons rfl (fun K hK => ?_) AllReadyIn.nil))
                          · refine step_append rfl rfl hrun ?_
                            refine hK _ _ ?_
                            clear hK K
                            try go_simp
                            refine wpAnyIn_take (i := 11) (v := P R) rfl rfl (by kernel_rfl) (by kernel_rfl) (by kernel_rfl) (fun _ _ _ h => h) ?h6 ?_
                            case h6 =>
                              refine ⟨Or.inl ⟨?_, fun w => ?_⟩, fun _ => ?_⟩
                              · rfl
                              · go_simp
                              · rfl
                            try go_simp
                            refine wpAnyIn_take (i := 12) (v := .pointer (some ⟨R, 2, none⟩)) rfl rfl (by kernel_rfl) (by kernel_rfl) (by kernel_rfl) (fun _ _ _ h => h) ?h6 ?_
                            case h6 =>
                              refine ⟨Or.inl ⟨?_, fun w => ?_⟩, fun _ => ?_⟩
                              · rfl
                              · go_simp
                              · rfl
                            try go_simp
                            refine wpAnyIn_ready (rs := [13]) (by kernel_rfl) (by simp) ((AllReadyIn.cons rfl (fun K hK => ?_) AllReadyIn.nil))
                            · go_simp
                              refine hK _ _ ?_
                              clear hK K
                              try go_simp
                              refine wpAnyIn_done (by kernel_rfl) ?_ _
                              gi_wp2
                              go_roundw
                              case rel => exact ⟨k + 1, by go_num, by omega, hrel5⟩
                              case measure => simp [intOf]; omega
                      · go_simp
                        refine hK _ _ ?_
                        clear hK K
                        try go_simp
                        refine wpAnyIn_ready (rs := [0, 10]) (by kernel_rfl) (by simp) ((AllReadyIn.cons rfl (fun K hK => ?_) (AllReadyIn.cons rfl (fun K hK => ?_) AllReadyIn.nil)))
                        · go_simp
                          refine hK _ _ ?_
                          clear hK K
                          try go_simp
                          refine wpAnyIn_ready (rs := [10]) (by kernel_rfl) (by simp) ((AllReadyIn.cons rfl (fun K hK => ?_) AllReadyIn.nil))
                          · refine step_append rfl rfl hrun ?_
                            refine hK _ _ ?_
                            clear hK K
                            try go_simp
                            refine wpAnyIn_take (i := 11) (v := P R) rfl rfl (by kernel_rfl) (by kernel_rfl) (by kernel_rfl) (fun _ _ _ h => h) ?h6 ?_
                            case h6 =>
                              refine ⟨Or.inl ⟨?_, fun w => ?_⟩, fun _ => ?_⟩
                              · rfl
                              · go_simp
                              · rfl
                            try go_simp
                            refine wpAnyIn_take (i := 12) (v := .pointer (some ⟨R, 2, none⟩)) rfl rfl (by kernel_rfl) (by kernel_rfl) (by kernel_rfl) (fun _ _ _ h => h) ?h6 ?_
                            case h6 =>
                              refine ⟨Or.inl ⟨?_, fun w => ?_⟩, fun _ => ?_⟩
                              · rfl
                              · go_simp
                              · rfl
                            try go_simp
                            refine wpAnyIn_ready (rs := [13]) (by kernel_rfl) (by simp) ((AllReadyIn.cons rfl (fun K hK => ?_) AllReadyIn.nil))
                            · go_simp
                              refine hK _ _ ?_
                              clear hK K
                              try go_simp
                              refine wpAnyIn_done (by kernel_rfl) ?_ _
                              gi_wp2
                              go_roundw
                              case rel => exact ⟨k + 1, by go_num, by omega, hrel5⟩
                              case measure => simp [intOf]; omega
                        · refine step_append rfl rfl hrun ?_
                          refine hK _ _ ?_
                          clear hK K
                          try go_simp
                          refine wpAnyIn_ready (rs := [0]) (by kernel_rfl) (by simp) ((AllReadyIn.cons rfl (fun K hK => ?_) AllReadyIn.nil))
                          · go_simp
                            refine hK _ _ ?_
                            clear hK K
                            try go_simp
                            refine wpAnyIn_take (i := 11) (v := P R) rfl rfl (by kernel_rfl) (by kernel_rfl) (by kernel_rfl) (fun _ _ _ h => h) ?h6 ?_
                            case h6 =>
                              refine ⟨Or.inl ⟨?_, fun w => ?_⟩, fun _ => ?_⟩
                              · rfl
                              · go_simp
                              · rfl
                            try go_simp
                            refine wpAnyIn_take (i := 12) (v := .pointer (some ⟨R, 2, none⟩)) rfl rfl (by kernel_rfl) (by kernel_rfl) (by kernel_rfl) (fun _ _ _ h => h) ?h6 ?_
                            case h6 =>
                              refine ⟨Or.inl ⟨?_, fun w => ?_⟩, fun _ => ?_⟩
                              · rfl
                              · go_simp
                              · rfl
                            try go_simp
                            refine wpAnyIn_ready (rs := [13]) (by kernel_rfl) (by simp) ((AllReadyIn.cons rfl (fun K hK => ?_) AllReadyIn.nil))
                            · go_simp
                              refine hK _ _ ?_
                              clear hK K
                              try go_simp
                              refine wpAnyIn_done (by kernel_rfl) ?_ _
                              gi_wp2
                              go_roundw
                              case rel => exact ⟨k + 1, by go_num, by omega, hrel5⟩
                              case measure => simp [intOf]; omega
              · have hdummy := 0
                have hoks : okc (x.1[k]'(by rw [hp.out]; exact hlt9)) = true := by
                  unfold okc
                  rw [hTk, beq_of_nat h35]; rfl
                have hbv : (x.1[k]'(by rw [hp.out]; exact hlt9) == 35) = true := by
                  rw [hTk, beq_of_nat h35]; rfl
                have hn8 : st.l.length ≤ 67117056 := by
                  have h1 := hok.out.1
                  have h2 := Nat.mul_le_mul hWle hHle
                  omega
                have hR5 : ∀ i, (Value.slice A' (st.l.length + k) c').ownBlock = some i → ¬ i = R := fun i hi e => by
                  have := own_ge i3.out i hi
                  omega
                obtain ⟨i0, hi0, hz0, hz1, hz2⟩ := info_parts info4
                obtain ⟨v', w4, hrun, own4, o4, hat⟩ := run_append_any (P := Try.prog) ((wr.alloc (Obj.cells #[Value.bool true] 4)).drew) w2.heap.size 22 22 4 i0 (.bool false) 1 1 Try.underlying22 hi0 hz0 hz1 hz2 rfl (by decide) (.slice A' (st.l.length + k) c') (st.l.length + k) _ (own_only i3.out (((Only.refl No wr).alloc _).drew) (fun _ _ => id)) (some ⟨wr.heap.size, 0, none⟩) 1 1 [.bool true] ((Rds.fresh (n := 1) (size := 1) (Blk.new wr 4 #[.bool true]) rfl).no ((Only.refl No _).drew)) (by simp [Value.oneCell']) (by unfold maxLen; omega) (by omega) (by have := i4.out.size; simp; omega)
                obtain ⟨A4, c4, rfl⟩ := own_slice own4
                have j2 : Blk w4 R 54 #[.int .i64 (p : Int), .int .i64 ((st.H + 1 : Nat) : Int), .slice A' (st.l.length + k) c', .int .i64 ((0 : Nat) : Int)] := ((i2.out.alloc _).drewN 1).only o4 (fun e => hR5 R e rfl)
                have jc := j2.cell 2
                have z4c := (kk4.out.alloc (.cells #[.bool true] 4)).cell 0
                have z4d := (((kk4.out.alloc (.cells #[.bool true] 4)).drewN 1).only o4 (fun e => by have := own_ge i3.out _ e; omega)).cell 0
                have g2c := (i2.out.alloc (.cells #[.bool true] 4)).cell 2
                have jf := j2.frozen 2
                simp only [List.getElem?_toArray, List.getElem?_cons_zero, List.getElem?_cons_succ] at jc z4c z4d g2c
                have hrel5 : Hid (∃ Lv', (x.1.take (k + 1)).all okc = true ∧ Blk (w4.setCell ⟨R, 2, none⟩ (.slice A4 (st.l.length + k + 1) c4)) R 54 #[.int .i64 (p : Int), .int .i64 ((st.H + 1 : Nat) : Int), Lv', .int .i64 ((0 : Nat) : Int)] ∧
                    (w4.setCell ⟨R, 2, none⟩ (.slice A4 (st.l.length + k + 1) c4)).ownsRow w2.heap.size 4 1 Lv' (st.l.length + (k + 1)) (boC (st.l ++ (x.1.take (k + 1)).map (· == 35))) ∧ Only (fun i => i = R ∨ Lv.ownBlock = some i) V (w4.setCell ⟨R, 2, none⟩ (.slice A4 (st.l.length + k + 1) c4)) ∧ ∀ i, Lv'.ownBlock = some i → Lv.ownBlock = some i ∨ V.heap.size ≤ i) := by
                  have htk : x.1.take (k + 1) = x.1.take k ++ [x.1[k]'(by rw [hp.out]; exact hlt9)] := List.take_succ_eq_append_getElem _
                  refine Lib.hid ⟨.slice A4 (st.l.length + k + 1) c4, ?_, j2.set 2 _, ?_, ?_, ?_⟩
                  · rw [htk, List.all_append, i1.out]
                    simp [hoks]
                  · have := own_only own4 ((Only.refl (One R) w4).setCell (p := ⟨R, 2, none⟩) (.inl rfl) (.slice A4 (st.l.length + k + 1) c4)) (fun i hi e => by
                      have := own_ge own4 i hi
                      have e : i = R := e
                      omega)
                    rw [htk, List.map_append, List.map_singleton, hbv, ← List.append_assoc]
                    unfold boC at this ⊢
                    rw [List.map_append, List.map_singleton]
                    exact this
                  · refine Only.setCell ?_ (p := ⟨R, 2, none⟩) (.inl (.inl rfl)) _
                    refine ((i4.out.alloc _).drew).then o4 fun i hi => ?_
                    rcases i5.out i hi with e | e
                    · exact .inl (.inr e)
                    · exact .inr e
                  · intro i hi
                    rcases hat with e | e
                    · rw [e] at hi
                      exact i5.out i hi
                    · rw [e] at hi
                      injection hi with hi
                      have := i4.out.size
                      subst hi
                      exact .inr (by simp; omega)
                clear own4 o4 hat j2 hoks hbv hR5 hn8 hz0 hz1 hz2 hi0
                gi_wp2
                refine wpIn_region_round (by kernel_rfl) (by kernel_rfl) ?_
                refine wpAnyIn_take (i := 5) (v := .string T) rfl rfl (by kernel_rfl) (by kernel_rfl) (by kernel_rfl) (fun _ _ _ h => h) ?h6 ?_
                case h6 =>
                  refine ⟨Or.inl ⟨?_, fun w => ?_⟩, fun _ => ?_⟩
                  · rfl
                  · go_simp
                  · rfl
                try go_simp
                refine wpAnyIn_take (i := 6) (v := .int .i64 k) rfl rfl (by kernel_rfl) (by kernel_rfl) (by kernel_rfl) (fun _ _ _ h => h) ?h6 ?_
                case h6 =>
                  refine ⟨Or.inl ⟨?_, fun w => ?_⟩, fun _ => ?_⟩
                  · rfl
                  · go_simp
                  · rfl
                try go_simp
                refine wpAnyIn_take (i := 7) (v := .int .u8 ((T[k]'(by rw [x3]; exact hlt9)).toNat : Int)) rfl rfl (by kernel_rfl) (by kernel_rfl) (by kernel_rfl) (fun _ _ _ h => h) ?h6 ?_
                case h6 =>
                  refine ⟨Or.inl ⟨?_, fun w => ?_⟩, fun _ => ?_⟩
                  · rfl
                  · go_simp
                  · rfl
                try go_simp
                refine wpAnyIn_take (i := 8) (v := .bool true) rfl rfl (by kernel_rfl) (by kernel_rfl) (by kernel_rfl) (fun _ _ _ h => h) ?h6 ?_
                case h6 =>
                  refine ⟨Or.inl ⟨?_, fun w => ?_⟩, fun _ => ?_⟩
                  · rfl
                  · go_simp
                  · rfl
                try go_simp
                refine wpAnyIn_ready (rs := [0, 1, 9]) (by kernel_rfl) (by simp) ((AllReadyIn.cons rfl (fun K hK => ?_) (AllReadyIn.cons rfl (fun K hK => ?_) (AllReadyIn.cons rfl (fun K hK => ?_) AllReadyIn.nil))))
                · go_simp
                  refine hK _ _ ?_
                  clear hK K
                  try go_simp
                  refine wpAnyIn_ready (rs := [1, 9]) (by kernel_rfl) (by simp) ((AllReadyIn.cons rfl (fun K hK => ?_) (AllReadyIn.cons rfl (fun K hK => ?_) AllReadyIn.nil)))
                  · go_simp
                    refine hK _ _ ?_
                    clear hK K
                    try go_simp
                    refine wpAnyIn_take (i := 2) (v := P R) rfl rfl (by kernel_rfl) (by kernel_rfl) (by kernel_rfl) (fun _ _ _ h => h) ?h6 ?_
                    case h6 =>
                      refine ⟨Or.inl ⟨?_, fun w => ?_⟩, fun _ => ?_⟩
                      · rfl
                      · go_simp
                      · rfl
                    try go_simp
                    refine wpAnyIn_take (i := 3) (v := .pointer (some ⟨R, 2, none⟩)) rfl rfl (by kernel_rfl) (by kernel_rfl) (by kernel_rfl) (fun _ _ _ h => h) ?h6 ?_
                    case h6 =>
                      refine ⟨Or.inl ⟨?_, fun w => ?_⟩, fun _ => ?_⟩
                      · rfl
                      · go_simp
                      · rfl
                    try go_simp
                    refine wpAnyIn_ready (rs := [4, 9]) (by kernel_rfl) (by simp) ((AllReadyIn.cons rfl (fun K hK => ?_) (AllReadyIn.cons rfl (fun K hK => ?_) AllReadyIn.nil)))
                    · go_simp
                      refine hK _ _ ?_
                      clear hK K
                      try go_simp
                      refine wpAnyIn_ready (rs := [9]) (by kernel_rfl) (by simp) ((AllReadyIn.cons rfl (fun K hK => ?_) AllReadyIn.nil))
                      · go_simp
                        refine hK _ _ ?_
                        clear hK K
                        try go_simp
                        refine wpAnyIn_ready (rs := [10]) (by kernel_rfl) (by simp) ((AllReadyIn.cons rfl (fun K hK => ?_) AllReadyIn.nil))
                        · refine step_append rfl rfl hrun ?_
                          refine hK _ _ ?_
                          clear hK K
                          try go_simp
                          refine wpAnyIn_take (i := 11) (v := P R) rfl rfl (by kernel_rfl) (by kernel_rfl) (by kernel_rfl) (fun _ _ _ h => h) ?h6 ?_
                          case h6 =>
                            refine ⟨Or.inl ⟨?_, fun w => ?_⟩, fun _ => ?_⟩
                            · rfl
                            · go_simp
                            · rfl
                          try go_simp
                          refine wpAnyIn_take (i := 12) (v := .pointer (some ⟨R, 2, none⟩)) rfl rfl (by kernel_rfl) (by kernel_rfl) (by kernel_rfl) (fun _ _ _ h => h) ?h6 ?_
                          case h6 =>
                            refine ⟨Or.inl ⟨?_, fun w => ?_⟩, fun _ => ?_⟩
                            · rfl
                            · go_simp
                            · rfl
                          try go_simp
                          refine wpAnyIn_ready (rs := [13]) (by kernel_rfl) (by simp) ((AllReadyIn.cons rfl (fun K hK => ?_) AllReadyIn.nil))
                          · go_simp
                            refine hK _ _ ?_
                            clear hK K
                            try go_simp
                            refine wpAnyIn_done (by kernel_rfl) ?_ _
                            gi_wp2
                            go_roundw
                            case rel => exact ⟨k + 1, by go_num, by omega, hrel5⟩
                            case measure => simp [intOf]; omega
                    · go_simp
                      refine hK _ _ ?_
                      clear hK K
                      try go_simp
                      refine wpAnyIn_ready (rs := [4]) (by kernel_rfl) (by simp) ((AllReadyIn.cons rfl (fun K hK => ?_) AllReadyIn.nil))
                      · go_simp
                        refine hK _ _ ?_
                        clear hK K
                        try go_simp
                        refine wpAnyIn_ready (rs := [10]) (by kernel_rfl) (by simp) ((AllReadyIn.cons rfl (fun K hK => ?_) AllReadyIn.nil))
                        · refine step_append rfl rfl hrun ?_
                          refine hK _ _ ?_
                          clear hK K
                          try go_simp
                          refine wpAnyIn_take (i := 11) (v := P R) rfl rfl (by kernel_rfl) (by kernel_rfl) (by kernel_rfl) (fun _ _ _ h => h) ?h6 ?_
                          case h6 =>
                            refine ⟨Or.inl ⟨?_, fun w => ?_⟩, fun _ => ?_⟩
                            · rfl
                            · go_simp
                            · rfl
                          try go_simp
                          refine wpAnyIn_take (i := 12) (v := .pointer (some ⟨R, 2, none⟩)) rfl rfl (by kernel_rfl) (by kernel_rfl) (by kernel_rfl) (fun _ _ _ h => h) ?h6 ?_
                          case h6 =>
                            refine ⟨Or.inl ⟨?_, fun w => ?_⟩, fun _ => ?_⟩
                            · rfl
                            · go_simp
                            · rfl
                          try go_simp
                          refine wpAnyIn_ready (rs := [13]) (by kernel_rfl) (by simp) ((AllReadyIn.cons rfl (fun K hK => ?_) AllReadyIn.nil))
                          · go_simp
                            refine hK _ _ ?_
                            clear hK K
                            try go_simp
                            refine wpAnyIn_done (by kernel_rfl) ?_ _
                            gi_wp2
                            go_roundw
                            case rel => exact ⟨k + 1, by go_num, by omega, hrel5⟩
                            case measure => simp [intOf]; omega
                  · go_simp
                    refine hK _ _ ?_
                    clear hK K
                    try go_simp
                    refine wpAnyIn_ready (rs := [1]) (by kernel_rfl) (by simp) ((AllReadyIn.cons rfl (fun K hK => ?_) AllReadyIn.nil))
                    · go_simp
                      refine hK _ _ ?_
                      clear hK K
                      try go_simp
                      refine wpAnyIn_take (i := 2) (v := P R) rfl rfl (by kernel_rfl) (by kernel_rfl) (by kernel_rfl) (fun _ _ _ h => h) ?h6 ?_
                      case h6 =>
                        refine ⟨Or.inl ⟨?_, fun w => ?_⟩, fun _ => ?_⟩
                        · rfl
                        · go_simp
                        · rfl
                      try go_simp
                      refine wpAnyIn_take (i := 3) (v := .pointer (some ⟨R, 2, none⟩)) rfl rfl (by kernel_rfl) (by kernel_rfl) (by kernel_rfl) (fun _ _ _ h => h) ?h6 ?_
                      case h6 =>
                        refine ⟨Or.inl ⟨?_, fun w => ?_⟩, fun _ => ?_⟩
                        · rfl
                        · go_simp
                        · rfl
                      try go_simp
                      refine wpAnyIn_ready (rs := [4]) (by kernel_rfl) (by simp) ((AllReadyIn.cons rfl (fun K hK => ?_) AllReadyIn.nil))
                      · go_simp
                        refine hK _ _ ?_
                        clear hK K
                        try go_simp
                        refine wpAnyIn_ready (rs := [10]) (by kernel_rfl) (by simp) ((AllReadyIn.cons rfl (fun K hK => ?_) AllReadyIn.nil))
                        · refine step_append rfl rfl hrun ?_
                          refine hK _ _ ?_
                          clear hK K
                          try go_simp
                          refine wpAnyIn_take (i := 11) (v := P R) rfl rfl (by kernel_rfl) (by kernel_rfl) (by kernel_rfl) (fun _ _ _ h => h) ?h6 ?_
                          case h6 =>
                            refine ⟨Or.inl ⟨?_, fun w => ?_⟩, fun _ => ?_⟩
                            · rfl
                            · go_simp
                            · rfl
                          try go_simp
                          refine wpAnyIn_take (i := 12) (v := .pointer (some ⟨R, 2, none⟩)) rfl rfl (by kernel_rfl) (by kernel_rfl) (by kernel_rfl) (fun _ _ _ h => h) ?h6 ?_
                          case h6 =>
                            refine ⟨Or.inl ⟨?_, fun w => ?_⟩, fun _ => ?_⟩
                            · rfl
                            · go_simp
                            · rfl
                          try go_simp
                          refine wpAnyIn_ready (rs := [13]) (by kernel_rfl) (by simp) ((AllReadyIn.cons rfl (fun K hK => ?_) AllReadyIn.nil))
                          · go_simp
                            refine hK _ _ ?_
                            clear hK K
                            try go_simp
                            refine wpAnyIn_done (by kernel_rfl) ?_ _
                            gi_wp2
                            go_roundw
                            case rel => exact ⟨k + 1, by go_num, by omega, hrel5⟩
                            case measure => simp [intOf]; omega
                · go_simp
                  refine hK _ _ ?_
                  clear hK K
                  try go_simp
                  refine wpAnyIn_take (i := 2) (v := P R) rfl rfl (by kernel_rfl) (by kernel_rfl) (by kernel_rfl) (fun _ _ _ h => h) ?h6 ?_
                  case h6 =>
                    refine ⟨Or.inl ⟨?_, fun w => ?_⟩, fun _ => ?_⟩
                    · rfl
                    · go_simp
                    · rfl
                  try go_simp
                  refine wpAnyIn_take (i := 3) (v := .pointer (some ⟨R, 2, none⟩)) rfl rfl (by kernel_rfl) (by kernel_rfl) (by kernel_rfl) (fun _ _ _ h => h) ?h6 ?_
                  case h6 =>
                    refine ⟨Or.inl ⟨?_, fun w => ?_⟩, fun _ => ?_⟩
                    · rfl
                    · go_simp
                    · rfl
                  try go_simp
                  refine wpAnyIn_ready (rs := [0, 4, 9]) (by kernel_rfl) (by simp) ((AllReadyIn.cons rfl (fun K hK => ?_) (AllReadyIn.cons rfl (fun K hK => ?_) (AllReadyIn.cons rfl (fun K hK => ?_) AllReadyIn.nil))))
                  · go_simp
                    refine hK _ _ ?_
                    clear hK K
                    try go_simp
                    refine wpAnyIn_ready (rs := [4, 9]) (by kernel_rfl) (by simp) ((AllReadyIn.cons rfl (fun K hK => ?_) (AllReadyIn.cons rfl (fun K hK => ?_) AllReadyIn.nil)))
                    · go_simp
                      refine hK _ _ ?_
                      clear hK K
                      try go_simp
                      refine wpAnyIn_ready (rs := [9]) (by kernel_rfl) (by simp) ((AllReadyIn.cons rfl (fun K hK => ?_) AllReadyIn.nil))
                      · go_simp
                        refine hK _ _ ?_
                        clear hK K
                        try go_simp
                        refine wpAnyIn_ready (rs := [10]) (by kernel_rfl) (by simp) ((AllReadyIn.cons rfl (fun K hK => ?_) AllReadyIn.nil))
                        · refine step_append rfl rfl hrun ?_
                          refine hK _ _ ?_
                          clear hK K
                          try go_simp
                          refine wpAnyIn_take (i := 11) (v := P R) rfl rfl (by kernel_rfl) (by kernel_rfl) (by kernel_rfl) (fun _ _ _ h => h) ?h6 ?_
                          case h6 =>
                            refine ⟨Or.inl ⟨?_, fun w => ?_⟩, fun _ => ?_⟩
                            · rfl
                            · go_simp
                            · rfl
                          try go_simp
                          refine wpAnyIn_take (i := 12) (v := .pointer (some ⟨R, 2, none⟩)) rfl rfl (by kernel_rfl) (by kernel_rfl) (by kernel_rfl) (fun _ _ _ h => h) ?h6 ?_
                          case h6 =>
                            refine ⟨Or.inl ⟨?_, fun w => ?_⟩, fun _ => ?_⟩
                            · rfl
                            · go_simp
                            · rfl
                          try go_simp
                          refine wpAnyIn_ready (rs := [13]) (by kernel_rfl) (by simp) ((AllReadyIn.cons rfl (fun K hK => ?_) AllReadyIn.nil))
                          · go_simp
                            refine hK _ _ ?_
                            clear hK K
                            try go_simp
                            refine wpAnyIn_done (by kernel_rfl) ?_ _
                            gi_wp2
                            go_roundw
                            case rel => exact ⟨k + 1, by go_num, by omega, hrel5⟩
                            case measure => simp [intOf]; omega
                    · go_simp
                      refine hK _ _ ?_
                      clear hK K
                      try go_simp
                      refine wpAnyIn_ready (rs := [4]) (by kernel_rfl) (by simp) ((AllReadyIn.cons rfl (fun K hK => ?_) AllReadyIn.nil))
                      · go_simp
                        refine hK _ _ ?_
                        clear hK K
                        try go_simp
                        refine wpAnyIn_ready (rs := [10]) (by kernel_rfl) (by simp) ((AllReadyIn.cons rfl (fun K hK => ?_) AllReadyIn.nil))
                        · refine step_append rfl rfl hrun ?_
                          refine hK _ _ ?_
                          clear hK K
                          try go_simp
                          refine wpAnyIn_take (i := 11) (v := P R) rfl rfl (by kernel_rfl) (by kernel_rfl) (by kernel_rfl) (fun _ _ _ h => h) ?h6 ?_
                          case h6 =>
                            refine ⟨Or.inl ⟨?_, fun w => ?_⟩, fun _ => ?_⟩
                            · rfl
                            · go_simp
                            · rfl
                          try go_simp
                          refine wpAnyIn_take (i := 12) (v := .pointer (some ⟨R, 2, none⟩)) rfl rfl (by kernel_rfl) (by kernel_rfl) (by kernel_rfl) (fun _ _ _ h => h) ?h6 ?_
                          case h6 =>
                            refine ⟨Or.inl ⟨?_, fun w => ?_⟩, fun _ => ?_⟩
                            · rfl
                            · go_simp
                            · rfl
                          try go_simp
                          refine wpAnyIn_ready (rs := [13]) (by kernel_rfl) (by simp) ((AllReadyIn.cons rfl (fun K hK => ?_) AllReadyIn.nil))
                          · go_simp
                            refine hK _ _ ?_
                            clear hK K
                            try go_simp
                            refine wpAnyIn_done (by kernel_rfl) ?_ _
                            gi_wp2
                            go_roundw
                            case rel => exact ⟨k + 1, by go_num, by omega, hrel5⟩
                            case measure => simp [intOf]; omega
                  · go_simp
                    refine hK _ _ ?_
                    clear hK K
                    try go_simp
                    refine wpAnyIn_ready (rs := [0, 9]) (by kernel_rfl) (by simp) ((AllReadyIn.cons rfl (fun K hK => ?_) (AllReadyIn.cons rfl (fun K hK => ?_) AllReadyIn.nil)))
                    · go_simp
                      refine hK _ _ ?_
                      clear hK K
                      try go_simp
                      refine wpAnyIn_ready (rs := [9]) (by kernel_rfl) (by simp) ((AllReadyIn.cons rfl (fun K hK => ?_) AllReadyIn.nil))
                      · go_simp
                        refine hK _ _ ?_
                        clear hK K
                        try go_simp
                        refine wpAnyIn_ready (rs := [10]) (by kernel_rfl) (by simp) ((AllReadyIn.cons rfl (fun K hK => ?_) AllReadyIn.nil))
                        · refine step_append rfl rfl hrun ?_
                          refine hK _ _ ?_
                          clear hK K
                          try go_simp
                          refine wpAnyIn_take (i := 11) (v := P R) rfl rfl (by kernel_rfl) (by kernel_rfl) (by kernel_rfl) (fun _ _ _ h => h) ?h6 ?_
                          case h6 =>
                            refine ⟨Or.inl ⟨?_, fun w => ?_⟩, fun _ => ?_⟩
                            · rfl
                            · go_simp
                            · rfl
                          try go_simp
                          refine wpAnyIn_take (i := 12) (v := .pointer (some ⟨R, 2, none⟩)) rfl rfl (by kernel_rfl) (by kernel_rfl) (by kernel_rfl) (fun _ _ _ h => h) ?h6 ?_
                          case h6 =>
                            refine ⟨Or.inl ⟨?_, fun w => ?_⟩, fun _ => ?_⟩
                            · rfl
                            · go_simp
                            · rfl
                          try go_simp
                          refine wpAnyIn_ready (rs := [13]) (by kernel_rfl) (by simp) ((AllReadyIn.cons rfl (fun K hK => ?_) AllReadyIn.nil))
                          · go_simp
                            refine hK _ _ ?_
                            clear hK K
                            try go_simp
                            refine wpAnyIn_done (by kernel_rfl) ?_ _
                            gi_wp2
                            go_roundw
                            case rel => exact ⟨k + 1, by go_num, by omega, hrel5⟩
                            case measure => simp [intOf]; omega
                    · go_simp
                      refine hK _ _ ?_
                      clear hK K
                      try go_simp
                      refine wpAnyIn_ready (rs := [0, 10]) (by kernel_rfl) (by simp) ((AllReadyIn.cons rfl (fun K hK => ?_) (AllReadyIn.cons rfl (fun K hK => ?_) AllReadyIn.nil)))
                      · go_simp
                        refine hK _ _ ?_
                        clear hK K
                        try go_simp
                        refine wpAnyIn_ready (rs := [10]) (by kernel_rfl) (by simp) ((AllReadyIn.cons rfl (fun K hK => ?_) AllReadyIn.nil))
                        · refine step_append rfl rfl hrun ?_
                          refine hK _ _ ?_
                          clear hK K
                          try go_simp
                          refine wpAnyIn_take (i := 11) (v := P R) rfl rfl (by kernel_rfl) (by kernel_rfl) (by kernel_rfl) (fun _ _ _ h => h) ?h6 ?_
                          case h6 =>
                            refine ⟨Or.inl ⟨?_, fun w => ?_⟩, fun _ => ?_⟩
                            · rfl
                            · go_simp
                            · rfl
                          try go_simp
                          refine wpAnyIn_take (i := 12) (v := .pointer (some ⟨R, 2, none⟩)) rfl rfl (by kernel_rfl) (by kernel_rfl) (by kernel_rfl) (fun _ _ _ h => h) ?h6 ?_
                          case h6 =>
                            refine ⟨Or.inl ⟨?_, fun w => ?_⟩, fun _ => ?_⟩
                            · rfl
                            · go_simp
                            · rfl
                          try go_simp
                          refine wpAnyIn_ready (rs := [13]) (by kernel_rfl) (by simp) ((AllReadyIn.cons rfl (fun K hK => ?_) AllReadyIn.nil))
                          · go_simp
                            refine hK _ _ ?_
                            clear hK K
                            try go_simp
                            refine wpAnyIn_done (by kernel_rfl) ?_ _
                            gi_wp2
                            go_roundw
                            case rel => exact ⟨k + 1, by go_num, by omega, hrel5⟩
                            case measure => simp [intOf]; omega
                      · refine step_append rfl rfl hrun ?_
                        refine hK _ _ ?_
                        clear hK K
                        try go_simp
                        refine wpAnyIn_ready (rs := [0]) (by kernel_rfl) (by simp) ((AllReadyIn.cons rfl (fun K hK => ?_) AllReadyIn.nil))
                        · go_simp
                          refine hK _ _ ?_
                          clear hK K
                          try go_simp
                          refine wpAnyIn_take (i := 11) (v := P R) rfl rfl (by kernel_rfl) (by kernel_rfl) (by kernel_rfl) (fun _ _ _ h => h) ?h6 ?_
                          case h6 =>
                            refine ⟨Or.inl ⟨?_, fun w => ?_⟩, fun _ => ?_⟩
                            · rfl
                            · go_simp
                            · rfl
                          try go_simp
                          refine wpAnyIn_take (i := 12) (v := .pointer (some ⟨R, 2, none⟩)) rfl rfl (by kernel_rfl) (by kernel_rfl) (by kernel_rfl) (fun _ _ _ h => h) ?h6 ?_
                          case h6 =>
                            refine ⟨Or.inl ⟨?_, fun w => ?_⟩, fun _ => ?_⟩
                            · rfl
                            · go_simp
                            · rfl
                          try go_simp
                          refine wpAnyIn_ready (rs := [13]) (by kernel_rfl) (by simp) ((AllReadyIn.cons rfl (fun K hK => ?_) AllReadyIn.nil))
                          · go_simp
                            refine hK _ _ ?_
                            clear hK K
                            try go_simp
                            refine wpAnyIn_done (by kernel_rfl) ?_ _
                            gi_wp2
                            go_roundw
                            case rel => exact ⟨k + 1, by go_num, by omega, hrel5⟩
                            case measure => simp [intOf]; omega
                  · go_simp
                    refine hK _ _ ?_
                    clear hK K
                    try go_simp
                    refine wpAnyIn_ready (rs := [0, 4]) (by kernel_rfl) (by simp) ((AllReadyIn.cons rfl (fun K hK => ?_) (AllReadyIn.cons rfl (fun K hK => ?_) AllReadyIn.nil)))
                    · go_simp
                      refine hK _ _ ?_
                      clear hK K
                      try go_simp
                      refine wpAnyIn_ready (rs := [4]) (by kernel_rfl) (by simp) ((AllReadyIn.cons rfl (fun K hK => ?_) AllReadyIn.nil))
                      · go_simp
                        refine hK _ _ ?_
                        clear hK K
                        try go_simp
                        refine wpAnyIn_ready (rs := [10]) (by kernel_rfl) (by simp) ((AllReadyIn.cons rfl (fun K hK => ?_) AllReadyIn.nil))
                        · refine step_append rfl rfl hrun ?_
                          refine hK _ _ ?_
                          clear hK K
                          try go_simp
                          refine wpAnyIn_take (i := 11) (v := P R) rfl rfl (by kernel_rfl) (by kernel_rfl) (by kernel_rfl) (fun _ _ _ h => h) ?h6 ?_
                          case h6 =>
                            refine ⟨Or.inl ⟨?_, fun w => ?_⟩, fun _ => ?_⟩
                            · rfl
                            · go_simp
                            · rfl
                          try go_simp
                          refine wpAnyIn_take (i := 12) (v := .pointer (some ⟨R, 2, none⟩)) rfl rfl (by kernel_rfl) (by kernel_rfl) (by kernel_rfl) (fun _ _ _ h => h) ?h6 ?_
                          case h6 =>
                            refine ⟨Or.inl ⟨?_, fun w => ?_⟩, fun _ => ?_⟩
                            · rfl
                            · go_simp
                            · rfl
                          try go_simp
                          refine wpAnyIn_ready (rs := [13]) (by kernel_rfl) (by simp) ((AllReadyIn.cons rfl (fun K hK => ?_) AllReadyIn.nil))
                          · go_simp
                            refine hK _ _ ?_
                            clear hK K
                            try go_simp
                            refine wpAnyIn_done (by kernel_rfl) ?_ _
                            gi_wp2
                            go_roundw
                            case rel => exact ⟨k + 1, by go_num, by omega, hrel5⟩
                            case measure => simp [intOf]; omega
                    · go_simp
                      refine hK _ _ ?_
                      clear hK K
                      try go_simp
                      refine wpAnyIn_ready (rs := [0, 10]) (by kernel_rfl) (by simp) ((AllReadyIn.cons rfl (fun K hK => ?_) (AllReadyIn.cons rfl (fun K hK => ?_) AllReadyIn.nil)))
                      · go_simp
                        refine hK _ _ ?_
                        clear hK K
                        try go_simp
                        refine wpAnyIn_ready (rs := [10]) (by kernel_rfl) (by simp) ((AllReadyIn.cons rfl (fun K hK => ?_) AllReadyIn.nil))
                        · refine step_append rfl rfl hrun ?_
                          refine hK _ _ ?_
                          clear hK K
                          try go_simp
                          refine wpAnyIn_take (i := 11) (v := P R) rfl rfl (by kernel_rfl) (by kernel_rfl) (by kernel_rfl) (fun _ _ _ h => h) ?h6 ?_
                          case h6 =>
                            refine ⟨Or.inl ⟨?_, fun w => ?_⟩, fun _ => ?_⟩
                            · rfl
                            · go_simp
                            · rfl
                          try go_simp
                          refine wpAnyIn_take (i := 12) (v := .pointer (some ⟨R, 2, none⟩)) rfl rfl (by kernel_rfl) (by kernel_rfl) (by kernel_rfl) (fun _ _ _ h => h) ?h6 ?_
                          case h6 =>
                            refine ⟨Or.inl ⟨?_, fun w => ?_⟩, fun _ => ?_⟩
                            · rfl
                            · go_simp
                            · rfl
                          try go_simp
                          refine wpAnyIn_ready (rs := [13]) (by kernel_rfl) (by simp) ((AllReadyIn.cons rfl (fun K hK => ?_) AllReadyIn.nil))
                          · go_simp
                            refine hK _ _ ?_
                            clear hK K
                            try go_simp
                            refine wpAnyIn_done (by kernel_rfl) ?_ _
                            gi_wp2
                            go_roundw
                            case rel => exact ⟨k + 1, by go_num, by omega, hrel5⟩
                            case measure => simp [intOf]; omega
                      · refine step_append rfl rfl hrun ?_
                        refine hK _ _ ?_
                        clear hK K
                        try go_simp
                        refine wpAnyIn_ready (rs := [0]) (by kernel_rfl) (by simp) ((AllReadyIn.cons rfl (fun K hK => ?_) AllReadyIn.nil))
                        · go_simp
                          refine hK _ _ ?_
                          clear hK K
                          try go_simp
                          refine wpAnyIn_take (i := 11) (v := P R) rfl rfl (by kernel_rfl) (by kernel_rfl) (by kernel_rfl) (fun _ _ _ h => h) ?h6 ?_
                          case h6 =>
                            refine ⟨Or.inl ⟨?_, fun w => ?_⟩, fun _ => ?_⟩
                            · rfl
                            · go_simp
                            · rfl
                          try go_simp
                          refine wpAnyIn_take (i := 12) (v := .pointer (some ⟨R, 2, none⟩)) rfl rfl (by kernel_rfl) (by kernel_rfl) (by kernel_rfl) (fun _ _ _ h => h) ?h6 ?_
                          case h6 =>
                            refine ⟨Or.inl ⟨?_, fun w => ?_⟩, fun _ => ?_⟩
                            · rfl
                            · go_simp
                            · rfl
                          try go_simp
                          refine wpAnyIn_ready (rs := [13]) (by kernel_rfl) (by simp) ((AllReadyIn.cons rfl (fun K hK => ?_) AllReadyIn.nil))
                          · go_simp
                            refine hK _ _ ?_
                            clear hK K
                            try go_simp
                            refine wpAnyIn_done (by kernel_rfl) ?_ _
                            gi_wp2
                            go_roundw
                            case rel => exact ⟨k + 1, by go_num, by omega, hrel5⟩
                            case measure => simp [intOf]; omega
                · go_simp
                  refine hK _ _ ?_
                  clear hK K
                  try go_simp
                  refine wpAnyIn_ready (rs := [0, 1]) (by kernel_rfl) (by simp) ((AllReadyIn.cons rfl (fun K hK => ?_) (AllReadyIn.cons rfl (fun K hK => ?_) AllReadyIn.nil)))
                  · go_simp
                    refine hK _ _ ?_
                    clear hK K
                    try go_simp
                    refine wpAnyIn_ready (rs := [1]) (by kernel_rfl) (by simp) ((AllReadyIn.cons rfl (fun K hK => ?_) AllReadyIn.nil))
                    · go_simp
                      refine hK _ _ ?_
                      clear hK K
                      try go_simp
                      refine wpAnyIn_take (i := 2) (v := P R) rfl rfl (by kernel_rfl) (by kernel_rfl) (by kernel_rfl) (fun _ _ _ h => h) ?h6 ?_
                      case h6 =>
                        refine ⟨Or.inl ⟨?_, fun w => ?_⟩, fun _ => ?_⟩
                        · rfl
                        · go_simp
                        · rfl
                      try go_simp
                      refine wpAnyIn_take (i := 3) (v := .pointer (some ⟨R, 2, none⟩)) rfl rfl (by kernel_rfl) (by kernel_rfl) (by kernel_rfl) (fun _ _ _ h => h) ?h6 ?_
                      case h6 =>
                        refine ⟨Or.inl ⟨?_, fun w => ?_⟩, fun _ => ?_⟩
                        · rfl
                        · go_simp
                        · rfl
                      try go_simp
                      refine wpAnyIn_ready (rs := [4]) (by kernel_rfl) (by simp) ((AllReadyIn.cons rfl (fun K hK => ?_) AllReadyIn.nil))
                      · go_simp
                        refine hK _ _ ?_
                        clear hK K
                        try go_simp
                        refine wpAnyIn_ready (rs := [10]) (by kernel_rfl) (by simp) ((AllReadyIn.cons rfl (fun K hK => ?_) AllReadyIn.nil))
                        · refine step_append rfl rfl hrun ?_
                          refine hK _ _ ?_
                          clear hK K
                          try go_simp
                          refine wpAnyIn_take (i := 11) (v := P R) rfl rfl (by kernel_rfl) (by kernel_rfl) (by kernel_rfl) (fun _ _ _ h => h) ?h6 ?_
                          case h6 =>
                            refine ⟨Or.inl ⟨?_, fun w => ?_⟩, fun _ => ?_⟩
                            · rfl
                            · go_simp
                            · rfl
                          try go_simp
                          refine wpAnyIn_take (i := 12) (v := .pointer (some ⟨R, 2, none⟩)) rfl rfl (by kernel_rfl) (by kernel_rfl) (by kernel_rfl) (fun _ _ _ h => h) ?h6 ?_
                          case h6 =>
                            refine ⟨Or.inl ⟨?_, fun w => ?_⟩, fun _ => ?_⟩
                            · rfl
                            · go_simp
                            · rfl
                          try go_simp
                          refine wpAnyIn_ready (rs := [13]) (by kernel_rfl) (by simp) ((AllReadyIn.cons rfl (fun K hK => ?_) AllReadyIn.nil))
                          · go_simp
                            refine hK _ _ ?_
                            clear hK K
                            try go_simp
                            refine wpAnyIn_done (by kernel_rfl) ?_ _
                            gi_wp2
                            go_roundw
                            case rel => exact ⟨k + 1, by go_num, by omega, hrel5⟩
                            case measure => simp [intOf]; omega
                  · go_simp
                    refine hK _ _ ?_
                    clear hK K
                    try go_simp
                    refine wpAnyIn_take (i := 2) (v := P R) rfl rfl (by kernel_rfl) (by kernel_rfl) (by kernel_rfl) (fun _ _ _ h => h) ?h6 ?_
                    case h6 =>
                      refine ⟨Or.inl ⟨?_, fun w => ?_⟩, fun _ => ?_⟩
                      · rfl
                      · go_simp
                      · rfl
                    try go_simp
                    refine wpAnyIn_take (i := 3) (v := .pointer (some ⟨R, 2, none⟩)) rfl rfl (by kernel_rfl) (by kernel_rfl) (by kernel_rfl) (fun _ _ _ h => h) ?h6 ?_
                    case h6 =>
                      refine ⟨Or.inl ⟨?_, fun w => ?_⟩, fun _ => ?_⟩
                      · rfl
                      · go_simp
                      · rfl
                    try go_simp
                    refine wpAnyIn_ready (rs := [0, 4]) (by kernel_rfl) (by simp) ((AllReadyIn.cons rfl (fun K hK => ?_) (AllReadyIn.cons rfl (fun K hK => ?_) AllReadyIn.nil)))
                    · go_simp
                      refine hK _ _ ?_
                      clear hK K
                      try go_simp
                      refine wpAnyIn_ready (rs := [4]) (by kernel_rfl) (by simp) ((AllReadyIn.cons rfl (fun K hK => ?_) AllReadyIn.nil))
                      · go_simp
                        refine hK _ _ ?_
                        clear hK K
                        try go_simp
                        refine wpAnyIn_ready (rs := [10]) (by kernel_rfl) (by simp) ((AllReadyIn.cons rfl (fun K hK => ?_) AllReadyIn.nil))
                        · refine step_append rfl rfl hrun ?_
                          refine hK _ _ ?_
                          clear hK K
                          try go_simp
                          refine wpAnyIn_take (i := 11) (v := P R) rfl rfl (by kernel_rfl) (by kernel_rfl) (by kernel_rfl) (fun _ _ _ h => h) ?h6 ?_
                          case h6 =>
                            refine ⟨Or.inl ⟨?_, fun w => ?_⟩, fun _ => ?_⟩
                            · rfl
                            · go_simp
                            · rfl
                          try go_simp
                          refine wpAnyIn_take (i := 12) (v := .pointer (some ⟨R, 2, none⟩)) rfl rfl (by kernel_rfl) (by kernel_rfl) (by kernel_rfl) (fun _ _ _ h => h) ?h6 ?_
                          case h6 =>
                            refine ⟨Or.inl ⟨?_, fun w => ?_⟩, fun _ => ?_⟩
                            · rfl
                            · go_simp
                            · rfl
                          try go_simp
                          refine wpAnyIn_ready (rs := [13]) (by kernel_rfl) (by simp) ((AllReadyIn.cons rfl (fun K hK => ?_) AllReadyIn.nil))
                          · go_simp
                            refine hK _ _ ?_
                            clear hK K
                            try go_simp
                            refine wpAnyIn_done (by kernel_rfl) ?_ _
                            gi_wp2
                            go_roundw
                            case rel => exact ⟨k + 1, by go_num, by omega, hrel5⟩
                            case measure => simp [intOf]; omega
                    · go_simp
                      refine hK _ _ ?_
                      clear hK K
                      try go_simp
                      refine wpAnyIn_ready (rs := [0, 10]) (by kernel_rfl) (by simp) ((AllReadyIn.cons rfl (fun K hK => ?_) (AllReadyIn.cons rfl (fun K hK => ?_) AllReadyIn.nil)))
                      · go_simp
                        refine hK _ _ ?_
                        clear hK K
                        try go_simp
                        refine wpAnyIn_ready (rs := [10]) (by kernel_rfl) (by simp) ((AllReadyIn.cons rfl (fun K hK => ?_) AllReadyIn.nil))
                        · refine step_append rfl rfl hrun ?_
                          refine hK _ _ ?_
                          clear hK K
                          try go_simp
                          refine wpAnyIn_take (i := 11) (v := P R) rfl rfl (by kernel_rfl) (by kernel_rfl) (by kernel_rfl) (fun _ _ _ h => h) ?h6 ?_
                          case h6 =>
                            refine ⟨Or.inl ⟨?_, fun w => ?_⟩, fun _ => ?_⟩
                            · rfl
                            · go_simp
                            · rfl
                          try go_simp
                          refine wpAnyIn_take (i := 12) (v := .pointer (some ⟨R, 2, none⟩)) rfl rfl (by kernel_rfl) (by kernel_rfl) (by kernel_rfl) (fun _ _ _ h => h) ?h6 ?_
                          case h6 =>
                            refine ⟨Or.inl ⟨?_, fun w => ?_⟩, fun _ => ?_⟩
                            · rfl
                            · go_simp
                            · rfl
                          try go_simp
                          refine wpAnyIn_ready (rs := [13]) (by kernel_rfl) (by simp) ((AllReadyIn.cons rfl (fun K hK => ?_) AllReadyIn.nil))
                          · go_simp
                            refine hK _ _ ?_
                            clear hK K
                            try go_simp
                            refine wpAnyIn_done (by kernel_rfl) ?_ _
                            gi_wp2
                            go_roundw
                            case rel => exact ⟨k + 1, by go_num, by omega, hrel5⟩
                            case measure => simp [intOf]; omega
                      · refine step_append rfl rfl hrun ?_
                        refine hK _ _ ?_
                        clear hK K
                        try go_simp
                        refine wpAnyIn_ready (rs := [0]) (by kernel_rfl) (by simp) ((AllReadyIn.cons rfl (fun K hK => ?_) AllReadyIn.nil))
                        · go_simp
                          refine hK _ _ ?_
                          clear hK K
                          try go_simp
                          refine wpAnyIn_take (i := 11) (v := P R) rfl rfl (by kernel_rfl) (by kernel_rfl) (by kernel_rfl) (fun _ _ _ h => h) ?h6 ?_
                          case h6 =>
                            refine ⟨Or.inl ⟨?_, fun w => ?_⟩, fun _ => ?_⟩
                            · rfl
                            · go_simp
                            · rfl
                          try go_simp
                          refine wpAnyIn_take (i := 12) (v := .pointer (some ⟨R, 2, none⟩)) rfl rfl (by kernel_rfl) (by kernel_rfl) (by kernel_rfl) (fun _ _ _ h => h) ?h6 ?_
                          case h6 =>
                            refine ⟨Or.inl ⟨?_, fun w => ?_⟩, fun _ => ?_⟩
                            · rfl
                            · go_simp
                            · rfl
                          try go_simp
                          refine wpAnyIn_ready (rs := [13]) (by kernel_rfl) (by simp) ((AllReadyIn.cons rfl (fun K hK => ?_) AllReadyIn.nil))
                          · go_simp
                            refine hK _ _ ?_
                            clear hK K
                            try go_simp
                            refine wpAnyIn_done (by kernel_rfl) ?_ _
                            gi_wp2
                            go_roundw
                            case rel => exact ⟨k + 1, by go_num, by omega, hrel5⟩
                            case measure => simp [intOf]; omega
            · obtain rfl : p = k := by omega
              have hall : x.1.all okc = true := by
                have := i1.out
                rw [List.take_of_length_le (by rw [hp.out]; exact Nat.le_refl _)] at this
                exact this
              have hn : Hid (rdL (pre ++ [x]) = some ⟨p, st.H + 1, st.l ++ x.1.map (· == 35)⟩) := Lib.hid (by rw [hrd.out, if_pos hall])
              have hown5 : wr.ownsRow w2.heap.size 4 1 (.slice A' (st.l.length + p) c') (st.l ++ x.1.map (· == 35)).length (boC (st.l ++ x.1.map (· == 35))) := by
                have := i3.out
                rw [List.take_of_length_le (by rw [hp.out]; exact Nat.le_refl _)] at this
                rw [List.length_append, List.length_map, hp.out]
                exact this
              replace hown5 := Lib.hid hown5
              gi_wp2
              have hge := own_ge kO.out
              have nS : ∀ i, i < w2.heap.size → i ≠ R → ¬ (i = R ∨ Lv.ownBlock = some i) := fun i hi hr e => by
                rcases e with e | e
                · exact hr e
                · have := hge i e
                  omega
              refine ⟨(KeepsOthers.of_only i4.out ?_).from _, i4.out.block b1 (Nat.lt_of_lt_of_le h1w hsz) (nS _ h1w hR1), ⟨⟨p, st.H + 1, st.l ++ x.1.map (· == 35)⟩, _, hn.out, i2.out, hown5.out, kk2.out, kk3.out, kk4.out, ho.out.then i4.out fun i hi => .inr ?_, Nat.le_trans hsz i4.out.size⟩⟩
              · rintro k (rfl | e)
                · exact ⟨_, _, _, kR.out⟩
                · exact own_cellsObj kO.out k e
              · rcases hi with e | e
                · omega
                · have := hge i e
                  omega
    case done =>
      rintro D xs V hD rfl hJ hK
      obtain ⟨st, Lv, hst, kR, kO, k2, k3, k4, ho, hsz⟩ := hJ.out
      have hok := Lib.hid (rd_ok _ _ hst)
      replace hst := Lib.hid hst
      obtain ⟨A, c, rfl⟩ := own_slice kO
      have d0 := kR.cell 0
      have d1 := kR.cell 1
      have z4 := k4.cell 0
      have z2 := k2.cell 0
      have z3 := k3.cell 0
      have y2 := k2.frozen 0
      have y3 := k3.frozen 0
      simp only [List.getElem?_toArray, List.getElem?_cons_zero, List.getElem?_cons_succ] at d0 d1 z4 z2 z3
      have o9 : Only (fun k => k = D) V (V.putObj D (.deferred none)) := (Only.of_grown (grownBy_putObj' V D (.deferred none))).mono fun k e => by cases e; rfl
      have hb2D : w.heap.size ≠ D := by omega
      have hb3D : b3 ≠ D := by omega
      have hDD : V.heap[D]? = some (.deferred (some [])) := hK
      replace k2 := Lib.hid k2
      replace k3 := Lib.hid k3
      replace kR := Lib.hid kR
      replace kO := Lib.hid kO
      replace ho := Lib.hid ho
      have hwD : w.heap.size ≤ D := by omega
      have h3ge : w.heap.size ≤ b3 := by omega
      have hRw : R < w2.heap.size := by omega
      have hww : w.heap.size < w2.heap.size := by omega
      have h3w : b3 < w2.heap.size := by omega
      have hnA : ¬ b3 = w.heap.size := by omega
      have hnB : ¬ w.heap.size = b3 := by omega
      have hR2 : w.heap.size ≠ R := by omega
      have hR3 : b3 ≠ R := by omega
      have hR4 : b4 ≠ R := by omega
      replace k4 := Lib.hid k4
      replace hb1 := Lib.hid hb1
      replace hb4 := Lib.hid hb4
      replace hR := Lib.hid hR
      replace hb3 := Lib.hid hb3
      by_cases h8 : st.H ≤ 8192
      · have hfit := Lib.hid (fun w => fits29 w st.W st.H hok.out.2.1 h8)
        have hne : ∀ ad, A = some ad → ad.block ≠ R := fun ad e => by
          have := own_ge kO.out ad.block (by
            rcases kO.out.2 with ⟨hv, _⟩ | ⟨g', cap, cur, hv, _⟩
            · subst e; simp at hv
            · subst e
              injection hv with hv
              injection hv with hv
              subst hv
              rfl)
          have := hb1.out
          have := hb4.out
          omega
        have hlen : st.l.length ≤ 67108864 := by
          have h1 := hok.out.1
          have h2 := Nat.mul_le_mul hok.out.2.1 h8
          omega
        have hrec := Lib.hid (fun w' (o : Only No V w') => recount30 w' R st.W st.H A c st.l 0 (kR.out.only o id) ((Rds.of_own kO.out).no o) hne hlen)
        go_wp2_with fail
        go_quiet ((go_at_call 29; exact Calls.quiet_of_same (hfit.out _)))
        have oq : Only No V (V.drewN nq) := (Only.refl No V).drewN nq
        have hrec2 := Lib.hid (hrec.out _ oq)
        go_wp2_with (go_at_call 30; refine hrec2.out.mono ?_; rintro e w9 ⟨rfl, o5, kb5⟩; have i2 := (k2.out.only oq id).only o5 hR2; have i3 := (k3.out.only oq id).only o5 hR3; have z4' := ((k4.out.only oq id).only o5 hR4).cell 0; have z2' := i2.cell 0; have z3' := i3.cell 0; have y2' := i2.frozen 0; have y3' := i3.frozen 0; simp only [List.getElem?_toArray, List.getElem?_cons_zero] at z4' z2' z3'; replace o5 := Lib.hid o5; replace kb5 := Lib.hid kb5; replace i2 := Lib.hid i2; replace i3 := Lib.hid i3)
        obtain ⟨W5, hW5⟩ : ∃ W5, W5 = ((w9.setCell { block := w.heap.size, off := 0 } (Value.pointer (some { block := R, off := 0 }))).setCell { block := b3, off := 0 } (Value.int IntKind.i64 0)) := ⟨_, rfl⟩
        have o6 : Only (fun k => k = w.heap.size ∨ k = b3) w9 W5 := by rw [hW5]; exact ((Only.refl _ w9).setCell (p := ⟨w.heap.size, 0, none⟩) (.inl (.inl rfl)) _).setCell (p := ⟨b3, 0, none⟩) (.inl (.inr rfl)) _
        have o7 : Only (fun k => k = R ∨ k = w.heap.size ∨ k = b3) V W5 := ((oq.mono fun _ h => h.elim).trans (o5.out.mono fun i hi => .inl hi)).trans (o6.mono fun i hi => .inr hi)
        have j2 : Blk W5 w.heap.size 24 #[P R] := by rw [hW5]; exact (Blk.set0 i2.out _).far hnB _
        have j3 : Blk W5 b3 33 #[.int .i64 0] := by rw [hW5]; exact Blk.set0 (i3.out.far (p := ⟨w.heap.size, 0, none⟩) hnA _) _
        have hRD : R ≠ D := by
          have := hb1.out
          have := hb4.out
          omega
        have hD5 : W5.heap[D]? = some (.deferred (some [])) := (o7.block D (Array.getElem?_eq_some_iff.1 hDD).1 (by rintro (e | e | e); exact hRD e.symm; exact hb2D e.symm; exact hb3D e.symm)).trans hDD
        have o10 : Only (fun k => k = D) W5 (W5.putObj D (.deferred none)) := (Only.of_grown (grownBy_putObj' W5 D (.deferred none))).mono fun k e => by cases e; rfl
        have jR : Blk W5 R 54 (mapC st.W st.H A c st.l (cnt st.l)) := kb5.out.only o6 (by rintro (e | e); exact hR2 e.symm; exact hR3 e.symm)
        rw [← hW5, ← hQ.out]
        clear hW5
        refine ⟨by simp, .inl ⟨_, _, rfl, run_takeDeferred hD5, ?_⟩⟩
        refine ⟨_, results10b rfl rfl (j2.only o10 hb2D) (j3.only o10 hb3D), ?_⟩
        unfold ReadPost
        rw [hst.out]
        show (if st.H ≤ 8192 then _ else _)
        rw [if_pos h8]
        have hSm : ∀ k, Sm R A k → w.heap.size ≤ k ∧ k ≠ D ∧ k ≠ w.heap.size ∧ k ≠ b3 := by
          have h1 := hb1.out
          have h2 := hb4.out
          have h3 := hR.out
          have h4 := hb3.out
          rintro k (rfl | ⟨ad, rfl, rfl⟩)
          · exact ⟨by omega, hRD, by omega, by omega⟩
          · have hbo : (Value.slice (some ad) st.l.length c).ownBlock = some ad.block := by
              rcases kO.out.2 with ⟨hv, _⟩ | ⟨g', cap, cur, hv, _⟩
              · simp at hv
              · injection hv with hv
                injection hv with hv
                subst hv
                rfl
            have l1 := own_ge kO.out _ hbo
            refine ⟨by omega, fun e => ?_, by omega, by omega⟩
            obtain ⟨cs, t, m, e2⟩ := own_cellsObj kO.out _ hbo
            rw [e, hDD] at e2
            cases e2
        refine ⟨R, A, c, rfl, (ho.out.then o7 fun i hi => .inr ?_).then o10 fun i hi => .inr (by have hi : i = D := hi; omega), fun k hk => (hSm k hk).1, ⟨jR.only o10 hRD, ?_, hok.out.1, hok.out.2.1, h8⟩⟩
        · have h3 := hR.out
          have h4 := hb3.out
          rcases hi with e | e | e <;> omega
        · refine own_base (own_only (own_only kO.out o7 fun i hi e => ?_) o10 fun i hi e => ?_) fun i _ => Nat.zero_le _
          · have l1 := own_ge kO.out i hi
            have h1 := hb1.out
            have h2 := hb4.out
            rcases e with e | e | e <;> omega
          · obtain ⟨cs, t, m, e2⟩ := own_cellsObj kO.out i hi
            rw [show i = D from e, hDD] at e2
            cases e2
      · have hfit := Lib.hid (fun w => fits29_no w st.W st.H (by omega))
        go_wp2_with fail
        clear hb1 hR hb4 hb3 hsz2 m2 m3 m4 mR m1 ow
        go_quiet ((go_at_call 29; exact Calls.quiet_of_same (hfit.out _)))
        go_wp2_with fail
        obtain ⟨W5, hW5⟩ : ∃ W5, W5 = (((V.drewN nq).setCell { block := w.heap.size, off := 0 } (Value.pointer none)).setCell { block := b3, off := 0 } (Value.int IntKind.i64 120)) := ⟨_, rfl⟩
        have o7 : Only (fun k => k = w.heap.size ∨ k = b3) V W5 := by rw [hW5]; exact (((Only.refl _ V).drewN nq).setCell (p := ⟨w.heap.size, 0, none⟩) (.inl (.inl rfl)) _).setCell (p := ⟨b3, 0, none⟩) (.inl (.inr rfl)) _
        have j2 : Blk W5 w.heap.size 24 #[.pointer none] := by rw [hW5]; exact (Blk.set0 (k2.out.drewN nq) _).far hnB _
        have j3 : Blk W5 b3 33 #[.int .i64 120] := by rw [hW5]; exact Blk.set0 ((k3.out.drewN nq).far (p := ⟨w.heap.size, 0, none⟩) hnA _) _
        have hD5 : W5.heap[D]? = some (.deferred (some [])) := (o7.block D (Array.getElem?_eq_some_iff.1 hDD).1 (by rintro (e | e); exact hb2D e.symm; exact hb3D e.symm)).trans hDD
        have o10 : Only (fun k => k = D) W5 (W5.putObj D (.deferred none)) := (Only.of_grown (grownBy_putObj' W5 D (.deferred none))).mono fun k e => by cases e; rfl
        rw [← hW5, ← hQ.out]
        clear hW5
        refine ⟨by simp, .inl ⟨_, _, rfl, run_takeDeferred hD5, ?_⟩⟩
        refine ⟨_, results10b rfl rfl (j2.only o10 hb2D) (j3.only o10 hb3D), ?_⟩
        unfold ReadPost
        rw [hst.out]
        show (if st.H ≤ 8192 then _ else _)
        rw [if_neg h8]
        refine ⟨rfl, (ho.out.then o7 fun i hi => .inr ?_).then o10 fun i hi => .inr (by have hi : i = D := hi; omega)⟩
        rcases hi with e | e <;> omega
    case stop =>
      rintro D pre V hD ⟨k, hk, rfl⟩ hJ hK
      obtain ⟨hn, k2, k3, ho⟩ := hJ.out
      have hnone := rd_none hn
      have o9 : Only (fun k => k = D) V (V.putObj D (.deferred none)) := (Only.of_grown (grownBy_putObj' V D (.deferred none))).mono fun k e => by cases e; rfl
      have hb2D : w.heap.size ≠ D := by omega
      have hb3D : b3 ≠ D := by omega
      gi_wp2
      rw [← hQ.out]
      refine ⟨by simp, .inl ⟨_, _, rfl, run_takeDeferred hK, ?_⟩⟩
      refine ⟨_, results10b rfl rfl (k2.only o9 hb2D) (k3.only o9 hb3D), ?_⟩
      unfold ReadPost
      rw [hnone]
      exact ⟨rfl, ho.then o9 fun i hi => .inr (by omega)⟩
end Go.Proofs.Ytclidonogebgkaa.Ct
