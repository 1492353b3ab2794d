/- The rows of piles: the walk. -/
import Derived.Test.YtjkeampckinniaaAp
import Derived.Deep.DeepCutAuto
import Derived.Deep.CutRange
namespace Go.Proofs.Ytjkeampckinniaa.Ct
open Go.ChangeShapes Go.WideShapes Go.RowKit Mm
theorem info_parts {P : Program} {e : TypeId} {z : Value} {size bytes : Nat} (h : (P.info? e).map (fun i => (i.zero, i.size, i.bytes)) = some (some z, size, bytes)) :
    ∃ i, P.info? e = some i ∧ i.zero = some z ∧ i.size = size ∧ i.bytes = bytes := by
  obtain ⟨i, hi, hzz⟩ := Option.map_eq_some_iff.1 h
  simp only [Prod.mk.injEq] at hzz
  exact ⟨i, hi, hzz.1, hzz.2.1, hzz.2.2⟩
theorem info3 : (Try.prog.info? 3).map (fun i => (i.zero, i.size, i.bytes)) = some (some (.int .i64 0), 1, 8) := by kernel_rfl
theorem info119 : (Try.prog.info? 119).map (fun i => (i.zero, i.size, i.bytes)) = some (some (.pointer none), 1, 8) := by kernel_rfl
theorem madeN (n : Nat) : (madeCells (Value.int .i64 0).cells (n * 1)).toList = nC (List.replicate n 0) := by
  rw [Nat.mul_one, show (Value.int .i64 0).cells = #[Value.int .i64 0] from rfl, toList_madeCells_one]
  simp [nC]
theorem Blk.new' {w : World} {g : Nat} (t : TypeId) (cs : Array Value) (hg : g = w.heap.size) : Blk (w.alloc (.cells cs t)) g t cs := by subst hg; exact Blk.new w t cs
/-- single piles are being made -/
def SIn (w w1 : World) (ts : List Nat) (cw : Nat → Nat) (v : Value) (i : Nat) (V : World) : Prop :=
  Hid (∃ its : List It, V.ownsRow w1.heap.size 119 1 v i (itC its) ∧ (∀ x ∈ its, itB V x) ∧ its.map keyP = (ts.take i).map (fun t => (cw t, t)) ∧ Only No w1 V ∧ w.heap.size ≤ w1.heap.size)
/-- what is new behind a world -/
def Ge (b : Nat) : Nat → Prop := fun k => b ≤ k
theorem own_length {w : World} {base n : Nat} {e : TypeId} {v : Value} {its : List It} (h : w.ownsRow base e 1 v n (itC its)) : its.length = n := by
  have := h.1
  rw [itC_len] at this
  omega
theorem itB_only {S : Nat → Prop} {w w' : World} {x : It} (h : itB w x) (o : Only S w w') (hS : NoPile w S) : itB w' x := Blk.only h o fun hs => hS _ hs _ h
theorem row_of {w : World} (qs : List It) (h : ∀ x ∈ qs, itB w x) : RowAt w ((qs.map keyP).map oneP) (qs.map (·.g)) := by
  induction qs with
  | nil => exact .nil
  | cons x qs ih => exact .cons (h x List.mem_cons_self) (ih fun y hy => h y (List.mem_cons_of_mem _ hy))
theorem itC_gC (qs : List It) : itC qs = gC (qs.map (·.g)) := by simp [itC, gC]
/-- a row of piles -/
def KI (B0 : Nat) (w2 : World) (sp : List Pile) (k : Nat) (v : Value) (V : World) : Prop :=
  Hid (∃ gs Ar cr, v = .slice Ar gs.length cr ∧ gs.length ≤ cr ∧ Rds V 1 Ar gs.length (gC gs) ∧ RowAt V (rowN sp k) gs ∧ Only (Ge w2.heap.size) w2 V ∧ ∀ ad, Ar = some ad → B0 < ad.block)
/-- the next row is under way -/
def LI (wr : World) (sp bs : List Pile) (T n m : Nat) (v15 v16 : Value) (V : World) : Prop :=
  Hid (∃ gO j As cs, V.ownsRow wr.heap.size 119 1 v15 gO.length (gC gO) ∧ RowAt V (mgTo sp bs m).1 gO ∧ j ≤ n ∧ (mgTo sp bs m).2 = sp.drop j ∧ v16 = .slice As (n - j) cs ∧ (j < n → As = some ⟨T, j, none⟩ ∧ n - j ≤ cs) ∧ Only (Ge wr.heap.size) wr V)
/-- single piles are being taken ahead of a poured one -/
def TI (wr : World) (sp out : List Pile) (b : Pile) (gb T n j q : Nat) (v15 v16 : Value) (V : World) : Prop :=
  Hid (∃ gO As cs, V.ownsRow wr.heap.size 119 1 v15 gO.length (gC gO) ∧ RowAt V (out ++ (sp.drop j).take q) gO ∧ v16 = .slice As (n - (j + q)) cs ∧ (j + q < n → As = some ⟨T, j + q, none⟩ ∧ n - (j + q) ≤ cs) ∧ PAt V b gb ∧ Only (Ge wr.heap.size) wr V)
def sLen : Value → Nat
  | .slice _ n _ => n
  | _ => 0
theorem pre_cons (x : Pile) (s : List Pile) (b : Pile) : pre (x :: s) b = if wt x ≤ wt b then x :: pre s b else [] := by
  unfold pre
  rw [List.takeWhile_cons]
  by_cases hx : wt x ≤ wt b <;> simp [hx]
theorem pre_step {b : Pile} : ∀ {s : List Pile} {q : Nat} (_ : q ≤ (pre s b).length) (h1 : q < s.length), (wt s[q] ≤ wt b → q + 1 ≤ (pre s b).length) ∧ (¬ wt s[q] ≤ wt b → q = (pre s b).length) := by
  intro s
  induction s with
  | nil => intro q _ h1; simp at h1
  | cons x s ih =>
    intro q hq h1
    rw [pre_cons] at *
    split at hq
    · rename_i hx
      rw [if_pos hx]
      cases q with
      | zero => exact ⟨fun _ => by simp, fun h => absurd hx h⟩
      | succ q =>
        have := ih (q := q) (by simpa using hq) (by simpa using h1)
        simp only [List.getElem_cons_succ, List.length_cons]
        omega
    · rename_i hx
      rw [if_neg hx]
      have : q = 0 := by simpa using hq
      subst this
      exact ⟨fun h => absurd h hx, fun _ => rfl⟩
theorem pre_le (s : List Pile) (b : Pile) : (pre s b).length ≤ s.length := (List.takeWhile_sublist _).length_le
theorem pre_take (s : List Pile) (b : Pile) : s.take (pre s b).length = pre s b := by
  conv => lhs; arg 2; rw [← pre_post s b]
  exact List.take_left
theorem noPile_ge {w : World} {b : Nat} (hb : w.heap.size ≤ b) : NoPile w (Ge b) := fun k hk cs h => by
  have h1 := h.lt
  have h2 : b ≤ k := hk
  omega
theorem RowAt.only {S : Nat → Prop} {w w' : World} {ps : List Pile} {gs : List Nat} (h : RowAt w ps gs) (o : Only S w w') (hS : NoPile w S) : RowAt w' ps gs := h.map fun _ _ hp => hp.only o hS
theorem row_len_le (s : List Pile) (k : Nat) : (rowN s k).length ≤ 2 * s.length := by
  induction k with
  | zero => show s.length ≤ _; omega
  | succ k ih => rw [row_len]; omega
theorem row_wt {s : List Pile} {k : Nat} (hk : k + 1 ≤ 32) (hs : wtL s ≤ 1127000000000000) : wtL (rowN s k) ≤ 36064000000000000 := by
  have h1 := (row_bounds s k).1
  have h2 : (k + 1) * wtL s ≤ 32 * 1127000000000000 := Nat.mul_le_mul hk hs
  omega
theorem blk_n1 (w : World) (t : TypeId) (cs : Array Value) : Blk ((w.alloc (.cells cs t)).drew) w.heap.size t cs := Blk.new w t cs
theorem blk_n2 (w : World) (t : TypeId) (cs : Array Value) : Blk (w.drew.alloc (.cells cs t)) w.heap.size t cs := Blk.new w.drew t cs
theorem add0 (ad : Addr) : ad.add 0 = ad := by unfold Addr.add; simp
set_option maxRecDepth 100000 in
set_option maxHeartbeats 2000000 in
theorem rows47_48 (w : World) (A : Option Addr) (c : Nat) (ts : List Nat) (hr : Rds w 1 A ts.length (nC ts)) (gb : Nat) (cw : Nat → Nat)
    (hcv : ∀ w', Only No w w' → ∀ t ∈ ts, Calls Try.prog 48 #[.int .i64 (t : Nat), P gb] w' fun e w'' => e = .returned (.int .i64 (cw t : Nat)) ∧ w'' = w')
    (most limit : Nat) (hts : ∀ t ∈ ts, t < most) (hmost : most ≤ 1025) (hn1 : 1 ≤ ts.length) (hn2 : ts.length ≤ 1025) (hlim : 1 ≤ limit) (hl32 : limit ≤ 32) (hfit : ts.length ≤ 2 ^ limit) (hcw : ∀ t ∈ ts, cw t ≤ 1099511627776) :
    Calls Try.prog 47 #[.slice A ts.length c, .func (.func 48) #[] #[P gb], .int .i64 most, .int .i64 limit] w fun e w' =>
      ∃ T, e = .returned (.slice (some ⟨T, 0, none⟩) most most) ∧ w'.ownsRow w.heap.size 3 1 (.slice (some ⟨T, 0, none⟩) most most) most (nC (rowsP ts cw most limit)) ∧ Only No w w' := by
  obtain ⟨i0, hi0, hz0, hz1, hz2⟩ := info_parts info3
  obtain ⟨j0, hj0, jz0, jz1, jz2⟩ := info_parts info119
  obtain ⟨w1, hmk, own1, gr1⟩ := run_make_full (P := Try.prog) w w.heap.size 22 3 i0 (.int .i64 0) 1 Try.underlying22 hi0 hz0 hz1 .i64 .i64 most (by rw [hz2]; omega) (by unfold maxLen; omega) (Nat.le_refl _)
  rw [madeN] at own1
  have o1 : Hid (Only No w w1) := Lib.hid ((Only.of_grown gr1).mono (fun i h => by cases h))
  have hR := Lib.hid hr
  have hC := Lib.hid hcv
  have hT := Lib.hid hts
  have hW := Lib.hid hcw
  replace own1 := Lib.hid own1
  clear gr1 hr hcv hts hcw
  by_cases h1 : ts.length = 1
  · have h2 : ((ts.length : Int) == 1) = true := by rw [h1]; rfl
    obtain ⟨ad, rfl, hcell⟩ := (hR.out.no o1.out).at_ (i := 0) (by omega) (nC_get (show 0 < ts.length by omega))
    rw [add0] at hcell
    have hmem : ts.getD 0 0 ∈ ts := by simp [List.getD_eq_getElem?_getD, show 0 < ts.length by omega]
    have hxm := hT.out _ hmem
    have hfr := own1.out.frozenAt (ts.getD 0 0)
    have hcl := own1.out.cellAt (ts.getD 0 0) (by omega)
    rw [nC_get (by simpa using hxm)] at hcl
    have hst := Lib.hid (own1.out.stored (ts.getD 0 0) (.int .i64 ((1 : Nat) : Int)))
    rw [nC_set] at hst
    have hans : Hid (rowsP ts cw most limit = (List.replicate most 0).set (ts.getD 0 0) 1) := Lib.hid (if_pos h1)
    generalize ts.getD 0 0 = x at *
    have hx' : (x : Int) < most := by omega
    have hl1 : 0 < ts.length := by omega
    have h1' := Lib.hid h1
    clear hmem h1
    go_enter Try.func47, Try.ntmps47
    go_wp2_with fail
    go_ret
    refine ⟨w.heap.size, rfl, by rw [hans.out]; simpa using hst.out.1, ?_⟩
    exact o1.out.then (Only.of_grown hst.out.2) fun k hk => .inr (by injection hk with hk; omega)
  · have h2 : ((ts.length : Int) == 1) = false := by simp; omega
    have hn : 2 ≤ ts.length := by omega
    go_enter Try.func47, Try.ntmps47
    go_wp2_with fail
    clear hmk
    go_loopw [10, 34] (fun v10 v34 wr => ∃ i : Nat, v34 = .int .i64 i ∧ i ≤ ts.length ∧ SIn w w1 ts cw v10 i wr) (fun _ v34 _ => ts.length - (intOf v34).toNat)
    case atStart => exact ⟨0, rfl, by omega, Lib.hid ⟨[], World.ownsRow_nil _ _ _ _, fun x hx => by simp at hx, rfl, Only.refl _ _, o1.out.size⟩⟩
    case round =>
      obtain ⟨i, rfl, hi, hI⟩ := hrel
      by_cases hlt : i < ts.length
      · have hlt' : (i : Int) < ts.length := by omega
        obtain ⟨its, hown, hits, hkey, ho, hsz⟩ := hI.out
        obtain ⟨ad, rfl, hcell⟩ := (hR.out.no (o1.out.trans ho)).at_ (i := i) (by omega) (nC_get hlt)
        have hmem : ts.getD i 0 ∈ ts := by simp [List.getD_eq_getElem?_getD, hlt]
        have hcall := Lib.hid (fun w' (o : Only No wr w') => hC.out w' ((o1.out.trans ho).trans o) _ hmem)
        generalize hx : ts.getD i 0 = x at *
        have hownA := Lib.hid (fun w' (o : Only No wr w') => (own_only hown o fun _ _ => id))
        have hits' := Lib.hid hits
        have hkey' := Lib.hid hkey
        have ho' := Lib.hid ho
        have hts1 : ts[i] = x := by rw [← hx]; simp [List.getD_eq_getElem?_getD, hlt]
        have htk := Lib.hid (List.take_succ_eq_append_getElem hlt)
        rw [hts1] at htk
        have hszr := ho.size
        clear hown hits hkey ho hI hts1
        go_wp2_with (first
          | (go_at_call 48; (with_reducible refine (hcall.out _ (Only.refl _ _)).mono ?_); rintro e w2 ⟨rfl, rfl⟩)
          | (at_builtin; refine wpList_append_any _ rfl (.tmp 38) (.tmp 45) 118 rfl w1.heap.size 119 j0 (.pointer none) 1 8 Try.underlying118 hj0 jz0 jz1 jz2 rfl (by decide) _ i (itC its) rfl (hownA.out _ (((Only.refl No _).alloc _).alloc _)) _ 1 1 [P _] rfl (Rds.fresh (n := 1) (size := 1) (Blk.new' 119 #[P _] (by simp)) rfl) ?c1 ?c2 ?c3 ?c4 ?_))
        case c1 => intro u hu; simp at hu; subst hu; rfl
        case c2 => unfold maxLen; omega
        case c3 => omega
        case c4 => simp; omega
        intro v' w' own' o' _
        have hlen := own_length (hownA.out _ (Only.refl No _))
        have hnp := noPile_own (hownA.out _ (Only.refl No _)) (by decide)
        have hold := own_lt (hownA.out _ (Only.refl No _))
        have hbase := own_ge (hownA.out _ (Only.refl No _))
        have oaa : Only No w2 ((w2.alloc (Obj.cells #[.int .i64 (cw x : Nat), .int .i64 (x : Nat), .pointer none, .pointer none] 121)).alloc (Obj.cells #[P w2.heap.size] 119)) := ((Only.refl No w2).alloc _).alloc _
        have hnew : SIn w w1 ts cw v' (i + 1) w' := Lib.hid ⟨its ++ [⟨w2.heap.size, cw x, x⟩], by
            have := own'
            rw [show itC its ++ [P w2.heap.size] = itC (its ++ [⟨w2.heap.size, cw x, x⟩]) by simp [itC]] at this
            exact this, by
            intro y hy
            rcases List.mem_append.1 hy with hy | hy
            · have h0 := hits'.out y hy
              have h1 : itB _ y := Blk.only h0 oaa id
              exact Blk.only h1 o' fun hs => hnp _ hs _ h0
            · obtain rfl := List.mem_singleton.1 hy
              have h1 : itB _ (⟨w2.heap.size, cw x, x⟩ : It) := (Blk.new w2 121 _).alloc (Obj.cells #[P w2.heap.size] 119)
              exact Blk.only h1 o' fun hs => by have := hold _ hs; exact absurd this (Nat.lt_irrefl _), by
            rw [List.map_append, hkey'.out, htk.out, List.map_append]
            rfl, (ho'.out.trans oaa).then o' fun k hk => .inr (hbase k hk), hsz⟩
        clear own' o' hownA hits' hkey' htk ho' hcall hnp hold hbase oaa
        go_wp2_with fail
        go_roundw
        case rel => exact ⟨i + 1, by go_num, by omega, hnew⟩
        case measure => simp [intOf]; omega
      · obtain rfl : i = ts.length := by omega
        obtain ⟨its, hown, hits, hkey, ho, hsz⟩ := hI.out
        rw [List.take_length] at hkey
        have hlen := own_length hown
        rcases hown.2 with ⟨_, h0⟩ | ⟨T, cap, cur, rfl, hTb, _⟩
        · omega
        have hsr := Lib.hid (sort59 wr w1.heap.size cap T its (by omega) (by omega) (by rw [hlen]; exact hown) hits)
        have hnp := noPile_one hown (by decide)
        rw [hlen] at hsr
        have hTlt : T < wr.heap.size := own_lt hown T (by simp [Value.ownBlock])
        replace hits := Lib.hid hits
        replace hkey := Lib.hid hkey
        replace ho := Lib.hid ho
        replace hnp := Lib.hid hnp
        clear hown hI hC
        go_wp2_with fail
        refine hsr.out.mono ?_
        rintro e w2 ⟨rfl, qs, hperm, hsrt, hown2, o2⟩
        have hsp := sgl_of hkey.out hperm hsrt
        have hitq : ∀ x ∈ qs, itB w2 x := fun x hx => itB_only (hits.out x (hperm.mem_iff.1 hx)) o2 hnp.out
        have hrow := row_of qs hitq
        rw [hsp] at hrow
        rw [itC_gC] at hown2
        obtain ⟨gs0, hgs⟩ : ∃ gs0, gs0 = qs.map (·.g) := ⟨_, rfl⟩
        rw [← hgs] at hown2 hrow
        have hgl : gs0.length = ts.length := by rw [hgs, List.length_map, hperm.length_eq, hlen]
        have hspl := sgl_len ts cw
        have hbig : wtL (sgl ts cw) ≤ 1127000000000000 := by
          rw [sgl_wt]
          have : ∀ l : List Nat, (∀ t ∈ l, cw t ≤ 1099511627776) → (l.map cw).sum ≤ l.length * 1099511627776 := by
            intro l
            induction l with
            | nil => intro _; simp
            | cons t l ih =>
              intro h
              have h1 := ih fun y hy => h y (List.mem_cons_of_mem _ hy)
              have h2 := h t List.mem_cons_self
              simp only [List.map_cons, List.sum_cons, List.length_cons]
              omega
          have := this ts hW.out
          omega
        have hlvl : (leavesL (sgl ts cw)).length = ts.length := (sgl_leaves ts cw).length_eq
        have hlvm : ∀ t, t ∈ leavesL (sgl ts cw) → t < most := fun t ht => hT.out t ((sgl_leaves ts cw).mem_iff.1 ht)
        generalize hspp : sgl ts cw = sp at *
        replace hspp := Lib.hid hspp
        replace hlvl := Lib.hid hlvl
        replace hlvm := Lib.hid hlvm
        have oT0 : w.heap.size < T := by
          have := own1.out
          have := own_lt this w.heap.size (by simp [Value.ownBlock])
          omega
        have own2 := Lib.hid (own_only (own_only own1.out ho.out fun _ _ => id) o2 fun k hk e => by
          have e1 : k = T := e
          have e2 : k = w.heap.size := by simp [Value.ownBlock] at hk; exact hk.symm
          omega)
        have oA2 : Hid (Only No w w2) := Lib.hid ((o1.out.trans ho.out).then o2 fun k hk => .inr (by have : k = T := hk; omega))
        have hTlt2 : T < w2.heap.size := Nat.lt_of_lt_of_le hTlt o2.size
        have hown3 := Lib.hid hown2
        have hgl' := Lib.hid hgl
        have hspl' := Lib.hid hspl
        have hrow0 := Lib.hid hrow
        have hsgl : Hid (∀ V, Only (Ge w2.heap.size) w2 V → V.ownsRow w1.heap.size 119 1 (.slice (some ⟨T, 0, none⟩) ts.length cap) ts.length (gC gs0) ∧ RowAt V sp gs0) := Lib.hid fun V oV => ⟨own_only hown2 oV fun k hk e => by
            have e1 : w2.heap.size ≤ k := e
            have := own_lt hown2 k hk
            omega, hrow.only oV (noPile_ge (Nat.le_refl _))⟩
        clear own1 hown2 hrow hgs hperm hsrt hits hkey ho hnp o1 o2 hsr hitq hsp hT hW
        clear hgl hspl
        go_wp2_with fail
        go_loopw [13, 14] (fun v13 v14 wr => ∃ k1 k : Nat, v14 = .int .i64 k1 ∧ Hid (k1 = k + 1) ∧ k + 1 ≤ limit ∧ KI w.heap.size w2 sp k v13 wr) (fun _ v14 _ => limit - (intOf v14).toNat)
        case atStart =>
          refine ⟨1, 0, rfl, Lib.hid rfl, by omega, Lib.hid ⟨gs0, _, cap, by rw [hgl'.out], ?_, ?_, hrow0.out, Only.refl _ _, fun ad e => by cases e; exact oT0⟩⟩
          · rcases hown3.out.2 with ⟨hv, _⟩ | ⟨g', cap', cur', hv, _, _, hcc, _⟩
            · simp at hv
            · injection hv with _ _ hv
              rw [hgl'.out]
              omega
          · have := Rds.of_own hown3.out
            rw [hgl'.out]
            exact this
        case round =>
          clear hown3 hrow0
          obtain ⟨k1, k, rfl, hk1H, hk, hK⟩ := hrel
          obtain ⟨wr0, hwr0⟩ : ∃ x, x = wr := ⟨_, rfl⟩
          rw [← hwr0] at hK ⊢
          clear hwr0
          by_cases hkl : k + 1 < limit
          · have hkl' : (k1 : Int) < limit := by have := hk1H.out; omega
            have hk1b : k1 ≤ 32 := by have := hk1H.out; omega
            obtain ⟨gs, Ar, cr, rfl, hcr, hrd, hrw, hoK, hArB⟩ := hK.out
            have hrl := Lib.hid hrw.len
            have hrlb : gs.length ≤ 2 * ts.length := by
              have := row_len_le sp k
              rw [hrl.out, hspl'.out] at this
              exact this
            have hwb := row_wt (s := sp) (k := k) (by omega) hbig
            have hpl : Hid ((pairs (rowN sp k)).length = gs.length / 2) := Lib.hid (by rw [(pairs_le _).2.2, hrl.out])
            have hpg := Lib.hid (pairs_get (rowN sp k))
            have hrn : Hid (rowN sp (k + 1) = mrg sp (pairs (rowN sp k))) := Lib.hid rfl
            generalize rowN sp k = rw0 at *
            replace hrd := Lib.hid hrd
            replace hrw := Lib.hid hrw
            replace hoK := Lib.hid hoK
            clear hK
            go_wp2_with fail
            go_loopw [15, 16, 17] (fun v15 v16 v17 wr => ∃ i m : Nat, v17 = .int .i64 i ∧ Hid (i = 2 * m) ∧ m ≤ gs.length / 2 ∧ LI wr0 sp (pairs rw0) T ts.length m v15 v16 wr) (fun _ _ v17 _ => gs.length - (intOf v17).toNat)
            case atStart =>
              refine ⟨0, 0, rfl, Lib.hid rfl, by omega, Lib.hid ⟨[], 0, _, cap, World.ownsRow_nil _ _ _ _, .nil, by omega, by simp [mgTo], rfl, fun _ => ⟨rfl, ?_⟩, Only.refl _ _⟩⟩
              rcases (hsgl.out wr0 hoK.out).1.2 with ⟨hv, _⟩ | ⟨g', cap', cur', hv, _, _, hcc, _⟩
              · simp at hv
              · injection hv with _ _ hv
                omega
            case round =>
              obtain ⟨i, m, rfl, himH, hm, hL⟩ := hrel
              have him := himH.out
              obtain ⟨wp, hwp⟩ : ∃ x, x = wr := ⟨_, rfl⟩
              rw [← hwp] at hL ⊢
              clear hwp
              obtain ⟨i1, hi1⟩ : ∃ i1, i1 = i + 1 := ⟨_, rfl⟩
              have e2 : IntKind.i64.wrap ((i : Int) + 1) = (i1 : Int) := by rw [IntWalk.i64_in _ (by omega)]; omega
              by_cases hml : m < gs.length / 2
              · have hml' : (i1 : Int) < gs.length := by omega
                have hml2 : (i : Int) < gs.length := by omega
                obtain ⟨gO, j, As, cs, hownO, hrO, hj, hjr, rfl, hAs, hoL⟩ := hL.out
                have hrdV := hrd.out.only hoL fun h0 ad e hk => by
                  obtain ⟨ad', e', hb', _⟩ := hrd.out.2 h0
                  rw [e] at e'
                  cases e'
                  have : wr0.heap.size ≤ ad.block := hk
                  omega
                obtain ⟨ad, rfl, hab, hcc⟩ := hrdV.2 (by omega)
                have hc0 := hcc i _ (gC_get (show i < gs.length by omega))
                have hc1 := hcc i1 _ (gC_get (show i1 < gs.length by omega))
                have hrwV := hrw.out.only hoL (noPile_ge (Nat.le_refl _))
                have hlr0 : i < rw0.length := by have := hrl.out; omega
                have hlr1 : i1 < rw0.length := by have := hrl.out; omega
                have hp0 := hrwV.get i hlr0 (by omega)
                have hp1 := hrwV.get i1 hlr1 (by omega)
                have hw0 := wt_le (List.getElem_mem hlr0)
                have hw1 := wt_le (List.getElem_mem hlr1)
                have hbm : Hid ((pairs rw0)[m]'(by rw [hpl.out]; exact hml) = .two rw0[i] rw0[i1]) := Lib.hid (by
                  have := hpg.out m (by omega)
                  rw [← him, ← hi1, List.getElem?_eq_getElem (by rw [hpl.out]; exact hml), List.getElem?_eq_getElem hlr0, List.getElem?_eq_getElem hlr1] at this
                  simpa using this)
                have hmgs := Lib.hid (mgTo_succ (s := sp) (bs := pairs rw0) (m := m) (by rw [hpl.out]; exact hml))
                rw [hbm.out] at hmgs
                obtain ⟨x0, y0, z0, hb0⟩ := hp0.head
                obtain ⟨x1, y1, z1, hb1⟩ := hp1.head
                have hd0 := hb0.cell 0
                have hd1 := hb1.cell 0
                simp only [List.getElem?_toArray, List.getElem?_cons_zero] at hd0 hd1
                generalize gs[i] = ga at *
                generalize gs[i1] = gb' at *
                generalize rw0[i] = pa at *
                generalize rw0[i1] = pb at *
                clear him
                replace hi1 := Lib.hid hi1
                have e1 : IntKind.i64.wrap ((wt pa : Int) + (wt pb : Int)) = ((wt pa + wt pb : Nat) : Int) := by rw [IntWalk.i64_in _ (by omega)]; push_cast; rfl
                have hSS : Hid (∀ w', Only No wp w' → w'.cell? (ad.add i) = some (P ga) ∧ w'.cell? (ad.add i1) = some (P gb') ∧ w'.cell? ⟨ga, 0, none⟩ = some (.int .i64 (wt pa : Nat)) ∧ w'.cell? ⟨gb', 0, none⟩ = some (.int .i64 (wt pb : Nat))) := Lib.hid fun w' o => by
                  refine ⟨(o.cell (by rw [block_add]; exact hab) id).trans hc0, (o.cell (by rw [block_add]; exact hab) id).trans hc1, ?_, ?_⟩
                  · have := (hb0.only o id).cell 0; simpa using this
                  · have := (hb1.only o id).cell 0; simpa using this
                have q0 : Only No wp wp := Only.refl No wp
                replace hp0 := Lib.hid hp0
                replace hp1 := Lib.hid hp1
                replace hrO := Lib.hid hrO
                replace hownO := Lib.hid hownO
                replace hoL := Lib.hid hoL
                replace hjr := Lib.hid hjr
                replace hAs := Lib.hid hAs
                clear hb0 hb1 hL hrdV hrwV hcc
                go_wp2_with fail
                go_region_held3 (fun w' => Only No wp w' ∧ w'.cell? (ad.add i) = some (P ga) ∧ w'.cell? (ad.add i1) = some (P gb') ∧ w'.cell? ⟨ga, 0, none⟩ = some (.int .i64 (wt pa : Nat)) ∧ w'.cell? ⟨gb', 0, none⟩ = some (.int .i64 (wt pb : Nat)))
                  (first
                    | (with_reducible refine ⟨?_, hSS.out _ ?_⟩ <;> (repeat (first | exact q0 | refine Only.drew ?_ | refine Only.alloc ?_ _))))
                  (fail)
                go_wp2_with fail
                obtain ⟨wq, hwq⟩ : ∃ x, x = (wp.alloc (Obj.cells #[.int .i64 ((wt pa : Int) + (wt pb : Int)), .int .i64 0, P ga, P gb'] 121)).drew := ⟨_, rfl⟩
                have oq : Only No wp wq := by rw [hwq]; exact ((Only.refl No wp).alloc _).drew
                have hbq : PAt wq (.two pa pb) wp.heap.size := by
                  refine ⟨ga, gb', ?_, hp0.out.no oq, hp1.out.no oq⟩
                  rw [hwq, Int.natCast_add]
                  exact (Blk.new wp 121 _ : Blk (wp.alloc _) _ _ _)
                rw [← hwq]
                have hTI0 : TI wr0 sp (mgTo sp (pairs rw0) m).1 (.two pa pb) wp.heap.size T ts.length j 0 u15 (.slice As (ts.length - j) cs) wq := Lib.hid ⟨gO, As, cs, own_only hownO.out oq fun _ _ => id, by
                  rw [List.take_zero, List.append_nil]
                  exact hrO.out.only oq fun _ h => h.elim, rfl, fun h => hAs.out h, hbq, hoL.out.then oq fun _ h => h.elim⟩
                have hwpb : wr0.heap.size ≤ wp.heap.size := hoL.out.size
                have hol : Hid ((mgTo sp (pairs rw0) m).1.length = j + m) := Lib.hid (by
                  have h1 := mgTo_len sp (pairs rw0) m (by rw [hpl.out]; omega)
                  rw [hjr.out, List.length_drop, hspl'.out] at h1
                  omega)
                clear hwq hp0 hp1 hrO hownO hoL hAs hSS hc0 hc1 hd0 hd1 hbq oq q0 e1
                have hwtb : Hid (wt (.two pa pb) ≤ 72128000000000000) := Lib.hid (by show wt pa + wt pb ≤ _; omega)
                generalize hbb : Pile.two pa pb = b at *
                replace hbb := Lib.hid hbb
                go_loopw [15, 16] (fun v15 v16 V => ∃ q : Nat, q ≤ (pre (sp.drop j) b).length ∧ TI wr0 sp (mgTo sp (pairs rw0) m).1 b wp.heap.size T ts.length j q v15 v16 V) (fun _ v16 _ => sLen v16)
                case atStart => exact ⟨0, Nat.zero_le _, hTI0⟩
                case round =>
                  obtain ⟨q, hq, hTI⟩ := hrel
                  clear hTI0
                  obtain ⟨gO, As', cs', hownT, hrT, rfl, hAsT, hbT, hoT⟩ := hTI.out
                  have hoW : Only (Ge w2.heap.size) w2 wr := hoK.out.then hoT fun i hi => .inl (Nat.le_trans hoK.out.size hi)
                  obtain ⟨sg1, sg2⟩ := hsgl.out wr hoW
                  obtain ⟨xb, yb, zb, hbb0⟩ := hbT.head
                  have hdb := hbb0.cell 0
                  simp only [List.getElem?_toArray, List.getElem?_cons_zero] at hdb
                  have hsl : (sp.drop j).length = ts.length - j := by rw [List.length_drop, hspl'.out]
                  have hpl2 := pre_le (sp.drop j) b
                  replace hownT := Lib.hid hownT
                  replace hrT := Lib.hid hrT
                  replace hbT := Lib.hid hbT
                  replace hoT := Lib.hid hoT
                  clear hTI hbb0
                  obtain ⟨ln, hln⟩ : ∃ ln, ln = ts.length - (j + q) := ⟨_, rfl⟩
                  rw [← hln]
                  go_wp2_with fail
                  go_cut [106] from 91 to 105 (fun s106 wx => s106 = .bool (decide (q + 1 ≤ (pre (sp.drop j) b).length)) ∧ Hid (Only No wr wx))
                  case first =>
                    by_cases hjq : j + q < ts.length
                    · obtain ⟨rfl, hcs⟩ := hAsT hjq
                      have hcT := sg1.cellAt (j + q) (by omega)
                      rw [gC_get (by rw [hgl'.out]; exact hjq)] at hcT
                      have hpj := sg2.get (j + q) (by rw [hspl'.out]; exact hjq) (by rw [hgl'.out]; exact hjq)
                      have hst := pre_step (b := b) hq (by omega)
                      rw [List.getElem_drop] at hst
                      have hjw := wt_le (List.getElem_mem (l := sp) (n := j + q) (by rw [hspl'.out]; exact hjq))
                      obtain ⟨xj, yj, zj, hbj⟩ := hpj.head
                      have hdj := hbj.cell 0
                      simp only [List.getElem?_toArray, List.getElem?_cons_zero] at hdj
                      generalize gs0[j + q]'(by rw [hgl'.out]; exact hjq) = gj at *
                      generalize sp[j + q]'(by rw [hspl'.out]; exact hjq) = pj at *
                      replace hst := Lib.hid hst
                      have hlnp : 0 < ln := by omega
                      have hlnp' : (0 : Int) < ln := by omega
                      clear hln sg1 sg2 hpj hbj hAsT
                      by_cases hle : wt pj ≤ wt b
                      · have hle' : (wt pj : Int) ≤ (wt b : Int) := by omega
                        go_wp2_with fail
                        go_quiet (fail)
                        go_wp2_with fail
                        go_meet
                        exact ⟨by rw [decide_eq_true (hst.out.1 hle)], Lib.hid ((Only.refl No wr).drewN _)⟩
                      · have hle' : ¬ (wt pj : Int) ≤ (wt b : Int) := by omega
                        go_wp2_with fail
                        go_quiet (fail)
                        go_wp2_with fail
                        go_meet
                        exact ⟨by rw [decide_eq_false (by have := hst.out.2 hle; omega)], Lib.hid ((Only.refl No wr).drewN _)⟩
                    · obtain rfl : ln = 0 := by omega
                      clear sg1 sg2 hAsT
                      go_wp2_with fail
                      go_quiet (fail)
                      go_wp2_with fail
                      go_meet
                      exact ⟨by rw [decide_eq_false (by omega)], Lib.hid ((Only.refl No wr).drewN _)⟩
                  case rest =>
                    obtain ⟨rfl, hoc⟩ := hcut
                    have hgOl := hownT.out.1
                    rw [gC_len, Nat.mul_one] at hgOl
                    have hgOb : gO.length ≤ 4000 := by
                      have h1 := hrT.out.len
                      rw [List.length_append, hol.out, List.length_take] at h1
                      omega
                    by_cases hgq : q + 1 ≤ (pre (sp.drop j) b).length
                    · rw [decide_eq_true hgq]
                      have hjq : j + q < ts.length := by omega
                      obtain ⟨rfl, hcs⟩ := hAsT hjq
                      have hcT := (own_only sg1 hoc.out fun _ _ => id).cellAt (j + q) (by omega)
                      rw [gC_get (by rw [hgl'.out]; exact hjq)] at hcT
                      have hpj := (sg2.get (j + q) (by rw [hspl'.out]; exact hjq) (by rw [hgl'.out]; exact hjq)).no hoc.out
                      have htq : (sp.drop j).take (q + 1) = (sp.drop j).take q ++ [sp[j + q]'(by rw [hspl'.out]; exact hjq)] := by
                        rw [List.take_succ_eq_append_getElem (by omega), List.getElem_drop]
                      generalize gs0[j + q]'(by rw [hgl'.out]; exact hjq) = gj at *
                      generalize sp[j + q]'(by rw [hspl'.out]; exact hjq) = pj at *
                      have hownc := Lib.hid (own_only hownT.out hoc.out fun _ _ => id)
                      have hnpc := Lib.hid (noPile_own hownc.out (by decide))
                      have hlnp : 0 < ln := by omega
                      have hlnp' : (0 : Int) < ln := by omega
                      have hlnp2 : (1 : Int) ≤ ln := by omega
                      have hlnc : ln ≤ cs' := by omega
                      replace hln := Lib.hid hln
                      replace htq := Lib.hid htq
                      replace hpj := Lib.hid hpj
                      have hszc := hoc.out.size
                      have hszT := hoT.out.size
                      clear sg1 sg2 hAsT
                      go_wp2_with fail
                      go_region_law (go_loud (refine step_append_any rfl (.tmp 107) (.tmp 111) _ rfl wr0.heap.size 119 j0 (.pointer none) 1 8 Try.underlying118 hj0 jz0 jz1 jz2 rfl (by decide) _ gO.length (gC gO) rfl (by first | exact own_only hownc.out ((Only.refl No _).alloc _).drew (fun _ _ => id) | exact own_only hownc.out ((Only.refl No _).drew.alloc _) (fun _ _ => id)) (some ⟨wc.heap.size, 0, none⟩) 1 1 [P gj] rfl (Rds.fresh (n := 1) (size := 1) (by first | exact blk_n1 _ _ #[P gj] | exact blk_n2 _ _ #[P gj]) rfl) (by intro u hu; simp at hu; subst hu; rfl) (by unfold maxLen; omega) (by omega) (by simp; omega) ?_; intro v' w' own' o' _; have hown' := Lib.hid own'; have ho' := Lib.hid o'; clear own' o'))
                      have hnew : TI wr0 sp (mgTo sp (pairs rw0) m).1 b wp.heap.size T ts.length j (q + 1) v' (.slice (if cs' = 1 then some ⟨T, j + q, none⟩ else some ⟨T, j + q + 1, none⟩) (ln - 1) (cs' - 1)) w' := by
                        have o1 : Only No wr ((wc.alloc (Obj.cells #[P gj] 119)).drew) := (hoc.out.alloc _).drew
                        have hnp2 := noPile_own (own_only hownc.out (((Only.refl No wc).alloc (Obj.cells #[P gj] 119)).drew) fun _ _ => id) (by decide)
                        refine Lib.hid ⟨gO ++ [gj], if cs' = 1 then some ⟨T, j + q, none⟩ else some ⟨T, j + q + 1, none⟩, cs' - 1, ?_, ?_, ?_, fun h => ⟨?_, by have := hln.out; omega⟩, ?_, ?_⟩
                        · have := hown'.out
                          rw [show gC gO ++ [P gj] = gC (gO ++ [gj]) by simp [gC]] at this
                          rw [List.length_append]
                          exact this
                        · rw [htq.out, ← List.append_assoc]
                          refine (((hrT.out.only o1 fun _ h => h.elim).app (.cons (hpj.out.no ((Only.refl No wc).alloc _).drew) .nil)).only ho'.out hnp2)
                        · rw [hln.out, Nat.sub_sub, Nat.add_assoc]
                        · rw [if_neg (by have := hln.out; omega)]
                          rfl
                        · exact (hbT.out.no o1).only ho'.out hnp2
                        · exact ((hoT.out.then o1 fun _ h => h.elim)).trans (ho'.out.mono fun k hk => own_ge hownc.out k hk)
                      clear hown' ho' hownc hnpc htq hpj
                      generalize (if cs' = 1 then some (⟨T, j + q, none⟩ : Addr) else some ⟨T, j + q + 1, none⟩) = AX at *
                      go_simp
                      go_wp2_with fail
                      go_roundw
                      case rel => exact ⟨q + 1, hgq, hnew⟩
                      case measure => show ln - 1 < ln; omega
                    · rw [decide_eq_false hgq]
                      have hqe : q = (pre (sp.drop j) b).length := by omega
                      have hownc := Lib.hid (own_only hownT.out hoc.out fun _ _ => id)
                      have hbc := Lib.hid (hbT.out.no hoc.out)
                      have hszc := hoc.out.size
                      have hszT := hoT.out.size
                      have hlnT := Lib.hid hln
                      clear hln sg1 sg2
                      go_wp2_with (at_builtin; refine wpList_append_any _ rfl (.tmp 115) (.tmp 117) 118 rfl wr0.heap.size 119 j0 (.pointer none) 1 8 Try.underlying118 hj0 jz0 jz1 jz2 rfl (by decide) _ gO.length (gC gO) rfl (own_only hownc.out ((Only.refl No _).alloc _) fun _ _ => id) _ 1 1 [P _] rfl (Rds.fresh (n := 1) (size := 1) (Blk.new' 119 #[P _] (by simp)) rfl) ?c1 ?c2 ?c3 ?c4 ?_)
                      case c1 => first | rfl | (intro u hu; simp at hu; subst hu; rfl)
                      case c2 => unfold maxLen; omega
                      case c3 => omega
                      case c4 => first | omega | (simp; omega)
                      intro v' w' own' o' _
                      have hnew : LI wr0 sp (pairs rw0) T ts.length (m + 1) v' (.slice As' ln cs') w' := by
                        have o1 : Only No wr (wc.alloc (Obj.cells #[P wp.heap.size] 119)) := hoc.out.alloc _
                        have hnp2 := noPile_own (own_only hownc.out ((Only.refl No wc).alloc (Obj.cells #[P wp.heap.size] 119)) fun _ _ => id) (by decide)
                        refine Lib.hid ⟨gO ++ [wp.heap.size], j + q, As', cs', ?_, ?_, ?_, ?_, by rw [hlnT.out], fun h => ?_, ?_⟩
                        · have := own'
                          rw [show gC gO ++ [P wp.heap.size] = gC (gO ++ [wp.heap.size]) by simp [gC]] at this
                          rw [List.length_append]
                          exact this
                        · rw [hmgs.out]
                          show RowAt w' ((mgTo sp (pairs rw0) m).1 ++ pre (mgTo sp (pairs rw0) m).2 b ++ [b]) _
                          rw [hjr.out, ← pre_take, ← hqe]
                          exact ((hrT.out.only o1 fun _ h => h.elim).app (.cons (hbc.out.no ((Only.refl No wc).alloc _)) .nil)).only o' hnp2
                        · have := pre_le (sp.drop j) b
                          omega
                        · rw [hmgs.out]
                          show post (mgTo sp (pairs rw0) m).2 b = _
                          rw [hjr.out, post_drop, ← hqe, List.drop_drop]
                        · have := hAsT h
                          rw [← hlnT.out] at this
                          rw [← hlnT.out]
                          exact this
                        · exact (hoT.out.then o1 fun _ h => h.elim).trans (o'.mono fun k hk => own_ge hownc.out k hk)
                      clear own' o' hownc hbc hlnT hAsT
                      go_wp2_with fail
                      refine ⟨?ex3, ?measure3⟩
                      case measure3 => simp [intOf]; omega
                      case ex3 =>
                        exact ⟨i + 2, m + 1, by go_num, Lib.hid (by have := himH.out; omega), by omega, hnew⟩
              · have hml' : ¬ (i1 : Int) < gs.length := by omega
                obtain ⟨gO, j, As, cs, hownO, hrO, hj, hjr, rfl, hAs, hoL⟩ := hL.out
                have hmL : m = (pairs rw0).length := by rw [hpl.out]; omega
                have hoW : Only (Ge w2.heap.size) w2 wp := hoK.out.then hoL fun i hi => .inl (Nat.le_trans hoK.out.size hi)
                obtain ⟨sg1, sg2⟩ := hsgl.out wp hoW
                have hRs : Rds wp 1 As (ts.length - j) (gC (gs0.drop j)) := by
                  refine ⟨by rw [gC_len, List.length_drop, hgl'.out, Nat.mul_one], fun h0 => ?_⟩
                  obtain ⟨rfl, _⟩ := hAs (by omega)
                  refine ⟨_, rfl, own_lt sg1 T (by simp [Value.ownBlock]), fun x u hu => ?_⟩
                  have := sg1.cellAt (j + x) (by
                    have := (List.getElem?_eq_some_iff.1 hu).1
                    rw [gC_len, List.length_drop, hgl'.out] at this
                    omega)
                  unfold gC at hu this
                  rw [List.getElem?_map, List.getElem?_drop] at hu
                  rw [List.getElem?_map] at this
                  unfold Addr.add
                  split
                  · rename_i hx0
                    subst hx0
                    rw [← hu]
                    exact this
                  · rw [← hu]
                    exact this
                have hgOb : gO.length ≤ 4000 := by
                  have h1 := hrO.len
                  have h2 := mgTo_len sp (pairs rw0) m (by omega)
                  rw [hjr, List.length_drop, hspl'.out] at h2
                  omega
                have hszL := hoL.size
                have hrow2 := hrO.app (sg2.drop j)
                rw [← hjr, hmL, ← mgTo_all, ← hrn.out] at hrow2
                replace hrow2 := Lib.hid hrow2
                replace hownO := Lib.hid hownO
                replace hRs := Lib.hid hRs
                replace hoW := Lib.hid hoW
                clear sg1 sg2 hL hAs hjr hrO
                go_wp2_with (at_builtin; refine wpList_append_any _ rfl (.tmp 119) (.tmp 120) 118 rfl wr0.heap.size 119 j0 (.pointer none) 1 8 Try.underlying118 hj0 jz0 jz1 jz2 rfl (by decide) _ gO.length (gC gO) rfl hownO.out As (ts.length - j) cs (gC (gs0.drop j)) rfl hRs.out (gC_one _) ?c2 ?c3 ?c4 ?_)
                case c2 => unfold maxLen; omega
                case c3 => omega
                intro v' w' own' o' _
                have hnew : KI w.heap.size w2 sp (k + 1) v' w' := by
                  obtain ⟨A9, c9, rfl⟩ := own_slice own'
                  have hnp2 := noPile_own hownO.out (by decide)
                  have hl9 : (gO ++ gs0.drop j).length = gO.length + (ts.length - j) := by rw [List.length_append, List.length_drop, hgl'.out]
                  rw [← gC_app, ← hl9] at own'
                  refine Lib.hid ⟨gO ++ gs0.drop j, A9, c9, by rw [hl9], ?_, Rds.of_own own', hrow2.out.only o' hnp2, hoW.out.then o' fun k hk => .inl (Nat.le_trans hoK.out.size (own_ge hownO.out k hk)), fun ad e => ?_⟩
                  rotate_left
                  · subst e
                    rcases own'.2 with ⟨hv, _⟩ | ⟨g', cap', cur', hv, hb9, _⟩
                    · simp at hv
                    · injection hv with hv
                      injection hv with hv
                      subst hv
                      have := hoK.out.size
                      show w.heap.size < g'
                      omega
                  rcases own'.2 with ⟨hv, h0⟩ | ⟨g', cap', cur', hv, _, _, hcc, _⟩
                  · rw [h0]; exact Nat.zero_le _
                  · injection hv with _ _ hv
                    rw [hv]
                    exact hcc
                clear own' o' hownO hRs hrow2
                go_wp2_with fail
                refine ⟨?ex2, ?measure2⟩
                case measure2 => simp [intOf]; have := hk1H.out; omega
                case ex2 =>
                  exact ⟨k1 + 1, k + 1, by go_num, Lib.hid (by have := hk1H.out; omega), by omega, hnew⟩
          · have hkl' : ¬ (k1 : Int) < limit := by have := hk1H.out; omega
            obtain ⟨gs, Ar, cr, rfl, hcr, hrd, hrw, hoK, hArB⟩ := hK.out
            have hkl2 : k = limit - 1 := by omega
            have hrl := hrw.len
            have hen := row_enough sp k 0 (by rw [hspl'.out, hkl2, show 0 + 1 + (limit - 1) = limit by omega]; exact hfit)
            rw [hrl, hspl'.out] at hen
            have hL2 : 2 * ts.length - 2 ≤ gs.length := by omega
            have ownF := Lib.hid (own_only own2.out hoK fun i hi e => by
              have e1 : i = w.heap.size := by simp [Value.ownBlock] at hi; exact hi.symm
              have e2 : w2.heap.size ≤ i := e
              have := own_lt own2.out w.heap.size (by simp [Value.ownBlock])
              omega)
            have oAF : Hid (Only No w wr0) := Lib.hid (oA2.out.then hoK fun i hi => .inr (Nat.le_trans oA2.out.size hi))
            have hlv : (leavesL (rowN sp k)).length ≤ 33000 := by
              have h1 := (row_bounds sp k).2
              rw [hlvl.out] at h1
              have h2 : (k + 1) * ts.length ≤ 32 * 1025 := Nat.mul_le_mul (by omega) hn2
              omega
            have hlm := Lib.hid (fun t ht => hlvm.out t (leaves_mem_row sp k t ht))
            have hans : Hid (rowsP ts cw most limit = addAll (List.replicate most 0) ((rowN sp k).take (2 * ts.length - 2))) := Lib.hid (by
              unfold rowsP
              rw [if_neg h1, hspp.out, hkl2])
            generalize rowN sp k = rw0 at *
            obtain ⟨N2, hN2⟩ : ∃ N2, N2 = 2 * ts.length - 2 := ⟨_, rfl⟩
            have e1 : IntKind.i64.wrap (2 * (ts.length : Int)) = ((N2 + 2 : Nat) : Int) := by rw [IntWalk.i64_in _ (by omega)]; omega
            have e2 : IntKind.i64.wrap (((N2 + 2 : Nat) : Int) - 2) = (N2 : Int) := by rw [IntWalk.i64_in _ (by omega)]; omega
            rw [← hN2] at hans
            generalize hN3 : N2 + 2 = N3 at *
            have hNc : N2 ≤ cr := by omega
            have hNg : N2 ≤ gs.length := by omega
            replace hrd := Lib.hid hrd
            replace hrw := Lib.hid hrw
            replace hrl := Lib.hid hrl
            clear hK hoK
            go_wp2_with fail
            go_loopw [129] (fun v129 wr => ∃ i : Nat, v129 = .int .i64 i ∧ i ≤ N2 ∧ Hid (wr.ownsRow w.heap.size 3 1 (.slice (some ⟨w.heap.size, 0, none⟩) most most) most (nC (addAll (List.replicate most 0) (rw0.take i))) ∧ Only (One w.heap.size) wr0 wr)) (fun v129 _ => N2 - (intOf v129).toNat)
            case atStart => exact ⟨0, rfl, by omega, Lib.hid ⟨ownF.out, Only.refl _ _⟩⟩
            case round =>
              obtain ⟨i, rfl, hi, hO⟩ := hrel
              by_cases hlt : i < N2
              · have hlt' : (i : Int) < N2 := by omega
                have hnp := noPile_one ownF.out (by decide)
                have hrV := hrw.out.only hO.out.2 hnp
                have hrdV := hrd.out.only hO.out.2 fun _ ad e hk => by
                  have h8 := hArB ad e
                  have h9 : ad.block = w.heap.size := hk
                  omega
                obtain ⟨ad, rfl, hci⟩ := hrdV.at_ (i := i) (by omega) (gC_get (show i < gs.length by omega))
                have hlr : i < rw0.length := by have := hrl.out; omega
                have hpi := hrV.get i hlr (by omega)
                have htk : rw0.take (i + 1) = rw0.take i ++ [rw0[i]] := List.take_succ_eq_append_getElem hlr
                have hlm1 : ∀ t ∈ leaves rw0[i], t < most := fun t ht => hlm.out t (List.mem_flatMap.2 ⟨_, List.getElem_mem hlr, ht⟩)
                have hbd : ∀ t, (addAll (List.replicate most 0) (rw0.take i)).getD t 0 + (leaves rw0[i]).length ≤ 1152921504606846976 := fun t => by
                  rw [addAll_eq, foldl_bump_get _ _ _ (fun x hx => by
                    rw [List.length_replicate]
                    obtain ⟨p, hp, hx⟩ := List.mem_flatMap.1 hx
                    exact hlm.out x (List.mem_flatMap.2 ⟨p, List.mem_of_mem_take hp, hx⟩))]
                  have h1 := List.count_le_length (a := t) (l := leavesL (rw0.take i))
                  have h2 : (leavesL (rw0.take (i + 1))).length ≤ (leavesL rw0).length := by
                    conv => rhs; rw [← List.take_append_drop (i + 1) rw0, leavesL_app, List.length_append]
                    omega
                  rw [htk, leavesL_app, List.length_append] at h2
                  have h3 : (leavesL [rw0[i]]).length = (leaves rw0[i]).length := by simp [leavesL]
                  have h4 : (List.replicate most 0).getD t 0 = 0 := by
                    rw [List.getD_eq_getElem?_getD, List.getElem?_replicate]
                    split <;> rfl
                  omega
                have hadd := Lib.hid (add63 w.heap.size most most w.heap.size rw0[i] wr gs[i] _ hO.out.1 hpi hlm1 hbd)
                have htk2 : Hid (addAll (List.replicate most 0) (rw0.take (i + 1)) = addP (addAll (List.replicate most 0) (rw0.take i)) rw0[i]) := Lib.hid (by rw [htk]; unfold addAll; rw [List.foldl_append]; rfl)
                generalize gs[i] = gi at *
                clear hpi hlm1 hbd hrV hrdV htk
                go_wp2_with (go_at_call 63; refine hadd.out.mono ?_; rintro e w9 ⟨rfl, own9, o9⟩; have h9 := Lib.hid own9; have ho9 := Lib.hid o9; clear own9 o9)
                go_roundw
                case rel => exact ⟨i + 1, by go_num, by omega, Lib.hid ⟨by rw [htk2.out]; exact h9.out, hO.out.2.trans ho9.out⟩⟩
                case measure => simp [intOf]; omega
              · obtain rfl : i = N2 := by omega
                go_wp2_with fail
                go_ret
                refine ⟨w.heap.size, rfl, by rw [hans.out]; exact hO.out.1, oAF.out.then hO.out.2 fun i hi => .inr (by have : i = w.heap.size := hi; omega)⟩
end Go.Proofs.Ytjkeampckinniaa.Ct
