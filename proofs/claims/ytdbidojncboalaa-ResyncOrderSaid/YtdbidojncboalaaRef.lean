/- Contracts of the reference's tracker. -/
import Derived.Test.YtdbidojncboalaaSpoil
import Derived.Deep.RegionLawGrows
namespace Go.Proofs.Ytdbidojncboalaa.Ct
open Go.ChangeShapes Go.WideShapes Go.RowKit Mm Rs
attribute [local go_sem] Sc.land_ret Sc.land_normal Sc.land_exit Sc.land_panic


theorem step_append_any {P : Program} {ops : Array Oper} {o : Oper} {a : Act} {w : World} {K : Act → World → Prop} {Q : Exit → Act → World → Prop} {E : Prop} (hgd : o.guard = none) (s x : Operand) (t : TypeId)
    (ho : o.op = .call { callee := .builtin .append, args := #[s, x], argTypes := #[t, t] })
    (base : Nat) (e : TypeId) (i : TypeInfo) (z : Value) (size bytes : Nat) (ht : P.underlying t = some (.slice e)) (hi : P.info? e = some i) (hz : i.zero = some z)
    (hsize : i.size = size) (hby : i.bytes = bytes) (hzs : z.cells.size = size) (hsz : 0 < size)
    (v : Value) (n : Nat) (xs : List Value) (hs : a.eval s = v) (hown : w.ownsRow base e size v n xs)
    (A : Option Addr) (m c : Nat) (news : List Value) (hx : a.eval x = .slice A m c) (hr : Rds w size A m news) (h1 : ∀ u ∈ news, u.oneCell' = true)
    (h63 : n + m ≤ maxLen) (hbytes : (n + m) * bytes ≤ 140737488355328) (hbase : base ≤ w.heap.size)
    (hK : ∀ v' w', w'.ownsRow base e size v' (n + m) (xs ++ news) → Only (fun k => v.ownBlock = some k) w w' → (v'.ownBlock = v.ownBlock ∨ v'.ownBlock = some w.heap.size) → K (a.put o.dst v') w') :
    if Region.wanted o (yielded ops a.tmps) = true then Oper.wp P o a w K Q else E := by
  have hw : Region.wanted o (yielded ops a.tmps) = true := by simp [Region.wanted, hgd]
  rw [if_pos hw]
  obtain ⟨v', w', hrun, h2, h3, h4⟩ := run_append_any (P := P) w base t o.type e i z size bytes ht hi hz hsize hby hzs hsz v n xs hown A m c news hr h1 h63 hbytes hbase
  unfold Oper.wp
  simp [execOp, ho, resolve, invoke, builtin, hs, hx, hrun, Result.andThen]
  exact hK _ _ h2 h3 h4

/-- a tracker of the reference's: its cells and rows, all of them in F -/
def RT (w : World) (F : Nat → Prop) (g : Nat) (t : Tr) (l : List Slot) (s : List Int) : Prop :=
  ∃ vS vR, Blk w g 54 #[.int .i64 t.N, vS, .int .i64 t.taken, vR, .bool t.done, .bool t.stray] ∧ w.ownsRow 0 48 2 vS l.length (slC l) ∧ w.ownsRow 0 3 1 vR s.length (inC s) ∧ F g ∧ (∀ k, vS.ownBlock = some k → F k) ∧ (∀ k, vR.ownBlock = some k → F k)
/-- F and what is new -/
def Fw (F : Nat → Prop) (w w' : World) : Nat → Prop := fun k => F k ∨ (w.heap.size ≤ k ∧ k < w'.heap.size)

theorem RT.only {w w' : World} {F S : Nat → Prop} {g : Nat} {t : Tr} {l : List Slot} {s : List Int} (h : RT w F g t l s) (k : Only S w w') (hd : ∀ i, F i → ¬ S i) : RT w' F g t l s := by
  obtain ⟨vS, vR, hb, h1, h2, f0, f1, f2⟩ := h
  exact ⟨vS, vR, hb.only k (hd _ f0), own_only h1 k (fun i hi => hd i (f1 i hi)), own_only h2 k (fun i hi => hd i (f2 i hi)), f0, f1, f2⟩
theorem RT.mono {w : World} {F F' : Nat → Prop} {g : Nat} {t : Tr} {l : List Slot} {s : List Int} (h : RT w F g t l s) (hd : ∀ i, F i → F' i) : RT w F' g t l s := by
  obtain ⟨vS, vR, hb, h1, h2, f0, f1, f2⟩ := h
  exact ⟨vS, vR, hb, h1, h2, hd _ f0, fun i hi => hd i (f1 i hi), fun i hi => hd i (f2 i hi)⟩
theorem RT.drewN {w : World} {F : Nat → Prop} {g : Nat} {t : Tr} {l : List Slot} {s : List Int} (h : RT w F g t l s) (n : Nat) : RT (w.drewN n) F g t l s := h
theorem RT.lt {w : World} {F : Nat → Prop} {g : Nat} {t : Tr} {l : List Slot} {s : List Int} (h : RT w F g t l s) : g < w.heap.size := by
  obtain ⟨vS, vR, hb, _⟩ := h
  exact hb.lt

set_option maxHeartbeats 400000 in
theorem rnew_no (n : Int) (w : World) (h : n < 0 ∨ 1048576 < n) : Calls Try.prog 12 #[.int .i64 n] w fun e w' => e = .returned (.pointer none) ∧ w = w' := by
  rcases h with h | h
  · go_enter Try.func12, Try.ntmps12
    go_wp2
    go_ret
    exact ⟨rfl, rfl⟩
  · have h' : ¬ n < 0 := by omega
    go_enter Try.func12, Try.ntmps12
    go_wp2
    go_ret
    exact ⟨rfl, rfl⟩
set_option maxHeartbeats 400000 in
theorem rnew_yes (n : Int) (w : World) (h0 : 0 ≤ n) (h1 : n ≤ 1048576) : Calls Try.prog 12 #[.int .i64 n] w fun e w' => e = .returned (P w.heap.size) ∧ RT w' (fun k => k = w.heap.size) w.heap.size (new n) [] [] ∧ Only No w w' ∧ w'.heap.size = w.heap.size + 1 := by
  go_enter Try.func12, Try.ntmps12
  go_wp2
  go_ret
  refine ⟨rfl, ⟨.slice none 0 0, .slice none 0 0, Blk.new _ _ _, World.ownsRow_nil _ _ _ _, World.ownsRow_nil _ _ _ _, rfl, by simp [Value.ownBlock], by simp [Value.ownBlock]⟩, (Only.refl _ _).alloc _, by simp⟩
set_option maxHeartbeats 400000 in
theorem rnext_any (F : Nat → Prop) (t : Tr) (l : List Slot) (s : List Int) (g : Nat) (w : World) (h : RT w F g t l s) : Calls Try.prog 19 #[P g] w fun e w' => e = .returned (.int .i64 l.length) ∧ w = w' := by
  obtain ⟨vS, vR, hb, h1, h2, f0, f1, f2⟩ := h
  obtain ⟨A, c, rfl⟩ := own_slice h1
  have c1 : w.cell? ⟨g, 1, none⟩ = some (.slice A l.length c) := hb.cell 1
  clear hb h1 h2
  go_enter Try.func19, Try.ntmps19
  go_wp2
  go_ret
  exact ⟨rfl, rfl⟩
set_option maxHeartbeats 400000 in
theorem rdone_any (F : Nat → Prop) (t : Tr) (l : List Slot) (s : List Int) (g : Nat) (w : World) (h : RT w F g t l s) : Calls Try.prog 21 #[P g] w fun e w' => e = .returned (.bool t.done) ∧ w = w' := by
  obtain ⟨vS, vR, hb, h1, h2, f0, f1, f2⟩ := h
  have c1 : w.cell? ⟨g, 4, none⟩ = some (.bool t.done) := hb.cell 4
  clear hb h1 h2
  go_enter Try.func21, Try.ntmps21
  go_wp2
  go_ret
  exact ⟨rfl, rfl⟩

def Gave (F : Nat → Prop) (g : Nat) (t : Tr) (l : List Slot) (s : List Int) (w : World) (e : Ending) (w' : World) : Prop :=
  (∃ v, e = .returned v) ∧ RT w' (Fw F w w') g t l s ∧ Only F w w'
theorem Fw.grow {F : Nat → Prop} {w w1 w2 : World} (h : w1.heap.size ≤ w2.heap.size) : ∀ k, Fw F w w1 k → Fw F w w2 k := fun k hk => by
  rcases hk with h1 | h1
  · exact .inl h1
  · exact .inr ⟨h1.1, by omega⟩
/-- a row of the tracker's has grown, and is stored again -/
theorem slots_step {F : Nat → Prop} {w wr W w1 : World} {g : Nat} {t : Tr} {l l' : List Slot} {s : List Int} {vS v' vR : Value}
    (hb : Blk wr g 54 #[.int .i64 t.N, vS, .int .i64 t.taken, vR, .bool t.done, .bool t.stray]) (h1 : wr.ownsRow 0 48 2 vS l.length (slC l)) (h2 : wr.ownsRow 0 3 1 vR s.length (inC s))
    (f0 : Fw F w wr g) (f1 : ∀ k, vS.ownBlock = some k → Fw F w wr k) (f2 : ∀ k, vR.ownBlock = some k → Fw F w wr k) (hon : Only F w wr) (hW : Only No wr W)
    (ho : w1.ownsRow 0 48 2 v' l'.length (slC l')) (ho1 : Only (fun k => vS.ownBlock = some k) W w1) (hat : v'.ownBlock = vS.ownBlock ∨ v'.ownBlock = some W.heap.size) :
    Blk w1 g 54 #[.int .i64 t.N, vS, .int .i64 t.taken, vR, .bool t.done, .bool t.stray] ∧ RT (w1.setCell ⟨g, 1, none⟩ v') (Fw F w (w1.setCell ⟨g, 1, none⟩ v')) g t l' s ∧ Only F w (w1.setCell ⟨g, 1, none⟩ v') := by
  have hbW := hb.only hW id
  have h1W := own_only h1 hW (fun _ _ => id)
  have h2W := own_only h2 hW (fun _ _ => id)
  have hb1 := hbW.only ho1 (own_blk h1W hbW (by decide))
  have h21 := own_only h2W ho1 (own_ne h2W h1W (by decide))
  have hs1 : wr.heap.size ≤ (w1.setCell ⟨g, 1, none⟩ v').heap.size := by
    have a := hW.size
    have b := ho1.size
    simp [World.setCell]; omega
  have hg : F g ∨ w.heap.size ≤ g := f0.imp id fun h => h.1
  refine ⟨hb1, ⟨v', vR, hb1.set 1 v', ?_, ?_, Fw.grow hs1 _ f0, fun k hk => ?_, fun k hk => Fw.grow hs1 _ (f2 k hk)⟩, ?_⟩
  · exact own_only ho ((Only.refl (One g) _).setCell (p := ⟨g, 1, none⟩) (.inl rfl) _) (fun i hi hgi => own_blk ho hb1 (by decide) (hi.trans (congrArg some hgi)))
  · exact own_only h21 ((Only.refl (One g) _).setCell (p := ⟨g, 1, none⟩) (.inl rfl) _) (fun i hi hgi => own_blk h21 hb1 (by decide) (hi.trans (congrArg some hgi)))
  · rcases hat with h | h
    · exact Fw.grow hs1 _ (f1 k (h ▸ hk))
    · have hlt := own_lt ho k hk
      rw [h] at hk
      injection hk with hk
      refine .inr ⟨?_, ?_⟩
      · have a := hon.size
        have b := hW.size
        omega
      · simpa [World.setCell] using hlt
  · refine Only.setCell ((hon.trans (hW.mono fun _ h => h.elim)).then ho1 fun i hi => ?_) hg _
    exact (f1 i hi).imp id fun h => h.1
set_option maxHeartbeats 1600000 in
theorem give_any (F : Nat → Prop) (t : Tr) (l : List Slot) (s : List Int) (n q : Int) (g : Nat) (w : World) (h : RT w F g t l s) (n0 : 0 ≤ n) (n1 : n ≤ 1048576) (hl : l.length ≤ 1048576) :
    Calls Try.prog 30 #[P g, .int .i64 n, .int .i8 q] w (Gave F g t (l ++ List.replicate n.toNat (t.taken, q)) s w) := by
  obtain ⟨i0, hi0, hz0, hz1, hz2⟩ := info_parts info48
  have H := Lib.hid h
  clear h
  go_enter Try.func30, Try.ntmps30
  go_wp2
  go_loopw [6] (fun v6 wr => ∃ k : Nat, v6 = .int .i64 k ∧ (k : Int) ≤ n ∧ Hid (RT wr (Fw F w wr) g t (l ++ List.replicate k (t.taken, q)) s ∧ Only F w wr)) (fun v6 _ => n.toNat - (intOf v6).toNat)
  case atStart => exact ⟨0, rfl, n0, by simpa using H.out.mono (fun k hk => .inl hk), Only.refl _ _⟩
  case round =>
    obtain ⟨k, rfl, hk, hR⟩ := hrel
    by_cases hlt : (k : Int) < n
    · obtain ⟨vS, vR, hb, h1, h2, f0, f1, f2⟩ := hR.out.1
      have hlen : (l ++ List.replicate k (t.taken, q)).length = l.length + k := by simp
      obtain ⟨A, c, rfl⟩ := own_slice h1
      rw [hlen] at h1 hb f1
      have c1 : wr.cell? ⟨g, 1, none⟩ = some (.slice A (l.length + k) c) := hb.cell 1
      have c2 : wr.cell? ⟨g, 2, none⟩ = some (.int .i64 t.taken) := hb.cell 2
      have ca : ∀ o, (wr.alloc o).cell? ⟨g, 1, none⟩ = some (.slice A (l.length + k) c) := fun o => (hb.alloc o).cell 1
      have HB := Lib.hid hb
      have H1 := Lib.hid h1
      have HL : Hid (wr.ownsRow 0 48 2 (.slice A (l.length + k) c) (l ++ List.replicate k (t.taken, q)).length (slC (l ++ List.replicate k (t.taken, q)))) := Lib.hid (by rw [hlen]; exact h1)
      clear hb h1 hlen
      go_wp2
      go_region_law (refine step_append_any rfl (.tmp 16) (.tmp 23) _ rfl 0 48 i0 _ 2 16 Try.underlying28 hi0 hz0 hz1 hz2 rfl (by omega) (.slice A (l.length + k) c) (l.length + k) _ rfl (own_only H1.out ((Only.refl No _).alloc _).drew (fun _ _ => id)) (some ⟨wr.heap.size, 0, none⟩) 1 1 [.int .i64 t.taken, .int .i8 q] rfl (Rds.fresh (Blk.new _ _ _) rfl) (by simp [Value.oneCell']) (by simp only [maxLen]; omega) (by omega) (Nat.zero_le _) ?_; intro v' w1 hown1 hon1 hat1; obtain ⟨A1, c1', rfl⟩ := own_slice hown1; obtain ⟨hb1, hx1⟩ := slots_step (l' := l ++ List.replicate (k + 1) (t.taken, q)) HB.out HL.out h2 f0 f1 f2 hR.out.2 ((Only.refl No _).alloc _).drew (by rw [List.replicate_succ', ← List.append_assoc, slC_append]; simpa [Nat.add_assoc, slC] using hown1) hon1 hat1; have ce := hb1.cell 1; have fe := hb1.frozen 1; clear hown1 hon1 hat1 hb1)
      all_goals go_wp2
      all_goals go_roundw
      all_goals first | exact ⟨k + 1, by go_num, by omega, Lib.hid hx1⟩ | (simp [intOf]; omega)
    · obtain rfl : (k : Int) = n := by omega
      go_wp2
      go_end0
      exact ⟨⟨_, rfl⟩, by simpa using hR.out.1, hR.out.2⟩
end Go.Proofs.Ytdbidojncboalaa.Ct
