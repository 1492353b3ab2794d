/- The contract of the reference's place and Take. -/
import Derived.Test.YtdbidojncboalaaRef
namespace Go.Proofs.Ytdbidojncboalaa.Ct
open Go.ChangeShapes Go.WideShapes Go.RowKit Mm Rs
attribute [local go_sem] Sc.land_ret Sc.land_normal Sc.land_exit Sc.land_panic

theorem RT.set {w : World} {F : Nat → Prop} {g : Nat} {t t' : Tr} {l : List Slot} {s : List Int} (h : RT w F g t l s) (j : Nat) (u : Value)
    (hj : ∀ vS vR : Value, #[.int .i64 t.N, vS, .int .i64 t.taken, vR, .bool t.done, .bool t.stray].setIfInBounds j u = #[.int .i64 t'.N, vS, .int .i64 t'.taken, vR, .bool t'.done, .bool t'.stray]) : RT (w.setCell ⟨g, j, none⟩ u) F g t' l s := by
  obtain ⟨vS, vR, hb, h1, h2, f0, f1, f2⟩ := h
  refine ⟨vS, vR, ?_, ?_, ?_, f0, f1, f2⟩
  · rw [← hj]; exact hb.set j u
  · exact own_only h1 ((Only.refl (One g) _).setCell (p := ⟨g, j, none⟩) (.inl rfl) _) (fun i hi hgi => own_blk h1 hb (by decide) (hi.trans (congrArg some hgi)))
  · exact own_only h2 ((Only.refl (One g) _).setCell (p := ⟨g, j, none⟩) (.inl rfl) _) (fun i hi hgi => own_blk h2 hb (by decide) (hi.trans (congrArg some hgi)))
theorem RT.foot {w : World} {F : Nat → Prop} {g : Nat} {t : Tr} {l : List Slot} {s : List Int} (h : RT w F g t l s) : F g := by
  obtain ⟨vS, vR, hb, h1, h2, f0, f1, f2⟩ := h
  exact f0
theorem RT.cells {w : World} {F : Nat → Prop} {g : Nat} {t : Tr} {l : List Slot} {s : List Int} (h : RT w F g t l s) :
    ∃ A c B d, w.cell? ⟨g, 0, none⟩ = some (.int .i64 t.N) ∧ w.cell? ⟨g, 1, none⟩ = some (.slice A l.length c) ∧ w.cell? ⟨g, 2, none⟩ = some (.int .i64 t.taken) ∧ w.cell? ⟨g, 3, none⟩ = some (.slice B s.length d) ∧
      w.cell? ⟨g, 4, none⟩ = some (.bool t.done) ∧ w.cell? ⟨g, 5, none⟩ = some (.bool t.stray) ∧ (∀ j, w.frozen? ⟨g, j, none⟩ = false) ∧ w.ownsRow 0 48 2 (.slice A l.length c) l.length (slC l) ∧ w.ownsRow 0 3 1 (.slice B s.length d) s.length (inC s) := by
  obtain ⟨vS, vR, hb, h1, h2, f0, f1, f2⟩ := h
  obtain ⟨A, c, rfl⟩ := own_slice h1
  obtain ⟨B, d, rfl⟩ := own_slice h2
  exact ⟨A, c, B, d, hb.cell 0, hb.cell 1, hb.cell 2, hb.cell 3, hb.cell 4, hb.cell 5, hb.frozen, h1, h2⟩
/-- behind a call: the same footprint, seen from ahead -/
theorem RT.fw {w w1 w2 : World} {F : Nat → Prop} {g : Nat} {t : Tr} {l : List Slot} {s : List Int} (h : RT w2 (Fw F w1 w2) g t l s) (hs : w.heap.size ≤ w1.heap.size) : RT w2 (Fw F w w2) g t l s :=
  h.mono fun _ hk => hk.imp id fun x => ⟨by omega, x.2⟩
theorem Fw.fw {w w1 w2 : World} {F : Nat → Prop} (h1 : w.heap.size ≤ w1.heap.size) (h2 : w1.heap.size ≤ w2.heap.size) : ∀ k, Fw (Fw F w w1) w1 w2 k → Fw F w w2 k := fun _ hk => by
  rcases hk with (h | h) | h
  · exact .inl h
  · exact .inr ⟨h.1, by omega⟩
  · exact .inr ⟨by omega, h.2⟩
theorem Fw.start {w w1 : World} {F : Nat → Prop} : ∀ k, F k → Fw F w w1 k := fun _ hk => .inl hk
theorem only_fw {w w1 w2 : World} {F : Nat → Prop} (h : Only F w w1) (k : Only (Fw F w w1) w1 w2) : Only F w w2 := h.then k fun _ hi => hi.imp id fun x => x.1

set_option maxHeartbeats 800000 in
theorem rplace_any (F : Nat → Prop) (t : Tr) (l : List Slot) (s : List Int) (g : Nat) (w : World) (h : RT w F g t l s) (hl : l.length ≤ 1048576) :
    Calls Try.prog 31 #[P g] w (Gave F g { t with stray := false } (l ++ [(t.taken, placedI t)]) s w) := by
  obtain ⟨A, c, B, d, c0, c1, c2, c3, c4, c5, fz, _, _⟩ := h.cells
  have f5 := fz 5
  have H := Lib.hid h
  clear h
  cases hst : t.stray
  all_goals
    rw [hst] at c5
    go_enter Try.func31, Try.ntmps31
    go_wp2_with fail
    refine (give_any F t l s _ _ g _ H.out (by omega) (by omega) hl).mono ?_
    rintro e w1 ⟨⟨v, rfl⟩, hr, ho⟩
    obtain ⟨A', c', B', d', k0, k1, k2, k3, k4, k5, kz, _, _⟩ := hr.cells
    have kf := kz 5
    have HR := Lib.hid hr
    have HO := Lib.hid ho
    clear hr ho
    go_wp2
    go_end0
    refine ⟨⟨_, rfl⟩, ?_, HO.out.setCell (p := ⟨g, 5, none⟩) (HR.out.foot.imp id fun x => x.1) _⟩
    have := RT.set (t' := { t with stray := false }) (HR.out.mono (F' := Fw F w (w1.setCell ⟨g, 5, none⟩ (.bool false))) (Fw.grow (by simp [World.setCell]))) 5 (.bool false) (fun _ _ => rfl)
    unfold placedI
    rw [hst]
    exact this
theorem rds_cut {w : World} {A : Option Addr} {c : Nat} {l x : List Slot} (h : w.ownsRow 0 48 2 (.slice A (l ++ x).length c) (l ++ x).length (slC (l ++ x))) : (l ++ x).length ≤ c ∧ Rds w 2 (if c = l.length then A else A.map (·.add (l.length * 2))) ((l ++ x).length - l.length) (slC x) := by
  have hr := Rds.of_own h
  have hle : (l ++ x).length ≤ c := by
    rcases h.2 with ⟨h', h0⟩ | ⟨g', cap', cur, h', hb, hg, hnc, hcm, hcs, htake⟩
    · omega
    · simp only [Value.slice.injEq] at h'
      omega
  have hlen : (l ++ x).length = l.length + x.length := by simp
  refine ⟨hle, by rw [slC_len, hlen]; omega, fun hn => ?_⟩
  obtain ⟨ad, rfl, hb, hc⟩ := hr.2 (by omega)
  rw [if_neg (by omega)]
  refine ⟨_, rfl, by rw [Mm.block_add]; exact hb, fun j u hu => ?_⟩
  rw [Mm.add_add]
  refine hc _ u ?_
  rw [slC_append, List.getElem?_append_right (by rw [slC_len]; omega), slC_len, Nat.add_sub_cancel_left]
  exact hu
/-- what Take hands back -/
def Took (F : Nat → Prop) (g : Nat) (t : Tr) (l x : List Slot) (s : List Int) (w : World) (e : Ending) (w' : World) : Prop :=
  ∃ v, e = .returned v ∧ w'.ownsRow 0 48 2 v x.length (slC x) ∧ RT w' (Fw F w w') g t (l ++ x) s ∧ Only F w w'
section
variable (F : Nat → Prop) (t : Tr) (l : List Slot) (s : List Int) (a b r d : Int) (g : Nat) (w : World)
set_option maxHeartbeats 800000 in
theorem rtake_done (h : RT w F g t l s) (hd : t.done = true) : Calls Try.prog 15 #[P g, Pc a b r d] w (Took F g t l [] s w) := by
  obtain ⟨A, c, B, d', c0, c1, c2, c3, c4, c5, fz, _, _⟩ := h.cells
  have lt := h.lt
  have H := Lib.hid h
  rw [hd] at c4
  clear h hd
  go_enter Try.func15, Try.ntmps15
  go_wp2
  go_ret
  have h1 : RT (w.alloc (.cells #[.int .i64 a, .int .i64 b, .int .i8 r, .int .i64 d] 32)) F g t (l ++ []) s := by rw [List.append_nil]; exact H.out.only ((Only.refl No w).alloc _) (fun _ _ => id)
  exact ⟨_, rfl, World.ownsRow_nil _ _ _ _, h1.mono (fun k hk => .inl hk), (Only.refl _ _).alloc _⟩
theorem strays_step {F : Nat → Prop} {w wr W w1 : World} {g : Nat} {t : Tr} {l : List Slot} {s s' : List Int} {vS v' vR : Value}
    (hb : Blk wr g 54 #[.int .i64 t.N, vS, .int .i64 t.taken, vR, .bool t.done, .bool t.stray]) (h1 : wr.ownsRow 0 48 2 vS l.length (slC l)) (h2 : wr.ownsRow 0 3 1 vR s.length (inC s))
    (f0 : Fw F w wr g) (f1 : ∀ k, vS.ownBlock = some k → Fw F w wr k) (f2 : ∀ k, vR.ownBlock = some k → Fw F w wr k) (hon : Only F w wr) (hW : Only No wr W)
    (ho : w1.ownsRow 0 3 1 v' s'.length (inC s')) (ho1 : Only (fun k => vR.ownBlock = some k) W w1) (hat : v'.ownBlock = vR.ownBlock ∨ v'.ownBlock = some W.heap.size) :
    Blk w1 g 54 #[.int .i64 t.N, vS, .int .i64 t.taken, vR, .bool t.done, .bool t.stray] ∧ RT (w1.setCell ⟨g, 3, none⟩ v') (Fw F w (w1.setCell ⟨g, 3, none⟩ v')) g t l s' ∧ Only F w (w1.setCell ⟨g, 3, none⟩ v') := by
  have hbW := hb.only hW id
  have h1W := own_only h1 hW (fun _ _ => id)
  have h2W := own_only h2 hW (fun _ _ => id)
  have hb1 := hbW.only ho1 (own_blk h2W hbW (by decide))
  have h21 := own_only h1W ho1 (own_ne h1W h2W (by decide))
  have hs1 : wr.heap.size ≤ (w1.setCell ⟨g, 3, none⟩ v').heap.size := by
    have a := hW.size
    have b := ho1.size
    simp [World.setCell]; omega
  have hg : F g ∨ w.heap.size ≤ g := f0.imp id fun h => h.1
  refine ⟨hb1, ⟨vS, v', hb1.set 3 v', ?_, ?_, Fw.grow hs1 _ f0, fun k hk => Fw.grow hs1 _ (f1 k hk), fun k hk => ?_⟩, ?_⟩
  · exact own_only h21 ((Only.refl (One g) _).setCell (p := ⟨g, 3, none⟩) (.inl rfl) _) (fun i hi hgi => own_blk h21 hb1 (by decide) (hi.trans (congrArg some hgi)))
  · exact own_only ho ((Only.refl (One g) _).setCell (p := ⟨g, 3, none⟩) (.inl rfl) _) (fun i hi hgi => own_blk ho hb1 (by decide) (hi.trans (congrArg some hgi)))
  · rcases hat with h | h
    · exact Fw.grow hs1 _ (f2 k (h ▸ hk))
    · have hlt := own_lt ho k hk
      rw [h] at hk
      injection hk with hk
      refine .inr ⟨?_, ?_⟩
      · have a := hon.size
        have b := hW.size
        omega
      · simpa [World.setCell] using hlt
  · refine Only.setCell ((hon.trans (hW.mono fun _ h => h.elim)).then ho1 fun i hi => ?_) hg _
    exact (f2 i hi).imp id fun h => h.1
theorem took_fin {F : Nat → Prop} {g : Nat} {t : Tr} {l x : List Slot} {s : List Int} {w w2 w3 : World} {v : Value} (hr : RT w2 (Fw F w w2) g t (l ++ x) s) (ho : Only F w w2)
    (hw : w3.ownsRow 0 48 2 v (0 + x.length) ([] ++ slC x)) (hn : Only (fun k => (Value.slice none 0 0).ownBlock = some k) (w2.setCell ⟨g, 2, none⟩ (.int .i64 (t.taken + 1))) w3) :
    Took F g { t with taken := t.taken + 1 } l x s w (.returned v) w3 := by
  have h1 : RT (w2.setCell ⟨g, 2, none⟩ (.int .i64 (t.taken + 1))) (Fw F w w2) g { t with taken := t.taken + 1 } (l ++ x) s := hr.set 2 _ (fun _ _ => rfl)
  have h2 := h1.only hn (fun i _ h => by simp [Value.ownBlock] at h)
  have hs : w2.heap.size ≤ w3.heap.size := by have := hn.size; simp [World.setCell] at this; omega
  refine ⟨v, rfl, by simpa using hw, h2.mono (Fw.grow hs), (ho.setCell (p := ⟨g, 2, none⟩) (hr.foot.imp id fun x => x.1) _).then hn fun i h => by simp [Value.ownBlock] at h⟩
theorem rds_set {w : World} {A : Option Addr} {n g : Nat} {x : List Slot} (h : Rds w 2 A n (slC x)) (hA : ∀ ad, A = some ad → ad.block ≠ g) (u : Value) : Rds (w.setCell ⟨g, 2, none⟩ u) 2 A n (slC x) :=
  h.only ((Only.refl (One g) w).setCell (p := ⟨g, 2, none⟩) (.inl rfl) u) (fun _ ad e => hA ad e)
theorem rds_cut_ne {w : World} {A : Option Addr} {c g : Nat} {F : Nat → Prop} {t : Tr} {l x : List Slot} {s : List Int} (hR : RT w F g t (l ++ x) s) (hc : w.cell? ⟨g, 1, none⟩ = some (.slice A (l ++ x).length c)) (ad : Addr) (h : (if c = l.length then A else A.map (·.add (l.length * 2))) = some ad) : ad.block ≠ g := by
  obtain ⟨vS, vR, hb, h1, h2, f0, f1, f2⟩ := hR
  have : w.cell? ⟨g, 1, none⟩ = some vS := hb.cell 1
  rw [hc] at this
  injection this with this
  subst this
  have hn := own_blk h1 hb (by decide)
  rintro rfl
  refine hn ?_
  split at h
  · subst h; rfl
  · rcases A with _ | a0
    · simp at h
    · simp only [Option.map_some, Option.some.injEq] at h
      subst h
      simp [Value.ownBlock, Mm.block_add]
set_option maxHeartbeats 800000 in
theorem rtake_cut (x : List Slot) (h : RT w F g t l s) (hd : t.done = false) (n0 : l.length ≤ t.N) (hN : t.N ≤ 1048576) (tk : t.taken ≤ 4398046511104) (tk0 : 0 ≤ t.taken) (hr : r < -1) (hx : x = List.replicate (t.N - l.length).toNat (t.taken, 7)) :
    Calls Try.prog 15 #[P g, Pc a b r d] w (Took F g { t with taken := t.taken + 1, done := true } l x s w) := by
  obtain ⟨A, c, B, d', c0, c1, c2, c3, c4, c5, fz, _, _⟩ := h.cells
  have f4 := fz 4
  have lt := h.lt
  have H := Lib.hid h
  rw [hd] at c4
  obtain ⟨i0, hi0, hz0, hz1, hz2⟩ := info_parts info48
  have hx1 : x.length ≤ 1048576 := by rw [hx, List.length_replicate]; omega
  replace hx := Lib.hid hx
  clear h hd
  go_enter Try.func15, Try.ntmps15
  go_wp2_with fail
  have hr1 : RT ((w.setCell ⟨g, 4, none⟩ (.bool true)).alloc (.cells #[.int .i64 a, .int .i64 b, .int .i8 r, .int .i64 d] 32)) F g { t with done := true } l s := (H.out.set 4 (.bool true) (fun _ _ => rfl)).only ((Only.refl No _).alloc _) (fun _ _ => id)
  refine (give_any F { t with done := true } l s _ _ g _ hr1 (by omega) (by omega) (by omega)).mono ?_
  rintro e w2 ⟨⟨v, rfl⟩, hr2, ho2⟩
  replace hr2 := hr2.fw (w := w) (by simp [World.setCell])
  replace ho2 := (((Only.refl F w).setCell (p := ⟨g, 4, none⟩) (.inl H.out.foot) (.bool true)).alloc _).trans ho2
  rw [← hx.out] at hr2
  obtain ⟨A2, e2, B2, d2, k0, k1, k2, k3, k4, k5, kz, ow2, _⟩ := hr2.cells
  have kf := kz 2
  have hX : (l ++ x).length = l.length + x.length := List.length_append
  obtain ⟨hle, hrd⟩ := rds_cut ow2
  rw [show (l ++ x).length - l.length = x.length by omega] at hrd
  have HRd := Lib.hid hrd
  have HNe := Lib.hid (rds_cut_ne hr2 k1)
  obtain ⟨n2, hn2⟩ : ∃ n2, n2 = (l ++ x).length := ⟨_, rfl⟩
  rw [← hn2] at k1 hle hX
  have hln : l.length ≤ n2 := by omega
  obtain ⟨A3, hA3⟩ : ∃ A3, A3 = (if e2 = l.length then A2 else A2.map (·.add (l.length * 2))) := ⟨_, rfl⟩
  rw [← hA3] at HRd HNe
  have h3 : (A2 = none ∧ A3 = none) ∨ (∃ ad, A2 = some ad ∧ A3 = some ad ∧ e2 = l.length) ∨ (∃ ad, A2 = some ad ∧ A3 = some (ad.add (l.length * 2)) ∧ ¬ e2 = l.length) := by
    rcases A2 with _ | ad
    · refine .inl ⟨rfl, by rw [hA3]; split <;> rfl⟩
    · by_cases he : e2 = l.length
      · exact .inr (.inl ⟨ad, rfl, by rw [hA3, if_pos he], he⟩)
      · exact .inr (.inr ⟨ad, rfl, by rw [hA3, if_neg he]; rfl, he⟩)
  have HR2 := Lib.hid hr2
  have HO2 := Lib.hid ho2
  clear hr2 ho2 ow2 hrd kz hn2 hA3
  rcases h3 with ⟨rfl, rfl⟩ | ⟨ad, rfl, rfl, he⟩ | ⟨ad, rfl, rfl, he⟩
  all_goals
    go_wp2_with (at_builtin; go_loud (refine Mm.wpList_append_any _ rfl (.tmp 110) (.tmp 116) _ rfl 0 48 i0 _ 2 16 Try.underlying28 hi0 hz0 hz1 hz2 rfl (by omega) (.slice none 0 0) 0 [] rfl (World.ownsRow_nil _ _ _ _) _ _ _ (slC x) rfl (rds_set HRd.out HNe.out _) (slC_one _) (by simp only [maxLen]; omega) (by omega) (Nat.zero_le _) ?_); intro v' w3 hown3 hon3 hat3)
    have HW := Lib.hid hown3
    have HN := Lib.hid hon3
    clear hown3 hon3 hat3
    go_wp2
    go_ret
    exact took_fin HR2.out HO2.out HW.out HN.out
set_option maxHeartbeats 800000 in
theorem rtake_lost (x : List Slot) (h : RT w F g t l s) (hd : t.done = false) (n0 : l.length ≤ t.N) (hN : t.N ≤ 1048576) (tk : t.taken ≤ 4398046511104) (tk0 : 0 ≤ t.taken) (hr : r = -1) (hn : ¬ (l.length : Int) = t.N - 1) (hx : x = List.replicate (t.N - l.length).toNat (t.taken, 5)) :
    Calls Try.prog 15 #[P g, Pc a b r d] w (Took F g { t with taken := t.taken + 1, done := true } l x s w) := by
  obtain ⟨A, c, B, d', c0, c1, c2, c3, c4, c5, fz, _, _⟩ := h.cells
  have f4 := fz 4
  have lt := h.lt
  have H := Lib.hid h
  rw [hd] at c4
  obtain ⟨i0, hi0, hz0, hz1, hz2⟩ := info_parts info48
  have hx1 : x.length ≤ 1048576 := by rw [hx, List.length_replicate]; omega
  have hq : ((l.length : Int) == t.N - 1) = false := by rw [beq_eq_false_iff_ne]; exact hn
  subst hr
  replace hx := Lib.hid hx
  clear h hd
  go_enter Try.func15, Try.ntmps15
  go_wp2_with fail
  have hr1 : RT ((w.setCell ⟨g, 4, none⟩ (.bool true)).alloc (.cells #[.int .i64 a, .int .i64 b, .int .i8 (-1), .int .i64 d] 32)) F g { t with done := true } l s := (H.out.set 4 (.bool true) (fun _ _ => rfl)).only ((Only.refl No _).alloc _) (fun _ _ => id)
  refine (give_any F { t with done := true } l s _ _ g _ hr1 (by omega) (by omega) (by omega)).mono ?_
  rintro e w2 ⟨⟨v, rfl⟩, hr2, ho2⟩
  replace hr2 := hr2.fw (w := w) (by simp [World.setCell])
  replace ho2 := (((Only.refl F w).setCell (p := ⟨g, 4, none⟩) (.inl H.out.foot) (.bool true)).alloc _).trans ho2
  rw [← hx.out] at hr2
  obtain ⟨A2, e2, B2, d2, k0, k1, k2, k3, k4, k5, kz, ow2, _⟩ := hr2.cells
  have kf := kz 2
  have hX : (l ++ x).length = l.length + x.length := List.length_append
  obtain ⟨hle, hrd⟩ := rds_cut ow2
  rw [show (l ++ x).length - l.length = x.length by omega] at hrd
  have HRd := Lib.hid hrd
  have HNe := Lib.hid (rds_cut_ne hr2 k1)
  obtain ⟨n2, hn2⟩ : ∃ n2, n2 = (l ++ x).length := ⟨_, rfl⟩
  rw [← hn2] at k1 hle hX
  have hln : l.length ≤ n2 := by omega
  obtain ⟨A3, hA3⟩ : ∃ A3, A3 = (if e2 = l.length then A2 else A2.map (·.add (l.length * 2))) := ⟨_, rfl⟩
  rw [← hA3] at HRd HNe
  have h3 : (A2 = none ∧ A3 = none) ∨ (∃ ad, A2 = some ad ∧ A3 = some ad ∧ e2 = l.length) ∨ (∃ ad, A2 = some ad ∧ A3 = some (ad.add (l.length * 2)) ∧ ¬ e2 = l.length) := by
    rcases A2 with _ | ad
    · refine .inl ⟨rfl, by rw [hA3]; split <;> rfl⟩
    · by_cases he : e2 = l.length
      · exact .inr (.inl ⟨ad, rfl, by rw [hA3, if_pos he], he⟩)
      · exact .inr (.inr ⟨ad, rfl, by rw [hA3, if_neg he]; rfl, he⟩)
  have HR2 := Lib.hid hr2
  have HO2 := Lib.hid ho2
  clear hr2 ho2 ow2 hrd kz hn2 hA3
  rcases h3 with ⟨rfl, rfl⟩ | ⟨ad, rfl, rfl, he⟩ | ⟨ad, rfl, rfl, he⟩
  all_goals
    go_wp2_with (at_builtin; go_loud (refine Mm.wpList_append_any _ rfl (.tmp 110) (.tmp 116) _ rfl 0 48 i0 _ 2 16 Try.underlying28 hi0 hz0 hz1 hz2 rfl (by omega) (.slice none 0 0) 0 [] rfl (World.ownsRow_nil _ _ _ _) _ _ _ (slC x) rfl (rds_set HRd.out HNe.out _) (slC_one _) (by simp only [maxLen]; omega) (by omega) (Nat.zero_le _) ?_); intro v' w3 hown3 hon3 hat3)
    have HW := Lib.hid hown3
    have HN := Lib.hid hon3
    clear hown3 hon3 hat3
    go_wp2
    go_ret
    exact took_fin HR2.out HO2.out HW.out HN.out
set_option maxHeartbeats 800000 in
theorem rtake_last (x : List Slot) (h : RT w F g t l s) (hd : t.done = false) (n0 : l.length ≤ t.N) (hN : t.N ≤ 1048576) (tk : t.taken ≤ 4398046511104) (tk0 : 0 ≤ t.taken) (hr : r = -1) (hn : (l.length : Int) = t.N - 1) (hx : x = [(t.taken, placedI t)]) :
    Calls Try.prog 15 #[P g, Pc a b r d] w (Took F g { t with taken := t.taken + 1, done := true, stray := false } l x s w) := by
  obtain ⟨A, c, B, d', c0, c1, c2, c3, c4, c5, fz, _, _⟩ := h.cells
  have f4 := fz 4
  have lt := h.lt
  have H := Lib.hid h
  rw [hd] at c4
  obtain ⟨i0, hi0, hz0, hz1, hz2⟩ := info_parts info48
  have hx1 : x.length ≤ 1048576 := by rw [hx]; simp
  have hq : ((l.length : Int) == t.N - 1) = true := by rw [beq_iff_eq]; exact hn
  have hle1 : (l.length : Int) + 1 ≤ 1048576 := by omega
  replace hn := Lib.hid hn
  subst hr
  replace hx := Lib.hid hx
  clear h hd
  go_enter Try.func15, Try.ntmps15
  go_wp2_with fail
  have hr1 : RT ((w.setCell ⟨g, 4, none⟩ (.bool true)).alloc (.cells #[.int .i64 a, .int .i64 b, .int .i8 (-1), .int .i64 d] 32)) F g { t with done := true } l s := (H.out.set 4 (.bool true) (fun _ _ => rfl)).only ((Only.refl No _).alloc _) (fun _ _ => id)
  refine (rplace_any F { t with done := true } l s g _ hr1 (by omega)).mono ?_
  rintro e w2 ⟨⟨v, rfl⟩, hr2, ho2⟩
  replace hr2 := hr2.fw (w := w) (by simp [World.setCell])
  replace ho2 := (((Only.refl F w).setCell (p := ⟨g, 4, none⟩) (.inl H.out.foot) (.bool true)).alloc _).trans ho2
  rw [show [(({ t with done := true } : Tr).taken, placedI { t with done := true })] = x from hx.out.symm] at hr2
  obtain ⟨A2, e2, B2, d2, k0, k1, k2, k3, k4, k5, kz, ow2, _⟩ := hr2.cells
  have kf := kz 2
  have hX : (l ++ x).length = l.length + x.length := List.length_append
  obtain ⟨hle, hrd⟩ := rds_cut ow2
  rw [show (l ++ x).length - l.length = x.length by omega] at hrd
  have HRd := Lib.hid hrd
  have HNe := Lib.hid (rds_cut_ne hr2 k1)
  obtain ⟨n2, hn2⟩ : ∃ n2, n2 = (l ++ x).length := ⟨_, rfl⟩
  rw [← hn2] at k1 hle hX
  have hln : l.length ≤ n2 := by omega
  obtain ⟨A3, hA3⟩ : ∃ A3, A3 = (if e2 = l.length then A2 else A2.map (·.add (l.length * 2))) := ⟨_, rfl⟩
  rw [← hA3] at HRd HNe
  have h3 : (A2 = none ∧ A3 = none) ∨ (∃ ad, A2 = some ad ∧ A3 = some ad ∧ e2 = l.length) ∨ (∃ ad, A2 = some ad ∧ A3 = some (ad.add (l.length * 2)) ∧ ¬ e2 = l.length) := by
    rcases A2 with _ | ad
    · refine .inl ⟨rfl, by rw [hA3]; split <;> rfl⟩
    · by_cases he : e2 = l.length
      · exact .inr (.inl ⟨ad, rfl, by rw [hA3, if_pos he], he⟩)
      · exact .inr (.inr ⟨ad, rfl, by rw [hA3, if_neg he]; rfl, he⟩)
  have HR2 := Lib.hid hr2
  have HO2 := Lib.hid ho2
  clear hr2 ho2 ow2 hrd kz hn2 hA3
  rcases h3 with ⟨rfl, rfl⟩ | ⟨ad, rfl, rfl, he⟩ | ⟨ad, rfl, rfl, he⟩
  all_goals
    go_wp2_with (at_builtin; go_loud (refine Mm.wpList_append_any _ rfl (.tmp 110) (.tmp 116) _ rfl 0 48 i0 _ 2 16 Try.underlying28 hi0 hz0 hz1 hz2 rfl (by omega) (.slice none 0 0) 0 [] rfl (World.ownsRow_nil _ _ _ _) _ _ _ (slC x) rfl (rds_set HRd.out HNe.out _) (slC_one _) (by simp only [maxLen]; omega) (by omega) (Nat.zero_le _) ?_); intro v' w3 hown3 hon3 hat3)
    have HW := Lib.hid hown3
    have HN := Lib.hid hon3
    clear hown3 hon3 hat3
    go_wp2
    go_ret
    exact took_fin HR2.out HO2.out HW.out HN.out
set_option maxHeartbeats 1600000 in
theorem rtake_stray (x : List Slot) (h : RT w F g t l s) (hd : t.done = false) (n0 : l.length ≤ t.N) (hN : t.N ≤ 1048576) (tk : t.taken ≤ 4398046511104) (tk0 : 0 ≤ t.taken) (hr : 0 ≤ r) (hr2 : r ≤ 127) (D : Nat) (hD : (D : Int) = (r - l.length) % 8) (hn : t.N - 1 ≤ (l.length : Int) + D) (hsl : (s.length : Int) ≤ t.taken) (hx : x = []) :
    Calls Try.prog 15 #[P g, Pc a b r d] w (Took F g { t with taken := t.taken + 1, stray := true } l x (s ++ [t.taken]) w) := by
  obtain ⟨A, c, B, d', c0, c1, c2, c3, c4, c5, fz, _, _⟩ := h.cells
  have f4 := fz 4
  have lt := h.lt
  have H := Lib.hid h
  rw [hd] at c4
  obtain ⟨i0, hi0, hz0, hz1, hz2⟩ := info_parts info48
  have hx1 : x.length ≤ 1048576 := by rw [hx]; simp
  obtain ⟨i3, hi3, hy0, hy1, hy2⟩ := info_parts info3
  have hD8 : D < 8 := by omega
  have hbr : (r == -1) = false := by rw [beq_eq_false_iff_ne]; omega
  replace hx := Lib.hid hx
  clear h hd
  go_enter Try.func15, Try.ntmps15
  go_wp2_with fail
  go_loopw [6] (fun v6 wr => ∃ k : Nat, v6 = .int .i64 k ∧ k ≤ D ∧ wr = (w.alloc (.cells #[.int .i64 a, .int .i64 b, .int .i8 r, .int .i64 d] 32))) (fun v6 _ => D - (intOf v6).toNat)
  case atStart => exact ⟨0, rfl, by omega, rfl⟩
  case round =>
    obtain ⟨k, rfl, hk, rfl⟩ := hrel
    have hw1 : IntKind.i64.wrap ((l.length : Int) + k) = (l.length : Int) + k := by rw [IntKind.wrap_i64]; omega
    have hw2 : IntKind.i64.wrap ((l.length : Int) + k - r) = (l.length : Int) + k - r := by rw [IntKind.wrap_i64]; omega
    by_cases hlt : k < D
    · have hne : (((l.length : Int) + k - r).tmod 8 != 0) = true := by rw [bne_iff_ne]; intro h0; have := Int.dvd_of_tmod_eq_zero h0; omega
      have hrg : -8 < ((l.length : Int) + k - r).tmod 8 ∧ ((l.length : Int) + k - r).tmod 8 < 8 := ⟨by have := Int.lt_tmod_of_pos ((l.length : Int) + k - r) (show (0 : Int) < 8 by decide); omega, Int.tmod_lt_of_pos _ (by decide)⟩
      have hw3 : IntKind.i64.wrap (((l.length : Int) + k - r).tmod 8) = ((l.length : Int) + k - r).tmod 8 := by rw [IntKind.wrap_i64]; omega
      clear hD
      go_wp2_with fail
      go_roundw
      case rel => exact ⟨k + 1, by go_num, by omega, by first | rfl | trivial⟩
      case measure => simp [intOf]; omega
    · obtain rfl : k = D := by omega
      have hz : ((l.length : Int) + k - r).tmod 8 = 0 := Int.tmod_eq_zero_of_dvd (by omega)
      have hne : (((l.length : Int) + k - r).tmod 8 != 0) = false := by rw [hz]; rfl
      replace hD := Lib.hid hD
      go_wp2_with fail
      have hr1 : RT (w.alloc (.cells #[.int .i64 a, .int .i64 b, .int .i8 r, .int .i64 d] 32)) F g t l s := H.out.only ((Only.refl No _).alloc _) (fun _ _ => id)
      obtain ⟨vS, vR, hb, h1, h2, f0, f1, f2⟩ := H.out
      obtain rfl : vR = .slice B s.length d' := Option.some.inj ((hb.cell 3).symm.trans c3)
      obtain rfl : vS = .slice A l.length c := Option.some.inj ((hb.cell 1).symm.trans c1)
      have g3 : ∀ o p, ((w.alloc o).alloc p).cell? ⟨g, 3, none⟩ = some (.slice B s.length d') := fun o p => ((hb.alloc o).alloc p).cell 3
      replace hb := Lib.hid hb
      replace h1 := Lib.hid h1
      replace h2 := Lib.hid h2
      clear hr1
      go_region_law (refine step_append_any rfl (.tmp 46) (.tmp 51) _ rfl 0 3 i3 _ 1 8 Try.underlying39 hi3 hy0 hy1 hy2 rfl (by omega) (.slice B s.length d') s.length _ rfl (own_only h2.out (((Only.refl No _).alloc _).alloc _).drew (fun _ _ => id)) (some ⟨w.heap.size + 1, 0, none⟩) 1 1 [.int .i64 t.taken] rfl (Rds.fresh (blk_new2 _ _ _ _) rfl) (by simp [Value.oneCell']) (by simp only [maxLen]; omega) (by omega) (Nat.zero_le _) ?_; intro v' w1 hown1 hon2 hat1; obtain ⟨A1, c1', rfl⟩ := own_slice hown1; obtain ⟨hb1, hx2⟩ := strays_step (s' := s ++ [t.taken]) hb.out h1.out h2.out (.inl f0) (fun k hk => .inl (f1 k hk)) (fun k hk => .inl (f2 k hk)) (Only.refl F w) (((Only.refl No _).alloc _).alloc _).drew (by simpa [inC] using hown1) hon2 hat1; have ce := hb1.cell 3; have fe := hb1.frozen 3; have fe5 := hb1.frozen 5; have fe2 := hb1.frozen 2; have ce2 := hb1.cell 2; have ce1 := hb1.cell 1; have ce5 := hb1.cell 5; clear hown1 hon2 hat1 hb1)
      all_goals
        obtain ⟨hxr, hxo⟩ := hx2
        replace hxr := Lib.hid hxr
        replace hxo := Lib.hid hxo
        clear hz hne
        have hle : l.length ≤ c := by
          rcases h1.out.2 with ⟨h', h0⟩ | ⟨g', cap', cur, h', hb', hg', hnc, hcm, hcs, htake⟩
          · omega
          · simp only [Value.slice.injEq] at h'
            omega
        have h3 : A = none ∨ (∃ ad, A = some ad ∧ c = l.length) ∨ (∃ ad, A = some ad ∧ ¬ c = l.length) := by
          rcases A with _ | ad
          · exact .inl rfl
          · by_cases he : c = l.length
            · exact .inr (.inl ⟨ad, rfl, he⟩)
            · exact .inr (.inr ⟨ad, rfl, he⟩)
        rcases h3 with rfl | ⟨ad, rfl, he⟩ | ⟨ad, rfl, he⟩
        all_goals
          go_wp2_with (at_builtin; go_loud (refine Mm.wpList_append_any _ rfl (.tmp 110) (.tmp 116) _ rfl 0 48 i0 _ 2 16 Try.underlying28 hi0 hz0 hz1 hz2 rfl (by omega) (.slice none 0 0) 0 [] rfl (World.ownsRow_nil _ _ _ _) _ _ _ [] rfl Rds.nil (by simp) (by simp only [maxLen]; omega) (by omega) (Nat.zero_le _) ?_); intro v' w3 hown3 hon3 hat3)
          replace hown3 := Lib.hid hown3
          replace hon3 := Lib.hid hon3
          go_wp2
          go_ret
          exact took_fin (t := { t with stray := true }) (by rw [hx.out, List.append_nil]; exact (hxr.out.mono (Fw.grow (by simp [World.setCell]))).set 5 _ (fun _ _ => rfl)) (hxo.out.setCell (p := ⟨g, 5, none⟩) (.inl H.out.foot) _) (by rw [hx.out]; exact hown3.out) hon3.out
set_option maxHeartbeats 1600000 in
theorem rtake_placed (x : List Slot) (h : RT w F g t l s) (hd : t.done = false) (n0 : l.length ≤ t.N) (hN : t.N ≤ 1048576) (tk : t.taken ≤ 4398046511104) (tk0 : 0 ≤ t.taken) (hr : 0 ≤ r) (hr2 : r ≤ 127) (D : Nat) (hD : (D : Int) = (r - l.length) % 8) (hn : ¬ t.N - 1 ≤ (l.length : Int) + D) (h0 : D = 0) (hx : x = [(t.taken, placedI t)]) :
    Calls Try.prog 15 #[P g, Pc a b r d] w (Took F g { t with taken := t.taken + 1, stray := false } l x s w) := by
  obtain ⟨A, c, B, d', c0, c1, c2, c3, c4, c5, fz, _, _⟩ := h.cells
  have f4 := fz 4
  have lt := h.lt
  have H := Lib.hid h
  rw [hd] at c4
  obtain ⟨i0, hi0, hz0, hz1, hz2⟩ := info_parts info48
  have hx1 : x.length ≤ 1048576 := by rw [hx]; simp
  replace h0 := Lib.hid h0
  have hD8 : D < 8 := by omega
  have hbr : (r == -1) = false := by rw [beq_eq_false_iff_ne]; omega
  replace hx := Lib.hid hx
  clear h hd
  go_enter Try.func15, Try.ntmps15
  go_wp2_with fail
  go_loopw [6] (fun v6 wr => ∃ k : Nat, v6 = .int .i64 k ∧ k ≤ D ∧ wr = (w.alloc (.cells #[.int .i64 a, .int .i64 b, .int .i8 r, .int .i64 d] 32))) (fun v6 _ => D - (intOf v6).toNat)
  case atStart => exact ⟨0, rfl, by omega, rfl⟩
  case round =>
    obtain ⟨k, rfl, hk, rfl⟩ := hrel
    have hw1 : IntKind.i64.wrap ((l.length : Int) + k) = (l.length : Int) + k := by rw [IntKind.wrap_i64]; omega
    have hw2 : IntKind.i64.wrap ((l.length : Int) + k - r) = (l.length : Int) + k - r := by rw [IntKind.wrap_i64]; omega
    by_cases hlt : k < D
    · have hne : (((l.length : Int) + k - r).tmod 8 != 0) = true := by rw [bne_iff_ne]; intro h0; have := Int.dvd_of_tmod_eq_zero h0; omega
      have hrg : -8 < ((l.length : Int) + k - r).tmod 8 ∧ ((l.length : Int) + k - r).tmod 8 < 8 := ⟨by have := Int.lt_tmod_of_pos ((l.length : Int) + k - r) (show (0 : Int) < 8 by decide); omega, Int.tmod_lt_of_pos _ (by decide)⟩
      have hw3 : IntKind.i64.wrap (((l.length : Int) + k - r).tmod 8) = ((l.length : Int) + k - r).tmod 8 := by rw [IntKind.wrap_i64]; omega
      clear hD
      go_wp2_with fail
      go_roundw
      case rel => exact ⟨k + 1, by go_num, by omega, by first | rfl | trivial⟩
      case measure => simp [intOf]; omega
    · obtain rfl : k = D := by omega
      have hz : ((l.length : Int) + k - r).tmod 8 = 0 := Int.tmod_eq_zero_of_dvd (by omega)
      have hne : (((l.length : Int) + k - r).tmod 8 != 0) = false := by rw [hz]; rfl
      replace hD := Lib.hid hD
      have hk0 : ((k : Int) == 0) = true := by rw [h0.out]; rfl
      go_wp2_with fail
      have hr1 : RT (w.alloc (.cells #[.int .i64 a, .int .i64 b, .int .i8 r, .int .i64 d] 32)) F g t l s := H.out.only ((Only.refl No _).alloc _) (fun _ _ => id)
      refine (rplace_any F t l s g _ hr1 (by omega)).mono ?_
      rintro e w2 ⟨⟨v, rfl⟩, hr2, ho2⟩
      replace hr2 := hr2.fw (w := w) (by simp)
      replace ho2 := ((Only.refl F w).alloc _).trans ho2
      rw [show [(t.taken, placedI t)] = x from hx.out.symm] at hr2
      obtain ⟨A2, e2, B2, d2, k0, k1, k2, k3, k4, k5, kz, ow2, _⟩ := hr2.cells
      have kf := kz 2
      have hX : (l ++ x).length = l.length + x.length := List.length_append
      obtain ⟨hle, hrd⟩ := rds_cut ow2
      rw [show (l ++ x).length - l.length = x.length by omega] at hrd
      have HRd := Lib.hid hrd
      have HNe := Lib.hid (rds_cut_ne hr2 k1)
      obtain ⟨n2, hn2⟩ : ∃ n2, n2 = (l ++ x).length := ⟨_, rfl⟩
      rw [← hn2] at k1 hle hX
      have hln : l.length ≤ n2 := by omega
      obtain ⟨A3, hA3⟩ : ∃ A3, A3 = (if e2 = l.length then A2 else A2.map (·.add (l.length * 2))) := ⟨_, rfl⟩
      rw [← hA3] at HRd HNe
      have h3 : (A2 = none ∧ A3 = none) ∨ (∃ ad, A2 = some ad ∧ A3 = some ad ∧ e2 = l.length) ∨ (∃ ad, A2 = some ad ∧ A3 = some (ad.add (l.length * 2)) ∧ ¬ e2 = l.length) := by
        rcases A2 with _ | ad
        · refine .inl ⟨rfl, by rw [hA3]; split <;> rfl⟩
        · by_cases he : e2 = l.length
          · exact .inr (.inl ⟨ad, rfl, by rw [hA3, if_pos he], he⟩)
          · exact .inr (.inr ⟨ad, rfl, by rw [hA3, if_neg he]; rfl, he⟩)
      have HR2 := Lib.hid hr2
      have HO2 := Lib.hid ho2
      clear hr2 ho2 ow2 hrd kz hn2 hA3
      rcases h3 with ⟨rfl, rfl⟩ | ⟨ad, rfl, rfl, he⟩ | ⟨ad, rfl, rfl, he⟩
      all_goals
        go_wp2_with (at_builtin; go_loud (refine Mm.wpList_append_any _ rfl (.tmp 110) (.tmp 116) _ rfl 0 48 i0 _ 2 16 Try.underlying28 hi0 hz0 hz1 hz2 rfl (by omega) (.slice none 0 0) 0 [] rfl (World.ownsRow_nil _ _ _ _) _ _ _ (slC x) rfl (rds_set HRd.out HNe.out _) (slC_one _) (by simp only [maxLen]; omega) (by omega) (Nat.zero_le _) ?_); intro v' w3 hown3 hon3 hat3)
        have HW := Lib.hid hown3
        have HN := Lib.hid hon3
        clear hown3 hon3 hat3
        go_wp2
        go_ret
        exact took_fin HR2.out HO2.out HW.out HN.out
set_option maxHeartbeats 1600000 in
theorem rtake_given (x : List Slot) (h : RT w F g t l s) (hd : t.done = false) (n0 : l.length ≤ t.N) (hN : t.N ≤ 1048576) (tk : t.taken ≤ 4398046511104) (tk0 : 0 ≤ t.taken) (hr : 0 ≤ r) (hr2 : r ≤ 127) (D : Nat) (hD : (D : Int) = (r - l.length) % 8) (hn : ¬ t.N - 1 ≤ (l.length : Int) + D) (h0 : ¬ D = 0) (hx : x = List.replicate (D + 1) (t.taken, 5)) :
    Calls Try.prog 15 #[P g, Pc a b r d] w (Took F g { t with taken := t.taken + 1 } l x s w) := by
  obtain ⟨A, c, B, d', c0, c1, c2, c3, c4, c5, fz, _, _⟩ := h.cells
  have f4 := fz 4
  have lt := h.lt
  have H := Lib.hid h
  rw [hd] at c4
  obtain ⟨i0, hi0, hz0, hz1, hz2⟩ := info_parts info48
  have hx1 : x.length ≤ 1048576 := by rw [hx, List.length_replicate]; omega
  replace h0 := Lib.hid h0
  have hD8 : D < 8 := by omega
  have hbr : (r == -1) = false := by rw [beq_eq_false_iff_ne]; omega
  replace hx := Lib.hid hx
  clear h hd
  go_enter Try.func15, Try.ntmps15
  go_wp2_with fail
  go_loopw [6] (fun v6 wr => ∃ k : Nat, v6 = .int .i64 k ∧ k ≤ D ∧ wr = (w.alloc (.cells #[.int .i64 a, .int .i64 b, .int .i8 r, .int .i64 d] 32))) (fun v6 _ => D - (intOf v6).toNat)
  case atStart => exact ⟨0, rfl, by omega, rfl⟩
  case round =>
    obtain ⟨k, rfl, hk, rfl⟩ := hrel
    have hw1 : IntKind.i64.wrap ((l.length : Int) + k) = (l.length : Int) + k := by rw [IntKind.wrap_i64]; omega
    have hw2 : IntKind.i64.wrap ((l.length : Int) + k - r) = (l.length : Int) + k - r := by rw [IntKind.wrap_i64]; omega
    by_cases hlt : k < D
    · have hne : (((l.length : Int) + k - r).tmod 8 != 0) = true := by rw [bne_iff_ne]; intro h0; have := Int.dvd_of_tmod_eq_zero h0; omega
      have hrg : -8 < ((l.length : Int) + k - r).tmod 8 ∧ ((l.length : Int) + k - r).tmod 8 < 8 := ⟨by have := Int.lt_tmod_of_pos ((l.length : Int) + k - r) (show (0 : Int) < 8 by decide); omega, Int.tmod_lt_of_pos _ (by decide)⟩
      have hw3 : IntKind.i64.wrap (((l.length : Int) + k - r).tmod 8) = ((l.length : Int) + k - r).tmod 8 := by rw [IntKind.wrap_i64]; omega
      clear hD
      go_wp2_with fail
      go_roundw
      case rel => exact ⟨k + 1, by go_num, by omega, by first | rfl | trivial⟩
      case measure => simp [intOf]; omega
    · obtain rfl : k = D := by omega
      have hz : ((l.length : Int) + k - r).tmod 8 = 0 := Int.tmod_eq_zero_of_dvd (by omega)
      have hne : (((l.length : Int) + k - r).tmod 8 != 0) = false := by rw [hz]; rfl
      replace hD := Lib.hid hD
      have hk0 : ((k : Int) == 0) = false := by rw [beq_eq_false_iff_ne]; have := h0.out; omega
      go_wp2_with fail
      have hr1 : RT (w.alloc (.cells #[.int .i64 a, .int .i64 b, .int .i8 r, .int .i64 d] 32)) F g t l s := H.out.only ((Only.refl No _).alloc _) (fun _ _ => id)
      refine (give_any F t l s _ _ g _ hr1 (by omega) (by omega) (by omega)).mono ?_
      rintro e w2 ⟨⟨v, rfl⟩, hr2, ho2⟩
      replace hr2 := hr2.fw (w := w) (by simp)
      replace ho2 := ((Only.refl F w).alloc _).trans ho2
      rw [show ((k : Int) + 1).toNat = k + 1 by omega, ← hx.out] at hr2
      obtain ⟨A2, e2, B2, d2, k0, k1, k2, k3, k4, k5, kz, ow2, _⟩ := hr2.cells
      have kf := kz 2
      have hX : (l ++ x).length = l.length + x.length := List.length_append
      obtain ⟨hle, hrd⟩ := rds_cut ow2
      rw [show (l ++ x).length - l.length = x.length by omega] at hrd
      have HRd := Lib.hid hrd
      have HNe := Lib.hid (rds_cut_ne hr2 k1)
      obtain ⟨n2, hn2⟩ : ∃ n2, n2 = (l ++ x).length := ⟨_, rfl⟩
      rw [← hn2] at k1 hle hX
      have hln : l.length ≤ n2 := by omega
      obtain ⟨A3, hA3⟩ : ∃ A3, A3 = (if e2 = l.length then A2 else A2.map (·.add (l.length * 2))) := ⟨_, rfl⟩
      rw [← hA3] at HRd HNe
      have h3 : (A2 = none ∧ A3 = none) ∨ (∃ ad, A2 = some ad ∧ A3 = some ad ∧ e2 = l.length) ∨ (∃ ad, A2 = some ad ∧ A3 = some (ad.add (l.length * 2)) ∧ ¬ e2 = l.length) := by
        rcases A2 with _ | ad
        · refine .inl ⟨rfl, by rw [hA3]; split <;> rfl⟩
        · by_cases he : e2 = l.length
          · exact .inr (.inl ⟨ad, rfl, by rw [hA3, if_pos he], he⟩)
          · exact .inr (.inr ⟨ad, rfl, by rw [hA3, if_neg he]; rfl, he⟩)
      have HR2 := Lib.hid hr2
      have HO2 := Lib.hid ho2
      clear hr2 ho2 ow2 hrd kz hn2 hA3
      rcases h3 with ⟨rfl, rfl⟩ | ⟨ad, rfl, rfl, he⟩ | ⟨ad, rfl, rfl, he⟩
      all_goals
        go_wp2_with (at_builtin; go_loud (refine Mm.wpList_append_any _ rfl (.tmp 110) (.tmp 116) _ rfl 0 48 i0 _ 2 16 Try.underlying28 hi0 hz0 hz1 hz2 rfl (by omega) (.slice none 0 0) 0 [] rfl (World.ownsRow_nil _ _ _ _) _ _ _ (slC x) rfl (rds_set HRd.out HNe.out _) (slC_one _) (by simp only [maxLen]; omega) (by omega) (Nat.zero_le _) ?_); intro v' w3 hown3 hon3 hat3)
        have HW := Lib.hid hown3
        have HN := Lib.hid hon3
        clear hown3 hon3 hat3
        go_wp2
        go_ret
        exact took_fin HR2.out HO2.out HW.out HN.out
end
end Go.Proofs.Ytdbidojncboalaa.Ct
