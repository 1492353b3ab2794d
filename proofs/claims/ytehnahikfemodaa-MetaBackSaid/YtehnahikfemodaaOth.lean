/- MetaOther's walk. -/
import Derived.Test.YtehnahikfemodaaAl
import Derived.Test.YtehnahikfemodaaAsk
import Derived.Test.YtehnahikfemodaaPick
import Derived.Test.YtehnahikfemodaaOther
namespace Go.Proofs.Ytehnahikfemodaa.Ct
open Go.ChangeShapes Go.WideShapes Go.RowKit Mm
def five (x : Ex) : Bool := x.1 == 224 || x.1 == 225 || x.1 == 226 || x.1 == 238 || x.1 == 254
def F5 (l : List Ex) : List Ex := l.filter five
theorem five_other (x : Ex) : five (otherC x.1, x.2) = false := by
  unfold five otherC
  by_cases h : x.1 = 224 ∨ x.1 = 225 ∨ x.1 = 226 ∨ x.1 = 238 ∨ x.1 = 254
  · rw [if_pos h]; rfl
  · rw [if_neg h]
    simp only [not_or] at h
    simp [h]
theorem isKind_code {c : Int} {p : ByteArray} {n : Int} {x : Ex} (h : isKind c p n x = true) : x.1 = c := by
  unfold isKind at h
  simp only [Bool.and_eq_true, beq_iff_eq] at h
  exact h.1.1
theorem find_F5 {q : Ex → Bool} (hq : ∀ x, q x = true → five x = true) (l : List Ex) : (F5 l).find? q = l.find? q := by
  unfold F5
  rw [List.find?_filter]
  congr 1
  funext x
  cases h : q x
  · simp
  · simp [hq x h]
theorem filter_F5 {q : Ex → Bool} (hq : ∀ x, q x = true → five x = true) (l : List Ex) : (F5 l).filter q = l.filter q := by
  unfold F5
  rw [List.filter_filter]
  congr 1
  funext x
  cases h : q x
  · simp
  · simp [hq x h]
theorem jfifOf_congr {a b : List Ex} (h : a.find? isJfif = b.find? isJfif) : jfifOf a = jfifOf b := by unfold jfifOf; rw [h]
theorem five_jfif (x : Ex) (h : isJfif x = true) : five x = true := by have := isKind_code h; simp [five, this]
theorem five_pc (x : Ex) (h : isPc x = true) : five x = true := by have := isKind_code h; simp [five, this]
theorem five_exif (x : Ex) (h : isExif x = true) : five x = true := by have := isKind_code h; simp [five, this]
theorem five_adobe (x : Ex) (h : isAdobe x = true) : five x = true := by
  unfold isAdobe at h
  simp only [Bool.and_eq_true] at h
  have := isKind_code h.1
  simp [five, this]
theorem answers_eq {a b : List Ex} (h : F5 a = F5 b) : jfifOf a = jfifOf b ∧ profR a = profR b ∧ adobeOf a = adobeOf b ∧ turnedOf a = turnedOf b ∧ cms a = cms b ∧ pcs a = pcs b := by
  have hp : pcs a = pcs b := by unfold pcs; rw [← filter_F5 five_pc a, h, filter_F5 five_pc]
  refine ⟨jfifOf_congr (by rw [← find_F5 five_jfif a, h, find_F5 five_jfif]), by unfold profR; rw [hp], ?_, ?_, ?_, hp⟩
  · unfold adobeOf; rw [← find_F5 five_adobe a, h, find_F5 five_adobe]
  · unfold turnedOf; rw [← find_F5 five_exif a, h, find_F5 five_exif]
  · unfold cms
    have hc : ∀ x : Ex, (x.1 == 254) = true → five x = true := fun x hx => by simp [five, hx]
    rw [← filter_F5 hc a, h, filter_F5 hc]
theorem F5_append (a b : List Ex) : F5 (a ++ b) = F5 a ++ F5 b := List.filter_append ..
theorem F5_put (L : List Ex) (k : Nat) (x : Ex) : F5 (L.take k ++ [(otherC x.1, x.2)] ++ L.drop k) = F5 L := by
  rw [F5_append, F5_append]
  have e : F5 [(otherC x.1, x.2)] = [] := by unfold F5; simp [five_other x]
  rw [e, List.append_nil, ← F5_append, List.take_append_drop]
theorem elem22 : Try.prog.elem 22 = 36 := by kernel_rfl
theorem own_cap {w : World} {b : Nat} {e : TypeId} {size n c : Nat} {A : Option Addr} {xs : List Value} (h : w.ownsRow b e size (.slice A n c) n xs) : n ≤ c := by
  rcases h.2 with ⟨h1, h2⟩ | ⟨g, cap, cur, h1, _, _, hnc, _⟩
  · omega
  · injection h1 with _ _ h3
    omega
theorem pre_run (A : Option Addr) (n c k : Nat) (hk : k ≤ c) (W : World) : (Instr.slice 22 (.slice A n c) none (some (.int .i64 (k : Int))) none).run Try.prog W = .ok (.slice A k c) W := by
  have h := run_slice_h (P := Try.prog) W 22 A n c (by rw [elem22]; exact Try.underlying22) .i64 (k : Int) (by omega) (by omega)
  rw [h, elem22]
  have hs : (sizeOf 36).run Try.prog W = .ok 2 W := by kernel_rfl
  rw [hs]
  have e : A.map (·.add (0 * 2)) = A := by cases A <;> rfl
  simp only [Result.andThen, sliced, e, ite_self, Nat.sub_zero, Int.toNat_natCast]
theorem suf_run (A : Option Addr) (n c k : Nat) (hk : k ≤ n) (W : World) : (Instr.slice 22 (.slice A n c) (some (.int .i64 (k : Int))) none none).run Try.prog W = .ok (.slice (if c = k then A else A.map (·.add (k * 2))) (n - k) (c - k)) W := by
  have h := run_slice_l (P := Try.prog) W 22 A n c (by rw [elem22]; exact Try.underlying22) .i64 (k : Int) (by omega) (by omega)
  rw [h, elem22]
  have hs : (sizeOf 36).run Try.prog W = .ok 2 W := by kernel_rfl
  rw [hs]
  simp only [Result.andThen, sliced, Int.toNat_natCast]
theorem rds_pre {w : World} {A : Option Addr} {n k : Nat} {L : List Ex} (h : Rds w 2 A n (exC L)) (hL : L.length = n) (hk : k ≤ n) : Rds w 2 A k (exC (L.take k)) := by
  refine ⟨by rw [exC_len, List.length_take]; omega, fun h0 => ?_⟩
  obtain ⟨ad, e, hb, hc⟩ := h.2 (by omega)
  refine ⟨ad, e, hb, fun j u hu => hc j u ?_⟩
  have e2 : exC L = exC (L.take k) ++ exC (L.drop k) := by rw [← exC_append, List.take_append_drop]
  rw [e2, List.getElem?_append_left (List.getElem?_eq_some_iff.1 hu).1]
  exact hu
theorem rds_suf {w : World} {A : Option Addr} {n c k : Nat} {L : List Ex} (h : Rds w 2 A n (exC L)) (hL : L.length = n) (hk : k ≤ n) (hc : n ≤ c) : Rds w 2 (if c = k then A else A.map (·.add (k * 2))) (n - k) (exC (L.drop k)) := by
  refine ⟨by rw [exC_len, List.length_drop]; omega, fun h0 => ?_⟩
  obtain ⟨ad, rfl, hb, hcc⟩ := h.2 (by omega)
  rw [if_neg (by omega)]
  refine ⟨ad.add (k * 2), rfl, by rw [Mm.block_add]; exact hb, fun j u hu => ?_⟩
  rw [Mm.add_add]
  refine hcc _ u ?_
  have e2 : exC L = exC (L.take k) ++ exC (L.drop k) := by rw [← exC_append, List.take_append_drop]
  rw [e2, List.getElem?_append_right (by rw [exC_len, List.length_take]; omega), exC_len, List.length_take, Nat.min_eq_left (by omega), Nat.add_sub_cancel_left]
  exact hu
theorem len_put (L : List Ex) (k : Nat) (x : Ex) : (L.take k ++ [x] ++ L.drop k).length = L.length + 1 := by
  simp only [List.length_append, List.length_take, List.length_drop, List.length_cons, List.length_nil]
  omega
/-- what holds ahead of round i -/
def OtI (l : List Ex) (m i : Nat) (w : World) (v : Value) (L : List Ex) (wr : World) : Prop := wr.ownsRow w.heap.size 36 2 v (m + i) (exC L) ∧ L.length = m + i ∧ F5 L = F5 l ∧ Only No w wr
set_option maxRecDepth 100000 in
set_option maxHeartbeats 12800000 in
theorem other_law (A B D : Option Addr) (m mb mp c cb cp : Nat) (l bt : List Ex) (ps : List Int) (w : World) (hr : Rds w 2 A m (exC l)) (hl : l.length = m) (hrb : Rds w 2 B mb (exC bt)) (hlb : bt.length = mb) (hrp : Rds w 1 D mp (ps.map (Value.int .i64))) (hlp : ps.length = mp)
    (hm : m ≤ 1048576) (hmb : mb ≤ 1048576) (hmp : mp ≤ 1048576) (hz : szl l ≤ 1048576) (hzl : ∀ x ∈ bt, x.2.size ≤ 9223372036854775807) :
    Calls Try.prog 9 #[.slice A m c, .slice B mb cb, .slice D mp cp] w (fun e w' => e = .returned (.bool true) ∧ Below w.heap.size w w') := by
  obtain ⟨i0, hi0, hz0, hz1, hz2⟩ := info_parts info36
  have HR := Lib.hid hr
  have HL := Lib.hid hl
  have HZ := Lib.hid hz
  have HRB := Lib.hid hrb
  have HLB := Lib.hid hlb
  have HRP := Lib.hid hrp
  have HLP := Lib.hid hlp
  have HZB := Lib.hid hzl
  clear hr hl hz hrb hlb hrp hlp hzl
  go_enter Try.func9, Try.ntmps9
  go_wp2_with fail
  refine (alive21 w).mono ?_
  rintro e w1 ⟨rfl, o1⟩
  replace o1 := Lib.hid o1
  go_wp2_with (at_builtin; go_loud (refine Mm.wpList_append_any _ rfl (.tmp 25) (.tmp 26) _ rfl w.heap.size 36 i0 _ 2 24 Try.underlying22 hi0 hz0 hz1 hz2 rfl (by omega) (.slice none 0 0) 0 [] rfl (World.ownsRow_nil _ _ _ _) A m c (exC l) rfl (HR.out.no o1.out) (exC_one _) (by simp only [maxLen]; omega) (by omega) o1.out.size ?_); intro v8 w2 hown2 hon2 hat2)
  have h0 : Hid (OtI l m 0 w v8 l w2) := Lib.hid ⟨by simpa using hown2, HL.out, rfl, o1.out.trans (hon2.mono fun _ h => by simp [Value.ownBlock] at h)⟩
  clear hown2 hon2 hat2
  go_loopw [8, 9, 10, 11] (fun v8 v9 _ _ wr => ∃ (i : Nat) (L : List Ex), v9 = .int .i64 i ∧ i ≤ mb ∧ Hid (OtI l m i w v8 L wr)) (fun _ v9 _ _ _ => mb - (intOf v9).toNat)
  case atStart => exact ⟨0, l, rfl, by omega, h0⟩
  case round =>
    obtain ⟨i, L, rfl, hi, hI⟩ := hrel
    by_cases hlt : i < mb
    · have hlt' : (i : Int) < mb := by omega
      obtain ⟨A8, c8, rfl⟩ := own_slice hI.out.1
      obtain ⟨n, hn⟩ : ∃ n, n = m + i := ⟨_, rfl⟩
      rw [← hn]
      have hnb : n < 2097152 := by omega
      have hrow : Hid (wr.ownsRow w.heap.size 36 2 (.slice A8 n c8) n (exC L)) := Lib.hid (by rw [hn]; exact hI.out.1)
      have hLn : Hid (L.length = n) := Lib.hid (by rw [hn]; exact hI.out.2.1)
      have hcap : Hid (n ≤ c8) := Lib.hid (own_cap hrow.out)
      have oI : Hid (Only No w wr) := Lib.hid hI.out.2.2.2
      have hL8 : Hid (∀ b, (Value.slice A8 n c8).ownBlock = some b → b < wr.heap.size) := Lib.hid (own_lt hrow.out)
      replace hn := Lib.hid hn
      obtain ⟨adb, rfl, p0, p1, pb⟩ := ex_cells (HRB.out.no oI.out) HLB.out i hlt
      obtain ⟨u, hu⟩ : ∃ u, Hid (u = bt[i]'(by rw [HLB.out]; exact hlt)) := ⟨_, Lib.hid rfl⟩
      rw [← hu.out] at p0 p1
      by_cases hput : i < mp
      · have hput' : (i : Int) < mp := by omega
        obtain ⟨adp, rfl, _, hcp⟩ := (HRP.out.no oI.out).2 (by omega)
        obtain ⟨z, hzz⟩ : ∃ z, Hid (z = ps[i]'(by rw [HLP.out]; exact hput)) := ⟨_, Lib.hid rfl⟩
        have pz : wr.cell? (adp.add i) = some (.int .i64 z) := hcp i _ (by rw [List.getElem?_map, List.getElem?_eq_getElem (by rw [HLP.out]; exact hput), hzz.out]; rfl)
        clear hcp
        go_wp2_with fail
        refine (place_any z n wr (by omega) (by omega)).mono ?_
        rintro e w3 ⟨rfl, rfl⟩
        obtain ⟨k, hk⟩ : ∃ k : Nat, (k : Int) = z % ((n : Int) + 1) := ⟨(z % ((n : Int) + 1)).toNat, by have := Int.emod_nonneg z (show (n : Int) + 1 ≠ 0 by omega); omega⟩
        have hkn : k ≤ n := by have := Int.emod_lt_of_pos z (show (0 : Int) < (n : Int) + 1 by omega); omega
        rw [← hk]
        replace hk := Lib.hid hk
        clear pz
        have hpre := pre_run A8 n c8 k (by have := hcap.out; omega)
        have hsuf := suf_run A8 n c8 k (by omega)
        obtain ⟨S8, hS8⟩ : ∃ S, Hid (S = if c8 = k then A8 else A8.map (·.add (k * 2))) := ⟨_, Lib.hid rfl⟩
        rw [← hS8.out] at hsuf
        have hRp : Hid (Rds wr 2 A8 k (exC (L.take k))) := Lib.hid (rds_pre (Rds.of_own hrow.out) hLn.out (by omega))
        have hRs : Hid (Rds wr 2 S8 (n - k) (exC (L.drop k))) := Lib.hid (by rw [hS8.out]; exact rds_suf (Rds.of_own hrow.out) hLn.out (by omega) hcap.out)
        have hfarS : Hid (0 < n - k → Far (fun b => wr.heap.size ≤ b) S8) := Lib.hid (fun h1 ad he hb => by
          obtain ⟨gg, cc, he2, _⟩ := own_some hrow.out (by omega)
          injection he2 with he2
          have h3 := hL8.out gg (by rw [he2]; rfl)
          rw [hS8.out, he2] at he
          have h2 : wr.heap.size ≤ ad.block := hb
          split at he
          · injection he with he; rw [← he] at h2; simp at h2; omega
          · simp only [Option.map_some, Option.some.injEq] at he
            rw [← he, Mm.block_add] at h2
            simp at h2; omega)
        go_wp2_with (at_builtin
                     refine Mm.wpList_append_any _ rfl (.tmp 45) (.tmp 48) _ rfl wr.heap.size 36 i0 _ 2 24 Try.underlying22 hi0 hz0 hz1 hz2 rfl (by omega) (.slice none 0 0) 0 [] rfl (World.ownsRow_nil _ _ _ _) A8 k c8 (exC (L.take k)) rfl hRp.out (exC_one _) (by simp only [maxLen]; omega) (by omega) (Nat.le_refl _) ?_
                     intro v11 w4 hown4 hon4 hat4
                     have hown11 : Hid (w4.ownsRow wr.heap.size 36 2 v11 k (exC (L.take k))) := Lib.hid (by simpa using hown4)
                     have o4 : Hid (Only No wr w4) := Lib.hid (hon4.mono fun _ h => by simp [Value.ownBlock] at h)
                     obtain ⟨ad2, e2, r0, r1, rb⟩ := ex_cells (HRB.out.no (oI.out.trans o4.out)) HLB.out i hlt
                     obtain rfl := Option.some.inj e2
                     rw [← hu.out] at r0 r1
                     clear hown4 hon4 hat4 e2)
        refine (other_any u w4).mono ?_
        rintro e w5 ⟨rfl, o5⟩
        have hown12 := Lib.hid (own_only hown11.out o5 (fun _ _ => id))
        have q5 := Lib.hid (o4.out.trans o5)
        clear o5 hown11 r0 r1
        go_wp2_with (first
          | (at_builtin
             refine Mm.wpList_append_any _ rfl (.tmp 50) (.tmp 56) _ rfl wr.heap.size 36 i0 _ 2 24 Try.underlying22 hi0 hz0 hz1 hz2 rfl (by omega) v11 k (exC (L.take k)) rfl (hown12.out.alloc _) (some ⟨w5.heap.size, 0, none⟩) 1 1 [.int .u8 (otherC u.1), .string u.2] rfl (Rds.fresh (Blk.new _ _ _) rfl) (by simp [Value.oneCell']) (by simp only [maxLen]; omega) (by omega) (by have := q5.out.size; simp; omega) ?_
             intro v13 w6 hown6 hon6 hat6
             have hown13 : Hid (w6.ownsRow wr.heap.size 36 2 v13 (k + 1) (exC (L.take k ++ [(otherC u.1, u.2)]))) := Lib.hid (by rw [exC_append]; exact hown6)
             have o6 : Hid (Only (fun b => wr.heap.size ≤ b) wr w6) := Lib.hid (((q5.out.alloc _).mono (fun _ h => h.elim)).then hon6 (fun b hb => .inl (own_ge hown12.out b hb)))
             have hRs6 : Hid (Rds w6 2 S8 (n - k) (exC (L.drop k))) := Lib.hid (hRs.out.only o6.out hfarS.out)
             clear hown6 hon6 hat6)
          | (at_builtin
             refine Mm.wpList_append_any _ rfl (.tmp 58) (.tmp 61) _ rfl wr.heap.size 36 i0 _ 2 24 Try.underlying22 hi0 hz0 hz1 hz2 rfl (by omega) v13 (k + 1) (exC (L.take k ++ [(otherC u.1, u.2)])) rfl hown13.out S8 (n - k) (c8 - k) (exC (L.drop k)) rfl hRs6.out (exC_one _) (by simp only [maxLen]; omega) (by omega) o6.out.size ?_
             intro v14 w7 hown7 hon7 hat7
             have hnew : Hid (OtI l m (i + 1) w v14 (L.take k ++ [(otherC u.1, u.2)] ++ L.drop k) w7) := Lib.hid (by
               have hsz := oI.out.size
               refine ⟨?_, by rw [len_put, hLn.out, hn.out]; omega, by rw [F5_put]; exact hI.out.2.2.1, ?_⟩
               · rw [exC_append, show m + (i + 1) = k + 1 + (n - k) from by have := hn.out; omega]
                 exact own_base hown7 (fun b hb => by
                   rcases hat7 with h1 | h1
                   · rw [h1] at hb; have := own_ge hown13.out b hb; omega
                   · rw [h1] at hb; injection hb with hb; have := o6.out.size; omega)
               · exact (oI.out.then o6.out (fun b hb => .inr (by have h2 : wr.heap.size ≤ b := hb; omega))).then hon7 (fun b hb => .inr (by have := own_ge hown13.out b hb; omega)))
             clear hown7 hon7 hat7))
        go_roundw
        case rel => exact ⟨i + 1, _, by go_num, by omega, hnew⟩
        case measure => simp [intOf]; omega
      · have hput' : ¬ (i : Int) < mp := by omega
        have hpre := pre_run A8 n c8 0 (by have := hcap.out; omega)
        have hsuf := suf_run A8 n c8 0 (by omega)
        rw [show ((0 : Nat) : Int) = 0 from rfl] at hpre hsuf
        obtain ⟨S8, hS8⟩ : ∃ S, Hid (S = if c8 = 0 then A8 else A8.map (·.add (0 * 2))) := ⟨_, Lib.hid rfl⟩
        rw [← hS8.out] at hsuf
        have hRp : Hid (Rds wr 2 A8 0 (exC (L.take 0))) := Lib.hid (rds_pre (Rds.of_own hrow.out) hLn.out (by omega))
        have hRs : Hid (Rds wr 2 S8 (n - 0) (exC (L.drop 0))) := Lib.hid (by rw [hS8.out]; exact rds_suf (Rds.of_own hrow.out) hLn.out (by omega) hcap.out)
        have hfarS : Hid (0 < n - 0 → Far (fun b => wr.heap.size ≤ b) S8) := Lib.hid (fun h1 ad he hb => by
          obtain ⟨gg, cc, he2, _⟩ := own_some hrow.out (by omega)
          injection he2 with he2
          have h3 := hL8.out gg (by rw [he2]; rfl)
          rw [hS8.out, he2] at he
          have h2 : wr.heap.size ≤ ad.block := hb
          split at he
          · injection he with he; rw [← he] at h2; simp at h2; omega
          · simp only [Option.map_some, Option.some.injEq] at he
            rw [← he, Mm.block_add] at h2
            simp at h2; omega)
        go_wp2_with (at_builtin
                     refine Mm.wpList_append_any _ rfl (.tmp 45) (.tmp 48) _ rfl wr.heap.size 36 i0 _ 2 24 Try.underlying22 hi0 hz0 hz1 hz2 rfl (by omega) (.slice none 0 0) 0 [] rfl (World.ownsRow_nil _ _ _ _) A8 0 c8 (exC (L.take 0)) rfl hRp.out (exC_one _) (by simp only [maxLen]; omega) (by omega) (Nat.le_refl _) ?_
                     intro v11 w4 hown4 hon4 hat4
                     have hown11 : Hid (w4.ownsRow wr.heap.size 36 2 v11 0 (exC (L.take 0))) := Lib.hid (by simpa using hown4)
                     have o4 : Hid (Only No wr w4) := Lib.hid (hon4.mono fun _ h => by simp [Value.ownBlock] at h)
                     obtain ⟨ad2, e2, r0, r1, rb⟩ := ex_cells (HRB.out.no (oI.out.trans o4.out)) HLB.out i hlt
                     obtain rfl := Option.some.inj e2
                     rw [← hu.out] at r0 r1
                     clear hown4 hon4 hat4 e2)
        refine (other_any u w4).mono ?_
        rintro e w5 ⟨rfl, o5⟩
        have hown12 := Lib.hid (own_only hown11.out o5 (fun _ _ => id))
        have q5 := Lib.hid (o4.out.trans o5)
        clear o5 hown11 r0 r1
        go_wp2_with (first
          | (at_builtin
             refine Mm.wpList_append_any _ rfl (.tmp 50) (.tmp 56) _ rfl wr.heap.size 36 i0 _ 2 24 Try.underlying22 hi0 hz0 hz1 hz2 rfl (by omega) v11 0 (exC (L.take 0)) rfl (hown12.out.alloc _) (some ⟨w5.heap.size, 0, none⟩) 1 1 [.int .u8 (otherC u.1), .string u.2] rfl (Rds.fresh (Blk.new _ _ _) rfl) (by simp [Value.oneCell']) (by simp only [maxLen]; omega) (by omega) (by have := q5.out.size; simp; omega) ?_
             intro v13 w6 hown6 hon6 hat6
             have hown13 : Hid (w6.ownsRow wr.heap.size 36 2 v13 (0 + 1) (exC (L.take 0 ++ [(otherC u.1, u.2)]))) := Lib.hid (by rw [exC_append]; exact hown6)
             have o6 : Hid (Only (fun b => wr.heap.size ≤ b) wr w6) := Lib.hid (((q5.out.alloc _).mono (fun _ h => h.elim)).then hon6 (fun b hb => .inl (own_ge hown12.out b hb)))
             have hRs6 : Hid (Rds w6 2 S8 (n - 0) (exC (L.drop 0))) := Lib.hid (hRs.out.only o6.out hfarS.out)
             clear hown6 hon6 hat6)
          | (at_builtin
             refine Mm.wpList_append_any _ rfl (.tmp 58) (.tmp 61) _ rfl wr.heap.size 36 i0 _ 2 24 Try.underlying22 hi0 hz0 hz1 hz2 rfl (by omega) v13 (0 + 1) (exC (L.take 0 ++ [(otherC u.1, u.2)])) rfl hown13.out S8 (n - 0) (c8 - 0) (exC (L.drop 0)) rfl hRs6.out (exC_one _) (by simp only [maxLen]; omega) (by omega) o6.out.size ?_
             intro v14 w7 hown7 hon7 hat7
             have hnew : Hid (OtI l m (i + 1) w v14 (L.take 0 ++ [(otherC u.1, u.2)] ++ L.drop 0) w7) := Lib.hid (by
               have hsz := oI.out.size
               refine ⟨?_, by rw [len_put, hLn.out, hn.out]; omega, by rw [F5_put]; exact hI.out.2.2.1, ?_⟩
               · rw [exC_append, show m + (i + 1) = 0 + 1 + (n - 0) from by have := hn.out; omega]
                 exact own_base hown7 (fun b hb => by
                   rcases hat7 with h1 | h1
                   · rw [h1] at hb; have := own_ge hown13.out b hb; omega
                   · rw [h1] at hb; injection hb with hb; have := o6.out.size; omega)
               · exact (oI.out.then o6.out (fun b hb => .inr (by have h2 : wr.heap.size ≤ b := hb; omega))).then hon7 (fun b hb => .inr (by have := own_ge hown13.out b hb; omega)))
             clear hown7 hon7 hat7))
        go_roundw
        case rel => exact ⟨i + 1, _, by go_num, by omega, hnew⟩
        case measure => simp [intOf]; omega
    · have hlt' : ¬ (i : Int) < mb := by omega
      obtain rfl : i = mb := by omega
      obtain ⟨A8, c8, rfl⟩ := own_slice hI.out.1
      obtain ⟨n, hn⟩ : ∃ n, n = m + i := ⟨_, rfl⟩
      rw [← hn]
      have hnb : n < 2097153 := by omega
      have hrow : Hid (wr.ownsRow w.heap.size 36 2 (.slice A8 n c8) n (exC L)) := Lib.hid (by rw [hn]; exact hI.out.1)
      have hLn : Hid (L.length = n) := Lib.hid (by rw [hn]; exact hI.out.2.1)
      have oI : Hid (Only No w wr) := Lib.hid hI.out.2.2.2
      have hans := answers_eq hI.out.2.2.1
      obtain ⟨a1, a2, a3, a4, a5, a6⟩ := hans
      have b1 := Lib.hid a1
      have b2 := Lib.hid a2
      have b3 := Lib.hid a3
      have b4 := Lib.hid a4
      have b5 := Lib.hid a5
      have b6 := Lib.hid a6
      have hS1 : Hid (Pf.szs tt (pcs l) ≤ 140737488351232) := Lib.hid (by have h1 := szs_pcs l; have h2 := HZ.out; omega)
      have hS2 : Hid (Pf.szs tt (pcs L) ≤ 140737488351232) := Lib.hid (by rw [b6.out]; exact hS1.out)
      have hE1 : Hid (∀ x, l.find? isExif = some x → x.2.size ≤ 9223372036854775807) := Lib.hid (fun x hx => by have h1 := szl_mem (List.mem_of_find?_eq_some hx); have h2 := HZ.out; omega)
      have hE2 : Hid (∀ x, L.find? isExif = some x → x.2.size ≤ 9223372036854775807) := Lib.hid (fun x hx => hE1.out x (by rw [← find_F5 five_exif, hI.out.2.2.1, find_F5 five_exif] at hx; exact hx))
      obtain ⟨M, mi, U, X, Y, hJ⟩ := jfif_form l
      replace hJ := Lib.hid hJ
      obtain ⟨jb, hjb⟩ : ∃ jb, Hid (jb = (jfifOf l).2) := ⟨_, Lib.hid rfl⟩
      obtain ⟨qs, hqs⟩ : ∃ qs, Hid (qs = (profR l).1) := ⟨_, Lib.hid rfl⟩
      obtain ⟨qe, hqe⟩ : ∃ qe, Hid (qe = (profR l).2) := ⟨_, Lib.hid rfl⟩
      clear a1 a2 a3 a4 a5 a6 hI
      replace hn := Lib.hid hn
      go_wp2_with (at_builtin
                   refine Mm.wpList_append_any _ rfl (.tmp 63) (.tmp 64) _ rfl wr.heap.size 36 i0 _ 2 24 Try.underlying22 hi0 hz0 hz1 hz2 rfl (by omega) (.slice none 0 0) 0 [] rfl (World.ownsRow_nil _ _ _ _) A m c (exC l) rfl (HR.out.no oI.out) (exC_one _) (by simp only [maxLen]; omega) (by omega) (Nat.le_refl _) ?_
                   intro v12 w2 hown2 hon2 hat2
                   have hown12 : Hid (w2.ownsRow wr.heap.size 36 2 v12 m (exC l)) := Lib.hid (by simpa using hown2)
                   have o2 : Hid (Only No wr w2) := Lib.hid (hon2.mono fun _ h => by simp [Value.ownBlock] at h)
                   obtain ⟨A12, c12, rfl⟩ := own_slice hown12.out
                   have hRl : Hid (Rds w2 2 A12 m (exC l)) := Lib.hid (Rds.of_own hown12.out)
                   have hRL : Hid (Rds w2 2 A8 n (exC L)) := Lib.hid ((Rds.of_own hrow.out).no o2.out)
                   clear hown2 hon2 hat2)
      refine (jfifw_any A12 m c12 l w2 hRl.out HL.out (by omega)).mono ?_
      rintro e w3 ⟨rfl, o3⟩
      rw [hJ.out, ← hjb.out]
      replace o3 := Lib.hid o3
      go_wp2_with fail
      have q3 : Hid (Only No w2 (w3.alloc (.cells (dnC M mi U X Y) 30))) := Lib.hid (o3.out.alloc _)
      have bx3 : Hid (Blk (w3.alloc (.cells (dnC M mi U X Y) 30)) w3.heap.size 30 (dnC M mi U X Y)) := Lib.hid (Blk.new _ _ _)
      refine (jfifw_any A8 n c8 L _ (hRL.out.no q3.out) hLn.out (by omega)).mono ?_
      rintro e w4 ⟨rfl, o4⟩
      rw [b1.out, hJ.out, ← hjb.out]
      have bx4 := Lib.hid (bx3.out.only o4 id)
      have q4 := Lib.hid (q3.out.trans o4)
      clear bx3 q3 o3 o4
      go_wp2_with fail
      have q5 := Lib.hid (q4.out.alloc (.cells (dnC M mi U X Y) 30))
      have bx5 := Lib.hid (bx4.out.alloc (.cells (dnC M mi U X Y) 30))
      have by5 : Hid (Blk (w4.alloc (.cells (dnC M mi U X Y) 30)) w4.heap.size 30 (dnC M mi U X Y)) := Lib.hid (Blk.new _ _ _)
      refine (prof27s A12 m c12 l _ (hRl.out.no q5.out) HL.out (by omega) hS1.out).mono ?_
      rintro e w5 ⟨rfl, o5⟩
      rw [← hqs.out, ← hqe.out]
      have q6 := Lib.hid (q5.out.trans o5)
      have bx6 := Lib.hid (bx5.out.only o5 id)
      have by6 := Lib.hid (by5.out.only o5 id)
      clear bx5 by5 q5 o5 bx4 q4
      go_wp2_with fail
      refine (prof27s A8 n c8 L _ (hRL.out.no q6.out) hLn.out (by omega) hS2.out).mono ?_
      rintro e w6 ⟨rfl, o6⟩
      rw [b2.out, ← hqs.out, ← hqe.out]
      have q7 := Lib.hid (q6.out.trans o6)
      have bx7 := Lib.hid (bx6.out.only o6 id)
      have by7 := Lib.hid (by6.out.only o6 id)
      clear bx6 by6 q6 o6
      go_wp2_with fail
      refine (comm_any A12 m c12 l _ (hRl.out.no q7.out) HL.out (by omega)).mono ?_
      rintro e w7 ⟨v21, rfl, h21, o7⟩
      obtain ⟨A21, c21, rfl⟩ := own_slice h21
      replace h21 := Lib.hid h21
      have q8 := Lib.hid (q7.out.trans o7)
      have bx8 := Lib.hid (bx7.out.only o7 id)
      have by8 := Lib.hid (by7.out.only o7 id)
      clear bx7 by7 q7 o7
      go_wp2_with fail
      refine (comm_any A8 n c8 L _ (hRL.out.no q8.out) hLn.out (by omega)).mono ?_
      rintro e w8 ⟨v22, rfl, h22, o8⟩
      rw [b5.out] at h22
      obtain ⟨A22, c22, rfl⟩ := own_slice h22
      have h21b := Lib.hid (own_only h21.out o8 (fun _ _ => id))
      replace h22 := Lib.hid h22
      have q9 := Lib.hid (q8.out.trans o8)
      have bx9 := Lib.hid (bx8.out.only o8 id)
      have by9 := Lib.hid (by8.out.only o8 id)
      have hcl : (cms l).length ≤ m := by rw [← HL.out]; exact cms_le l
      clear bx8 by8 q8 o8 h21
      have c0 : w8.cell? ⟨w3.heap.size, 0, none⟩ = some (.int .u8 M) := bx9.out.cell 0
      have c1 : w8.cell? ⟨w3.heap.size, 1, none⟩ = some (.int .u8 mi) := bx9.out.cell 1
      have c2 : w8.cell? ⟨w3.heap.size, 2, none⟩ = some (.int .u8 U) := bx9.out.cell 2
      have c3 : w8.cell? ⟨w3.heap.size, 3, none⟩ = some (.int .i64 X) := bx9.out.cell 3
      have c4 : w8.cell? ⟨w3.heap.size, 4, none⟩ = some (.int .i64 Y) := bx9.out.cell 4
      have d0 : w8.cell? ⟨w4.heap.size, 0, none⟩ = some (.int .u8 M) := by9.out.cell 0
      have d1 : w8.cell? ⟨w4.heap.size, 1, none⟩ = some (.int .u8 mi) := by9.out.cell 1
      have d2 : w8.cell? ⟨w4.heap.size, 2, none⟩ = some (.int .u8 U) := by9.out.cell 2
      have d3 : w8.cell? ⟨w4.heap.size, 3, none⟩ = some (.int .i64 X) := by9.out.cell 3
      have d4 : w8.cell? ⟨w4.heap.size, 4, none⟩ = some (.int .i64 Y) := by9.out.cell 4
      go_wp2_with fail
      refine (adobe_any A12 m c12 l _ (hRl.out.no q9.out) HL.out (by omega)).mono ?_
      rintro e w9 ⟨rfl, o9⟩
      have q10 := Lib.hid (q9.out.trans o9)
      clear c0 c1 c2 c3 c4 d0 d1 d2 d3 d4 bx9 by9
      replace o9 := Lib.hid o9
      go_wp2_with fail
      refine (adobe_any A8 n c8 L _ (hRL.out.no q10.out) hLn.out (by omega)).mono ?_
      rintro e w10 ⟨rfl, o10⟩
      rw [b3.out]
      have q11 := Lib.hid (q10.out.trans o10)
      replace o10 := Lib.hid o10
      go_wp2_with fail
      refine (turned24s A12 m c12 l _ (hRl.out.no q11.out) HL.out (by omega) hE1.out).mono ?_
      rintro e w11 ⟨rfl, o11⟩
      have q12 := Lib.hid (q11.out.trans o11)
      replace o11 := Lib.hid o11
      go_wp2_with fail
      refine (turned24s A8 n c8 L _ (hRL.out.no q12.out) hLn.out (by omega) hE2.out).mono ?_
      rintro e w12 ⟨rfl, o12⟩
      rw [b4.out]
      have q13 := Lib.hid (q12.out.trans o12)
      have qq : Hid (Only No w8 w12) := Lib.hid (((o9.out.trans o10.out).trans o11.out).trans o12)
      have hA21 : Hid (Rds w12 1 A21 (cms l).length (stC (cms l))) := Lib.hid ((Rds.of_own h21b.out).no qq.out)
      have hA22 : Hid (Rds w12 1 A22 (cms l).length (stC (cms l))) := Lib.hid ((Rds.of_own h22.out).no qq.out)
      have oW : Hid (Only No w w12) := Lib.hid ((oI.out.trans o2.out).trans q13.out)
      obtain ⟨K, hK⟩ : ∃ K, Hid (K = (cms l).length) := ⟨_, Lib.hid rfl⟩
      rw [← hK.out] at hcl hA21 hA22 ⊢
      clear o12 o9 o10 o11 q9 q10 q11 q12
      go_wp2_with fail
      go_loopw [23] (fun v23 wr2 => ∃ j : Nat, v23 = .int .i64 j ∧ j ≤ K ∧ Hid (Only No w12 wr2)) (fun v23 _ => K - (intOf v23).toNat)
      case atStart => exact ⟨0, rfl, by omega, Lib.hid (Only.refl _ _)⟩
      case round =>
        obtain ⟨j, rfl, hj, hO⟩ := hrel
        by_cases hlt2 : j < K
        · have hlt2' : (j : Int) < K := by omega
          obtain ⟨ad, rfl, x0⟩ := st_cell (hA21.out.no hO.out) hK.out.symm j hlt2
          obtain ⟨ad2, rfl, y0⟩ := st_cell (hA22.out.no hO.out) hK.out.symm j hlt2
          generalize (cms l)[j]'(by rw [← hK.out]; exact hlt2) = u at x0 y0
          go_wp2_with fail
          go_quiet (fail)
          go_wp2
          go_roundw
          case rel => exact ⟨j + 1, by go_num, by omega, Lib.hid (by first | exact hO.out | exact hO.out.drewN _)⟩
          case measure => simp [intOf]; omega
        · have hlt2' : ¬ (j : Int) < K := by omega
          go_wp2
          go_ret
          exact ⟨rfl, (oW.out.trans hO.out).below_no⟩
end Go.Proofs.Ytehnahikfemodaa.Ct
