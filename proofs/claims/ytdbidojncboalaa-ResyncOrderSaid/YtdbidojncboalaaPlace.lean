/- The contract of Place. -/
import Derived.Test.YtdbidojncboalaaTake
namespace Go.Proofs.Ytdbidojncboalaa.Ct
open Go.ChangeShapes Go.WideShapes Go.RowKit Mm Rs

structure Piece where
  a : Int
  b : Int
  r : Int
  d : Int
def pcC (ps : List Piece) : List Value := ps.flatMap fun p => [.int .i64 p.a, .int .i64 p.b, .int .i8 p.r, .int .i64 p.d]
def inC (l : List Int) : List Value := l.map (Value.int .i64)
theorem pcC_get (ps : List Piece) (k : Nat) (h : k < ps.length) :
    (pcC ps)[k * 4]? = some (.int .i64 ps[k].a) ∧ (pcC ps)[k * 4 + 1]? = some (.int .i64 ps[k].b) ∧ (pcC ps)[k * 4 + 2]? = some (.int .i8 ps[k].r) ∧ (pcC ps)[k * 4 + 3]? = some (.int .i64 ps[k].d) := by
  induction ps generalizing k with
  | nil => simp at h
  | cons p ps ih =>
    cases k with
    | zero => simp [pcC]
    | succ k =>
      have := ih k (by simpa using h)
      simp only [pcC, List.flatMap_cons] at this ⊢
      simp only [List.getElem_cons_succ]
      refine ⟨?_, ?_, ?_, ?_⟩
      · rw [List.getElem?_append_right (by simp; omega)]; simpa [Nat.add_mul] using this.1
      · rw [List.getElem?_append_right (by simp; omega)]; have := this.2.1; simp only [List.length_cons, List.length_nil]; rw [← this]; congr 1; omega
      · rw [List.getElem?_append_right (by simp; omega)]; have := this.2.2.1; simp only [List.length_cons, List.length_nil]; rw [← this]; congr 1; omega
      · rw [List.getElem?_append_right (by simp; omega)]; have := this.2.2.2; simp only [List.length_cons, List.length_nil]; rw [← this]; congr 1; omega
/-- the cells of a piece of a slice, as the walk asks for them -/
theorem piece_cells {w : World} {A : Option Addr} {n : Nat} {ps : List Piece} (h : Rds w 4 A n (pcC ps)) (hl : ps.length = n) (k : Nat) (hk : k < n) :
    ∃ ad, A = some ad ∧ w.cell? (ad.add (k * 4)) = some (.int .i64 (ps[k]'(by omega)).a) ∧ w.cell? ⟨(ad.add (k * 4)).block, (ad.add (k * 4)).off + 1, none⟩ = some (.int .i64 (ps[k]'(by omega)).b) ∧
      w.cell? ⟨(ad.add (k * 4)).block, (ad.add (k * 4)).off + 2, none⟩ = some (.int .i8 (ps[k]'(by omega)).r) ∧ w.cell? ⟨(ad.add (k * 4)).block, (ad.add (k * 4)).off + 3, none⟩ = some (.int .i64 (ps[k]'(by omega)).d) ∧ ad.block < w.heap.size := by
  obtain ⟨ad, e, hb, hc⟩ := h.2 (by omega)
  obtain ⟨g0, g1, g2, g3⟩ := pcC_get ps k (by omega)
  exact ⟨ad, e, hc _ _ g0, by rw [add_field _ _ 1 (by omega)]; exact hc _ _ g1, by rw [add_field _ _ 2 (by omega)]; exact hc _ _ g2, by rw [add_field _ _ 3 (by omega)]; exact hc _ _ g3, hb⟩

def PlaceP (rs : List Int) (n : Int) (w : World) (e : Ending) (w' : World) : Prop :=
  ∃ v1 v2, e = .returned (.tuple #[v1, v2, .int .i64 (place rs n).2.2]) ∧ w'.ownsRow w.heap.size 48 2 v1 (place rs n).1.length (slC (place rs n).1) ∧
    w'.ownsRow w.heap.size 3 1 v2 (place rs n).2.1.length (inC (place rs n).2.1) ∧ Only No w w'
theorem info3 : (Try.prog.info? 3).map (fun i => (i.zero, i.size, i.bytes)) = some (some (.int .i64 0), 1, 8) := by kernel_rfl

set_option maxHeartbeats 800000 in
theorem place_no (A : Option Addr) (m c : Nat) (rs : List Int) (n : Int) (w : World) (h : n < 0 ∨ 1048576 < n) : Calls Try.prog 24 #[.slice A m c, .int .i64 n] w (PlaceP rs n w) := by
  have hp : place rs n = ([], [], 0) := by unfold place; rw [if_pos h]
  have HP := Lib.hid hp
  clear hp
  go_enter Try.func24, Try.ntmps24
  go_wp2_with (first | (go_at_call 11; refine (new_no n _ h).mono ?_; rintro e w' ⟨rfl, rfl⟩))
  go_ret3
  unfold PlaceP
  rw [HP.out]
  exact ⟨_, _, rfl, World.ownsRow_nil _ _ _ _, World.ownsRow_nil _ _ _ _, Only.refl _ _⟩

structure Inv (rs : List Int) (n : Int) (w : World) (k : Nat) (t : Tr) (L : List Slot) (S : List Int) (v8 v9 : Value) (wr : World) : Prop where
  blk : Blk wr w.heap.size 52 (trC t)
  own : wr.ownsRow w.heap.size 48 2 v8 L.length (slC L)
  str : wr.ownsRow w.heap.size 3 1 v9 S.length (inC S)
  only : Only No w wr
  ok : Ok t
  N : t.N = n
  tk : t.taken ≤ k
  go : placeGo t k (rs.drop k) L S = placeGo (new n) 0 rs [] []
  len : (L.length : Int) = t.next
  few : S.length ≤ k

theorem slC_one (l : List Slot) : ∀ u ∈ slC l, u.oneCell' = true := by
  intro u hu
  simp only [slC, List.mem_flatMap] at hu
  obtain ⟨s, _, hs⟩ := hu
  simp at hs
  rcases hs with rfl | rfl <;> rfl
theorem inC_one (l : List Int) : ∀ u ∈ inC l, u.oneCell' = true := by
  intro u hu
  simp only [inC, List.mem_map] at hu
  obtain ⟨s, _, rfl⟩ := hu
  rfl
theorem Inv.step {rs : List Int} {n : Int} {w : World} {k : Nat} {t : Tr} {L : List Slot} {S : List Int} {v8 v9 v8' v9' : Value} {wr w' : World} (hI : Inv rs n w k t L S v8 v9 wr) {r : Int} (hr : rs[k]? = some r) (hd : t.done = false)
    (hb : Blk w' w.heap.size 52 (trC (take t r).2)) (ho : w'.ownsRow w.heap.size 48 2 v8' (L ++ (take t r).1).length (slC (L ++ (take t r).1)))
    (hs : w'.ownsRow w.heap.size 3 1 v9' (if (take t r).1.length = 0 ∧ (take t r).2.done = false then S ++ [(k : Int)] else S).length (inC (if (take t r).1.length = 0 ∧ (take t r).2.done = false then S ++ [(k : Int)] else S)))
    (hon : Only No w w') : Inv rs n w (k + 1) (take t r).2 (L ++ (take t r).1) (if (take t r).1.length = 0 ∧ (take t r).2.done = false then S ++ [(k : Int)] else S) v8' v9' w' := by
  have hlen := Rs.take_len hI.ok r
  refine ⟨hb, ho, hs, hon, take_ok hI.ok r, (take_N t r).trans hI.N, ?_, ?_, ?_, ?_⟩
  · have := take_taken t r
    rw [hd] at this
    have h2 := hI.tk
    simp at this
    omega
  · obtain ⟨hk, hg⟩ := List.getElem?_eq_some_iff.1 hr
    have := hI.go
    rw [List.drop_eq_getElem_cons hk, hg] at this
    rw [placeGo, if_neg (by rw [hd]; decide)] at this
    rw [← this]
    congr 1
  · have := hI.len
    rw [List.length_append]
    omega
  · have := hI.few
    split
    · simp; omega
    · omega

set_option maxRecDepth 100000 in
set_option maxHeartbeats 3200000 in
theorem place_yes (A : Option Addr) (m c : Nat) (ps : List Piece) (n : Int) (w : World) (h0 : 0 ≤ n) (h1 : n ≤ 1048576) (hr : Rds w 4 A m (pcC ps)) (hl : ps.length = m) (hm : m * 32 ≤ 140737488355328) (hR : ∀ p ∈ ps, -128 ≤ p.r ∧ p.r ≤ 127) :
    Calls Try.prog 24 #[.slice A m c, .int .i64 n] w (PlaceP (ps.map (·.r)) n w) := by
  obtain ⟨i0, hi0, hz0, hz1, hz2⟩ := info_parts info48
  obtain ⟨i3, hi3, hy0, hy1, hy2⟩ := info_parts info3
  have HR := Lib.hid hr
  have HL := Lib.hid hl
  have HQ := Lib.hid hR
  clear hr hl hR
  go_enter Try.func24, Try.ntmps24
  go_wp2_with (first | (go_at_call 11; refine (new_yes n _ h0 h1).mono ?_; rintro e w' ⟨rfl, rfl⟩))
  go_loopw [8, 9, 20] (fun v8 v9 v20 wr => ∃ (k : Nat) (t : Tr) (L : List Slot) (S : List Int), v20 = .int .i64 k ∧ k ≤ m ∧ Hid (Inv (ps.map (·.r)) n w k t L S v8 v9 wr)) (fun _ _ v20 _ => m - (intOf v20).toNat)
  case atStart =>
    exact ⟨0, new n, [], [], rfl, by omega, ⟨Blk.new _ _ _, World.ownsRow_nil _ _ _ _, World.ownsRow_nil _ _ _ _, (Only.refl _ _).alloc _, new_ok h0, rfl, by simp [new], rfl, by simp [new], by simp⟩⟩
  case round =>
    obtain ⟨k, t, L, S, rfl, hk, hI⟩ := hrel
    by_cases hlt : k < m
    · obtain ⟨ad, rfl, p0, p1, p2, p3, pb⟩ := piece_cells (HR.out.no hI.out.only) HL.out k hlt
      obtain ⟨q, hq⟩ : ∃ q, q = ps[k]'(by have := HL.out; omega) := ⟨_, rfl⟩
      rw [← hq] at p0 p1 p2 p3
      have hrng := Lib.hid (HQ.out q (by rw [hq]; exact List.getElem_mem _))
      have hrs := Lib.hid (show (ps.map (·.r))[k]? = some q.r by rw [List.getElem?_map, List.getElem?_eq_getElem (by have := HL.out; omega), ← hq]; rfl)
      clear hq
      have hk0 : (0 : Int) ≤ k := by omega
      have hk1 : (k : Int) < m := by omega
      have hlt2 : w.heap.size < wr.heap.size := hI.out.blk.lt
      cases hd : t.done
      · have HD := Lib.hid hd
        go_wp2_with fail
        refine (done_any t w.heap.size _ (hI.out.blk.alloc _)).mono ?_
        rintro e w1 ⟨rfl, rfl⟩
        go_wp2_with fail
        have k3 := hI.out.tk
        refine (take_any t q.a q.b q.r q.d w.heap.size _ (hI.out.blk.alloc _) HD.out hI.out.ok (by have := hI.out.N; omega) (by omega) hrng.out.1 hrng.out.2).mono ?_
        rintro e w2 ⟨v, rfl, hv, hb2, ho2⟩
        obtain ⟨A2, c2, rfl⟩ := own_slice hv
        have hcnt := Rs.take_len hI.out.ok q.r
        have hto := take_ok hI.out.ok q.r
        have hN := (take_N t q.r).trans hI.out.N
        have hle : (take t q.r).1.length ≤ 1048576 := by have := hto.n1; have := hI.out.ok.n0; omega
        have hLl : (L.length : Int) + (take t q.r).1.length ≤ 1048576 := by have := hto.n1; have := hI.out.len; omega
        have hSl := hI.out.few
        have o2 : Only No w w2 := (hI.out.only.alloc _).then ho2 (fun i hi => .inr (Nat.le_of_eq hi.symm))
        have hne8 := own_blk hI.out.own hI.out.blk (by decide)
        have hne9 := own_blk hI.out.str hI.out.blk (by decide)
        have O8 := Lib.hid (own_only (hI.out.own.alloc _) ho2 (fun i hi hg => hne8 (hi.trans (congrArg some hg))))
        have O9 := Lib.hid (own_only (hI.out.str.alloc _) ho2 (fun i hi hg => hne9 (hi.trans (congrArg some hg))))
        have HV := Lib.hid hv
        have HB2 := Lib.hid hb2
        have O2 := Lib.hid o2
        have HW := Lib.hid o2.size
        have HT := Lib.hid hto
        clear hv hb2 ho2 o2 hne8 hne9 hcnt hto hN
        by_cases hl0 : (take t q.r).1.length = 0
        · have hq0 : (((take t q.r).1.length : Nat) : Int) = 0 := by omega
          have hb0 : ((((take t q.r).1.length : Nat) : Int) == 0) = true := by rw [hq0]; rfl
          have HL0 := Lib.hid hl0
          clear hl0 hq0
          go_wp2_with (at_builtin; refine Mm.wpList_append_any _ rfl (.tmp 30) (.tmp 31) _ rfl w.heap.size 48 i0 _ 2 16 Try.underlying28 hi0 hz0 hz1 hz2 rfl (by omega) _ L.length (slC L) rfl O8.out A2 _ c2 _ rfl (Rds.of_own HV.out) (slC_one _) (by simp only [maxLen]; omega) (by omega) HW.out ?_; intro v4 w4 hown4 hon4 hat4)
          have hneb := own_blk O8.out HB2.out (by decide)
          have b4 := HB2.out.only hon4 hneb
          have hne9 := own_ne O9.out O8.out (by decide)
          have s4 := own_only O9.out hon4 (fun i hi hg => hne9 i hi hg)
          have on4 : Only No w w4 := O2.out.then hon4 (fun i hi => .inr (own_ge O8.out i hi))
          have B4 := Lib.hid b4
          have S4 := Lib.hid s4
          have ON4 := Lib.hid on4
          have OWN4 := Lib.hid (show w4.ownsRow w.heap.size 48 2 v4 (L ++ (take t q.r).1).length (slC (L ++ (take t q.r).1)) by rw [List.length_append, slC_append]; exact hown4)
          have HW4 := Lib.hid on4.size
          clear hown4 hon4 hat4 b4 s4 on4 hneb hne9
          refine (done_any (take t q.r).2 w.heap.size _ B4.out).mono ?_
          rintro e w5 ⟨rfl, rfl⟩
          cases hdn : (take t q.r).2.done
          · have HDN := Lib.hid hdn
            go_wp2_with (at_builtin; refine Mm.wpList_append_any _ rfl (.tmp 41) (.tmp 43) _ rfl w.heap.size 3 i3 _ 1 8 Try.underlying39 hi3 hy0 hy1 hy2 rfl (by omega) _ S.length (inC S) rfl (S4.out.alloc _) (some ⟨w4.heap.size, 0, none⟩) 1 1 [.int .i64 k] rfl (Rds.fresh (Blk.new _ _ _) rfl) (by simp [Value.oneCell']) (by simp only [maxLen]; omega) (by omega) (by have := HW4.out; simp; omega) ?_; intro v6 w6 hown6 hon6 hat6)
            have on6 : Only No w w6 := (ON4.out.alloc _).then hon6 (fun i hi => .inr (own_ge S4.out i hi))
            have hne8 := own_ne OWN4.out S4.out (by decide)
            have own6 := own_only (OWN4.out.alloc _) hon6 (fun i hi hg => hne8 i hi hg)
            have hneb := own_blk S4.out B4.out (by decide)
            have b6 := (B4.out.alloc _).only hon6 hneb
            have S6 := Lib.hid (show w6.ownsRow w.heap.size 3 1 v6 (if (take t q.r).1.length = 0 ∧ (take t q.r).2.done = false then S ++ [(k : Int)] else S).length (inC (if (take t q.r).1.length = 0 ∧ (take t q.r).2.done = false then S ++ [(k : Int)] else S)) by
              rw [if_pos ⟨HL0.out, HDN.out⟩, List.length_append, inC, List.map_append]; exact hown6)
            have B6 := Lib.hid b6
            have OWN6 := Lib.hid own6
            have ON6 := Lib.hid on6
            clear on6 hne8 own6 hneb b6 hown6 hon6 hat6
            go_wp2
            go_roundw
            case rel => exact ⟨k + 1, (take t q.r).2, L ++ (take t q.r).1, _, by go_num, by omega, hI.out.step hrs.out HD.out B6.out OWN6.out S6.out ON6.out⟩
            case measure => simp [intOf]; omega
          · have S5 := Lib.hid (show w4.ownsRow w.heap.size 3 1 _ (if (take t q.r).1.length = 0 ∧ (take t q.r).2.done = false then S ++ [(k : Int)] else S).length (inC (if (take t q.r).1.length = 0 ∧ (take t q.r).2.done = false then S ++ [(k : Int)] else S)) by
              rw [if_neg (by rw [hdn]; simp)]; exact S4.out)
            go_wp2
            go_roundw
            case rel => exact ⟨k + 1, (take t q.r).2, L ++ (take t q.r).1, _, by go_num, by omega, hI.out.step hrs.out HD.out B4.out OWN4.out S5.out ON4.out⟩
            case measure => simp [intOf]; omega
        · have hb0 : ((((take t q.r).1.length : Nat) : Int) == 0) = false := by rw [beq_eq_false_iff_ne]; omega
          have HL0 := Lib.hid hl0
          clear hl0
          go_wp2_with (at_builtin; refine Mm.wpList_append_any _ rfl (.tmp 30) (.tmp 31) _ rfl w.heap.size 48 i0 _ 2 16 Try.underlying28 hi0 hz0 hz1 hz2 rfl (by omega) _ L.length (slC L) rfl O8.out A2 _ c2 _ rfl (Rds.of_own HV.out) (slC_one _) (by simp only [maxLen]; omega) (by omega) HW.out ?_; intro v4 w4 hown4 hon4 hat4)
          have hneb := own_blk O8.out HB2.out (by decide)
          have b4 := HB2.out.only hon4 hneb
          have hne9 := own_ne O9.out O8.out (by decide)
          have s4 := own_only O9.out hon4 (fun i hi hg => hne9 i hi hg)
          have on4 : Only No w w4 := O2.out.then hon4 (fun i hi => .inr (own_ge O8.out i hi))
          have B4 := Lib.hid b4
          have S4 := Lib.hid s4
          have ON4 := Lib.hid on4
          have OWN4 := Lib.hid (show w4.ownsRow w.heap.size 48 2 v4 (L ++ (take t q.r).1).length (slC (L ++ (take t q.r).1)) by rw [List.length_append, slC_append]; exact hown4)
          have HW4 := Lib.hid on4.size
          clear hown4 hon4 hat4 b4 s4 on4 hneb hne9
          have S5 := Lib.hid (show w4.ownsRow w.heap.size 3 1 _ (if (take t q.r).1.length = 0 ∧ (take t q.r).2.done = false then S ++ [(k : Int)] else S).length (inC (if (take t q.r).1.length = 0 ∧ (take t q.r).2.done = false then S ++ [(k : Int)] else S)) by
            rw [if_neg (by intro h; exact HL0.out h.1)]; exact S4.out)
          go_wp2
          go_roundw
          case rel => exact ⟨k + 1, (take t q.r).2, L ++ (take t q.r).1, _, by go_num, by omega, hI.out.step hrs.out HD.out B4.out OWN4.out S5.out ON4.out⟩
          case measure => simp [intOf]; omega
      · have HD := Lib.hid hd
        have hfin := Lib.hid (show (L, S, t) = placeGo (new n) 0 (ps.map (·.r)) [] [] by
          have := hI.out.go
          obtain ⟨hk', hg'⟩ := List.getElem?_eq_some_iff.1 hrs.out
          rw [List.drop_eq_getElem_cons hk', placeGo, if_pos HD.out] at this
          exact this)
        go_wp2_with fail
        refine (done_any t w.heap.size _ (hI.out.blk.alloc _)).mono ?_
        rintro e w1 ⟨rfl, rfl⟩
        have hblk := Lib.hid ((hI.out.blk.alloc (.cells #[.int .i64 q.a, .int .i64 q.b, .int .i8 q.r, .int .i64 q.d] 32)))
        have c1 : wr.cell? ⟨w.heap.size, 1, none⟩ = some (.int .i64 t.next) := hI.out.blk.cell 1
        have c2 : wr.cell? ⟨w.heap.size, 2, none⟩ = some (.int .i64 t.taken) := hI.out.blk.cell 2
        have f2 := hblk.out.frozen 2
        obtain ⟨k0, k1, k2⟩ := hI.out.ok
        have kN := hI.out.N
        have kN2 := Lib.hid kN
        have kl := hI.out.len
        have kt := hI.out.tk
        have KL := Lib.hid kl
        have n1' : t.next ≤ n := by omega
        clear kN kl
        go_wp2_with fail
        refine (run_any { t with taken := t.taken - 1 } _ _ w.heap.size _ ((hI.out.blk.set 2 (.int .i64 (t.taken - 1))).alloc (.cells #[.int .i64 q.a, .int .i64 q.b, .int .i8 q.r, .int .i64 q.d] 32)) (by omega) (by omega) k0 (by show t.next ≤ _; omega)).mono ?_
        rintro e w3 ⟨v5, rfl, hv, hb3, ho3⟩
        unfold Hands at hv
        rw [List.length_replicate] at hv
        obtain ⟨A5, c5, rfl⟩ := own_slice hv
        have oset : Only No w ((wr.setCell ⟨w.heap.size, 2, none⟩ (.int .i64 (t.taken - 1))).alloc (.cells #[.int .i64 q.a, .int .i64 q.b, .int .i8 q.r, .int .i64 q.d] 32)) := (hI.out.only.setCell (.inr (Nat.le_refl _)) _).alloc _
        have hne8 := own_blk hI.out.own hI.out.blk (by decide)
        have own8 := own_only ((own_only hI.out.own (only_set (Only.refl (One w.heap.size) _) 2 (.int .i64 (t.taken - 1))) (fun i hi hg => hne8 (hi.trans (congrArg some hg)))).alloc (.cells #[.int .i64 q.a, .int .i64 q.b, .int .i8 q.r, .int .i64 q.d] 32)) ho3 (fun i hi hg => hne8 (hi.trans (congrArg some hg)))
        have hne9 := own_blk hI.out.str hI.out.blk (by decide)
        have own9 := own_only ((own_only hI.out.str (only_set (Only.refl (One w.heap.size) _) 2 (.int .i64 (t.taken - 1))) (fun i hi hg => hne9 (hi.trans (congrArg some hg)))).alloc (.cells #[.int .i64 q.a, .int .i64 q.b, .int .i8 q.r, .int .i64 q.d] 32)) ho3 (fun i hi hg => hne9 (hi.trans (congrArg some hg)))
        have o3 : Only No w w3 := oset.then ho3 (fun i hi => .inr (Nat.le_of_eq hi.symm))
        have O8 := Lib.hid own8
        have O9 := Lib.hid own9
        have O3 := Lib.hid o3
        have HV := Lib.hid hv
        have HW := Lib.hid o3.size
        clear own8 own9 o3 hv hb3 ho3 hne8 hne9 oset c1 c2 f2
        go_wp2_with (at_builtin; go_loud (refine Mm.wpList_append_any _ rfl (.tmp 57) (.tmp 65) _ rfl w.heap.size 48 i0 _ 2 16 Try.underlying28 hi0 hz0 hz1 hz2 rfl (by omega) _ L.length (slC L) rfl O8.out A5 _ c5 _ rfl (Rds.of_own HV.out) (slC_one _) (by simp only [maxLen]; have := KL.out; omega) (by have := KL.out; omega) HW.out ?_); intro v4 w4 hown4 hon4 hat4)
        go_ret3
        have hpl : place (ps.map (·.r)) n = (L ++ List.replicate (n - t.next).toNat (t.taken - 1, 5), S, t.taken) := by
          unfold place
          rw [if_neg (by omega), ← hfin.out]
        unfold PlaceP
        rw [hpl]
        have hat9 := own_ne O9.out O8.out (by decide)
        exact ⟨_, _, rfl, by rw [slC_append]; rw [List.length_append, List.length_replicate]; exact hown4, own_only O9.out hon4 (fun i hi hg => hat9 i hi hg), O3.out.then hon4 (fun i hi => .inr (own_ge O8.out i hi))⟩
    · have hkm : k = m := by omega
      have hfin : (L, S, t) = placeGo (new n) 0 (ps.map (·.r)) [] [] := by
        have := hI.out.go
        rw [List.drop_of_length_le (by rw [List.length_map, HL.out]; omega)] at this
        rw [← this]; rfl
      have hfin := Lib.hid hfin
      have hblk := Lib.hid (hI.out.blk)
      have c1 : wr.cell? ⟨w.heap.size, 1, none⟩ = some (.int .i64 t.next) := hblk.out.cell 1
      have c2 : wr.cell? ⟨w.heap.size, 2, none⟩ = some (.int .i64 t.taken) := hblk.out.cell 2
      have f2 := hblk.out.frozen 2
      obtain ⟨k0, k1, k2⟩ := hI.out.ok
      have kN := hI.out.N
      have kN2 := Lib.hid kN
      have kl := hI.out.len
      have kt := hI.out.tk
      have KL := Lib.hid kl
      have n1' : t.next ≤ n := by omega
      clear kN kl
      go_wp2_with fail
      refine (run_any { t with taken := t.taken - 1 } _ _ w.heap.size _ (hblk.out.set 2 (.int .i64 (t.taken - 1))) (by omega) (by omega) k0 (by show t.next ≤ _; omega)).mono ?_
      rintro e w3 ⟨v5, rfl, hv, hb3, ho3⟩
      unfold Hands at hv
      rw [List.length_replicate] at hv
      obtain ⟨A5, c5, rfl⟩ := own_slice hv
      have oset : Only No w (wr.setCell ⟨w.heap.size, 2, none⟩ (.int .i64 (t.taken - 1))) := hI.out.only.setCell (.inr (Nat.le_refl _)) _
      have hne8 := own_blk (hI.out.own) hI.out.blk (by decide)
      have own8 := own_only (own_only (hI.out.own) (only_set (Only.refl (One w.heap.size) _) 2 (.int .i64 (t.taken - 1))) (fun i hi hg => hne8 (hi.trans (congrArg some hg)))) ho3 (fun i hi hg => hne8 (hi.trans (congrArg some hg)))
      have hne9 := own_blk (hI.out.str) hI.out.blk (by decide)
      have own9 := own_only (own_only (hI.out.str) (only_set (Only.refl (One w.heap.size) _) 2 (.int .i64 (t.taken - 1))) (fun i hi hg => hne9 (hi.trans (congrArg some hg)))) ho3 (fun i hi hg => hne9 (hi.trans (congrArg some hg)))
      have o3 : Only No w w3 := oset.then ho3 (fun i hi => .inr (Nat.le_of_eq hi.symm))
      have O8 := Lib.hid own8
      have O9 := Lib.hid own9
      have O3 := Lib.hid o3
      have HV := Lib.hid hv
      have HW := Lib.hid o3.size
      clear own8 own9 o3 hv hb3 ho3 hne8 hne9 oset c1 c2 f2
      go_wp2_with (at_builtin; go_loud (refine Mm.wpList_append_any _ rfl (.tmp 57) (.tmp 65) _ rfl w.heap.size 48 i0 _ 2 16 Try.underlying28 hi0 hz0 hz1 hz2 rfl (by omega) _ L.length (slC L) rfl O8.out A5 _ c5 _ rfl (Rds.of_own HV.out) (slC_one _) (by simp only [maxLen]; have := KL.out; omega) (by have := KL.out; omega) HW.out ?_); intro v4 w4 hown4 hon4 hat4)
      go_ret3
      have hpl : place (ps.map (·.r)) n = (L ++ List.replicate (n - t.next).toNat (t.taken - 1, 5), S, t.taken) := by
        unfold place
        rw [if_neg (by omega), ← hfin.out]
      unfold PlaceP
      rw [hpl]
      have hat9 := own_ne O9.out O8.out (by decide)
      exact ⟨_, _, rfl, by rw [slC_append]; rw [List.length_append, List.length_replicate]; exact hown4, own_only O9.out hon4 (fun i hi hg => hat9 i hi hg), O3.out.then hon4 (fun i hi => .inr (own_ge O8.out i hi))⟩

end Go.Proofs.Ytdbidojncboalaa.Ct
