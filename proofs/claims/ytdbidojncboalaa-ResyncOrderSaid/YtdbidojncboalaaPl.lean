/- For ResyncPlace: spoil of any row; how many slots and strays there are; Place, for any number. -/
import Derived.Test.YtdbidojncboalaaRefAny
import Derived.Test.YtdbidojncboalaaSplitLaw
namespace Go.Proofs.Ytdbidojncboalaa.Ct
open Go.ChangeShapes Go.WideShapes Go.RowKit Mm Rs

set_option maxRecDepth 100000 in
set_option maxHeartbeats 1600000 in
theorem spoil_nil (mk : Int) (w : World) : Calls Try.prog 16 #[.slice none 0 0, .int .i64 mk] w (Spoilt none 0 mk (.slice none 0 0) w) := by
  obtain ⟨i0, hi0, hz0, hz1, hz2⟩ := info_parts info48
  go_enter Try.func16, Try.ntmps16
  go_wp2
  go_loopw [5] (fun v5 wr => v5 = .int .i64 0 ∧ w = wr) (fun _ _ => 0)
  case atStart => exact ⟨rfl, rfl⟩
  case round =>
    obtain ⟨rfl, rfl⟩ := hrel
    go_wp2
    go_loopw [0, 6] (fun v0 v6 wr => ∃ j : Nat, v6 = .int .i64 j ∧ j ≤ 20 ∧ Hid (wr.ownsRow w.heap.size 48 2 v0 j (slC (List.replicate j (mk, 0))) ∧ Only No w wr)) (fun _ v6 _ => 20 - (intOf v6).toNat)
    case atStart => exact ⟨0, rfl, by omega, World.ownsRow_nil _ _ _ _, Only.refl _ _⟩
    case round =>
      obtain ⟨j, rfl, hj, hR⟩ := hrel
      by_cases hlt : j < 20
      · have hlt' : (j : Int) < 20 := by omega
        obtain ⟨A0, c0, rfl⟩ := own_slice hR.out.1
        have hsz : Hid (w.heap.size ≤ wr.heap.size) := Lib.hid hR.out.2.size
        go_wp2_with (at_builtin; go_loud (refine Mm.wpList_append_any _ rfl (.tmp 22) (.tmp 25) _ rfl w.heap.size 48 i0 _ 2 16 Try.underlying28 hi0 hz0 hz1 hz2 rfl (by omega) (.slice A0 j c0) j (slC (List.replicate j (mk, 0))) rfl (hR.out.1.alloc _) (some ⟨wr.heap.size, 0, none⟩) 1 1 [.int .i64 mk, .int .i8 0] rfl (Rds.fresh (Blk.new _ _ _) rfl) (by simp [Value.oneCell']) (by simp only [maxLen]; omega) (by omega) (by have := hsz.out; simp; omega) ?_); intro v4 w4 hown4 hon4 hat4)
        have hnew : Hid (w4.ownsRow w.heap.size 48 2 v4 (j + 1) (slC (List.replicate (j + 1) (mk, 0)))) := Lib.hid (by rw [slC_succ]; exact hown4)
        have honly : Hid (Only No w w4) := Lib.hid ((hR.out.2.alloc _).then hon4 (fun k hk => .inr (own_ge hR.out.1 k hk)))
        clear hown4 hon4 hat4
        go_roundw
        case rel => exact ⟨j + 1, by go_num, by omega, hnew.out, honly.out⟩
        case measure => simp [intOf]; omega
      · have hlt' : ¬ (j : Int) < 20 := by omega
        obtain rfl : j = 20 := by omega
        obtain ⟨A0, c0, rfl⟩ := own_slice hR.out.1
        go_wp2
        go_ret
        exact ⟨A0, c0, rfl, Rds.of_own hR.out.1, Rds.nil, hR.out.2.mono fun _ h => h.elim, fun k hk => .inr (own_ge hR.out.1 k hk)⟩
theorem spoil_any (b c : Nat) (A : Option Addr) (l : List Slot) (mk : Int) (w : World) (ha : w.ownsRow b 48 2 (.slice A l.length c) l.length (slC l)) (hN : l.length ≤ 1048576) (hb : b ≤ w.heap.size) :
    Calls Try.prog 16 #[.slice A l.length c, .int .i64 mk] w (Spoilt A l.length mk (.slice A l.length c) w) := by
  rcases ha.2 with ⟨h1, h2⟩ | ⟨g, cap, cur, h1, _, _, _, hcm, _⟩
  · injection h1 with hA h0 hc
    subst hA hc
    rw [h2]
    exact spoil_nil mk w
  · have e1 : A = some ⟨g, 0, none⟩ := by injection h1
    have e2 : c = cap := by injection h1
    subst e1
    rw [← e2] at hcm
    exact spoil_some b g c l l.length mk w ha rfl hN hb hcm

theorem placeGo_len (rs : List Int) : ∀ (t : Tr) (i : Int) (l : List Slot) (s : List Int), Ok t → (l.length : Int) = t.next →
    ((placeGo t i rs l s).1.length : Int) = (placeGo t i rs l s).2.2.next ∧ Ok (placeGo t i rs l s).2.2 ∧ (placeGo t i rs l s).2.2.N = t.N ∧ (placeGo t i rs l s).2.1.length ≤ s.length + rs.length := by
  induction rs with
  | nil => intro t i l s h1 h2; exact ⟨h2, h1, rfl, by simp [placeGo]⟩
  | cons r rs ih =>
    intro t i l s h1 h2
    unfold placeGo
    split
    · exact ⟨h2, h1, rfl, by simp⟩
    · have h3 := Rs.take_len h1 r
      obtain ⟨a, b, c, d⟩ := ih (take t r).2 (i + 1) (l ++ (take t r).1) (if (take t r).1.length = 0 ∧ (take t r).2.done = false then s ++ [i] else s) (take_ok h1 r) (by rw [List.length_append]; omega)
      refine ⟨a, b, c.trans (take_N t r), Nat.le_trans d ?_⟩
      split
      · simp only [List.length_append, List.length_cons, List.length_nil]; omega
      · simp only [List.length_cons]; omega
theorem place_len (rs : List Int) (n : Int) (h : ¬ (100000 < n ∧ n ≤ 1048576)) : (place rs n).1.length ≤ 100000 ∧ (place rs n).2.1.length ≤ rs.length := by
  unfold place
  split
  · simp
  · rename_i hn
    obtain ⟨a, b, c, d⟩ := placeGo_len rs (new n) 0 [] [] (new_ok (by omega)) (by simp [new])
    obtain ⟨b0, b1, b2⟩ := b
    refine ⟨?_, by simpa using d⟩
    have cN : (placeGo (new n) 0 rs [] []).2.2.N = n := by rw [c]; rfl
    generalize placeGo (new n) 0 rs [] [] = X at *
    obtain ⟨L, S, t⟩ := X
    simp only [List.length_append, List.length_replicate] at *
    omega
theorem place_any (A : Option Addr) (m c : Nat) (ps : List Piece) (n : Int) (w : World) (hr : Rds w 4 A m (pcC ps)) (hl : ps.length = m) (hm : m * 32 ≤ 140737488355328) (hR : ∀ p ∈ ps, -128 ≤ p.r ∧ p.r ≤ 127) :
    Calls Try.prog 24 #[.slice A m c, .int .i64 n] w (PlaceP (ps.map (·.r)) n w) := by
  by_cases h : n < 0 ∨ 1048576 < n
  · exact place_no A m c _ n w h
  · exact place_yes A m c ps n w (by omega) (by omega) hr hl hm hR
theorem rplace_all (A : Option Addr) (m c : Nat) (ps : List Piece) (n : Int) (w : World) (hr : Rds w 4 A m (pcC ps)) (hl : ps.length = m) (hm : m * 32 ≤ 140737488355328) (hR : ∀ p ∈ ps, -128 ≤ p.r ∧ p.r ≤ 127) :
    Calls Try.prog 23 #[.slice A m c, .int .i64 n] w (RPlaceP (ps.map (·.r)) n w) := by
  by_cases h : n < 0 ∨ 1048576 < n
  · exact rplace_no A m c _ n w h
  · exact rplace_yes A m c ps n w (by omega) (by omega) hr hl hm hR
end Go.Proofs.Ytdbidojncboalaa.Ct
