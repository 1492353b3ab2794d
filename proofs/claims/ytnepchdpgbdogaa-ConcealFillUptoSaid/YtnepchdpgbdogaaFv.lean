/- Rows of one's own written over; a list of grids. -/
import Derived.Test.YtnepchdpgbdogaaFu
namespace Go.Proofs.Ytnepchdpgbdogaa.Ct
open Go.ChangeShapes Go.WideShapes Go.RowKit Mm
/-- a block of a row of one's own is written over -/
theorem own_set {w : World} {base g n c i : Nat} {L : List (List Int)} {b : List Int} (hL : Bls L) (h : w.ownsRow base 48 64 (.slice (some ⟨g, 0, none⟩) n c) n (bsC L)) (hi : i < n) (hb : b.length = 64 ∧ ∀ v ∈ b, -32768 ≤ v ∧ v ≤ 32767) :
    (w.setCells g (i * 64) (blC b)).ownsRow base 48 64 (.slice (some ⟨g, 0, none⟩) n c) n (bsC (L.set i b)) := by
  have hb64 : (blC b).length = 64 := by rw [blC_length, hb.1]
  obtain ⟨h1, h2⟩ := h
  have hLl : (bsC L).length = L.length * 64 := bsC_length hL
  have hn : L.length = n := by omega
  have hS := bls_set hL i hb
  have hSl : (bsC (L.set i b)).length = n * 64 := by rw [bsC_length hS, List.length_set, hn]
  rcases h2 with ⟨h0, _⟩ | ⟨g', cap, cur, hv, hbb, hg, hnc, hcm, hsz, htk⟩
  · cases h0
  · injection hv with hA _ hc
    injection hA with hA
    injection hA with hA
    subst hA hc
    obtain ⟨es, f1, f2, f3, f4⟩ := setCells_blk g 48 (blC b) (i * 64) w cur hg (by rw [hsz, hb64]; have := Nat.mul_le_mul_right 64 (show i + 1 ≤ c by omega); omega)
    refine ⟨hSl, .inr ⟨g, c, es, rfl, hbb, f1, hnc, hcm, by omega, ?_⟩⟩
    refine List.ext_getElem? fun k => ?_
    by_cases hk : k < n * 64
    · rw [List.getElem?_take, if_pos hk]
      have hk1 : k / 64 < n := by omega
      have hk2 : k / 64 * 64 + k % 64 = k := by omega
      have hr := bsC_get hS (k / 64) (k % 64) (by rw [List.length_set]; omega) (by omega)
      rw [hk2] at hr
      rw [hr]
      by_cases hki : k / 64 = i
      · have e3 := f3 (k % 64) (by omega)
        rw [← hki, hk2] at e3
        have hi2 : i < L.length := by omega
        have hkb : k % 64 < b.length := by rw [hb.1]; omega
        rw [show es.toList[k]? = es[k]? by simp, e3, hki]
        simp [blC, hi2, hkb]
      · have e4 := f4 k (by omega)
        have hr2 := bsC_get hL (k / 64) (k % 64) (by omega) (by omega)
        rw [hk2, ← htk, List.getElem?_take, if_pos hk] at hr2
        rw [show es.toList[k]? = es[k]? by simp, e4]
        have e : (L.set i b).getD (k / 64) [] = L.getD (k / 64) [] := by
          have : i ≠ k / 64 := fun h => hki h.symm
          simp [List.getD, this]
        rw [e, ← hr2]
        simp
    · rw [List.getElem?_eq_none (by rw [List.length_take]; omega), List.getElem?_eq_none (by omega)]
section
variable {ops : Array Oper} {rest : List Oper} {a : Act} {w : World} {Q : Exit → Act → World → Prop} {d : Option Tmp} {x y : Operand} {ty : TypeId} {p : String} {af : Array Edge}
theorem wl_storeOwn (base g n c i : Nat) (L : List (List Int)) (b : List Int) (ad : Addr) (hx : a.eval x = .pointer (some ad)) (had : ad = ⟨g, i * 64, none⟩) (hy : a.eval y = .agg (blC b).toArray) (hL : Bls L) (hp : w.ownsRow base 48 64 (.slice (some ⟨g, 0, none⟩) n c) n (bsC L)) (hi : i < n) (hf : b.length = 64 ∧ ∀ v ∈ b, -32768 ≤ v ∧ v ≤ 32767)
    (h : ∀ w', w'.ownsRow base 48 64 (.slice (some ⟨g, 0, none⟩) n c) n (bsC (L.set i b)) → Only (One g) w w' → wpList Try.prog ops Q rest (a.put d undef) w') : wpList Try.prog ops Q (⟨d, .store 48 x y, ty, p, af, none⟩ :: rest) a w := by
  subst had
  have hb : (blC b).length = 64 := by rw [blC_length, hf.1]
  have hr : Row w g L := Row.of_own hL hp
  have hl : L.length = n := by have h1 := hp.1; rw [bsC_length hL] at h1; omega
  refine wpList_store_mid rfl 48 x y rfl g (i * 64) (blC b).toArray hx hy (by rw [List.size_toArray, hb]; exact hr.there (by omega)) (by rw [info48, List.size_toArray, hb]) (all_oneCell_toArray (blC_one _)) ?_
  rw [List.toList_toArray]
  exact h _ (own_set hL hp hi hf) (setCells_only (S := One g) g (.inl rfl) _ _ w (Only.refl _ _))
end
/-! ### marks: block {a, i} -/
def mrk (a i : Nat) : List Int := (a : Int) :: (i : Int) :: List.replicate 62 0
theorem mrk_ok (a i : Nat) (ha : a ≤ 1) (hi : i ≤ 1) : (mrk a i).length = 64 ∧ ∀ v ∈ mrk a i, -32768 ≤ v ∧ v ≤ 32767 := by
  refine ⟨by simp [mrk], fun v hv => ?_⟩
  rcases List.mem_cons.1 hv with h | h
  · omega
  · rcases List.mem_cons.1 h with h | h
    · omega
    · have := (List.mem_replicate.1 h).2; omega
/-- the first k blocks are marks -/
def mkL (L : List (List Int)) (i k : Nat) : List (List Int) := List.replicate k (mrk 0 i) ++ L.drop k
theorem mkL_len (L : List (List Int)) (i k : Nat) (h : k ≤ L.length) : (mkL L i k).length = L.length := by
  unfold mkL; rw [List.length_append, List.length_replicate, List.length_drop]; omega
theorem mkL_zero (L : List (List Int)) (i : Nat) : mkL L i 0 = L := rfl
theorem mkL_succ (L : List (List Int)) (i k : Nat) (h : k < L.length) : mkL L i (k + 1) = (mkL L i k).set k (mrk 0 i) := by
  unfold mkL
  rw [List.set_append_right _ _ (by simp), List.length_replicate, Nat.sub_self, List.drop_eq_getElem_cons h, List.set_cons_zero, List.replicate_succ', List.append_assoc]
  rfl
theorem mkL_all (L : List (List Int)) (i : Nat) : mkL L i L.length = List.replicate L.length (mrk 0 i) := by simp [mkL]
theorem mkL_bls {L : List (List Int)} (h : Bls L) (i k : Nat) (hi : i ≤ 1) : Bls (mkL L i k) := by
  intro b hb
  rcases List.mem_append.1 hb with h' | h'
  · rw [(List.mem_replicate.1 h').2]; exact mrk_ok 0 i (by omega) hi
  · exact h b (List.mem_of_mem_drop h')
/-- n marks {0, i}, k marks {1, i} -/
def lgL (n i k : Nat) : List (List Int) := List.replicate n (mrk 0 i) ++ List.replicate k (mrk 1 i)
theorem lgL_len (n i k : Nat) : (lgL n i k).length = n + k := by simp [lgL]
theorem lgL_succ (n i k : Nat) : lgL n i (k + 1) = lgL n i k ++ [mrk 1 i] := by unfold lgL; rw [List.replicate_succ', List.append_assoc]
theorem lgL_bls (n i k : Nat) (hi : i ≤ 1) : Bls (lgL n i k) := by
  intro b hb
  rcases List.mem_append.1 hb with h | h
  · rw [(List.mem_replicate.1 h).2]; exact mrk_ok 0 i (by omega) hi
  · rw [(List.mem_replicate.1 h).2]; exact mrk_ok 1 i (by omega) hi
theorem lgL_get (n i k j : Nat) (h : j < n + k) : (lgL n i k).getD j [] = if j < n then mrk 0 i else mrk 1 i := by
  unfold lgL
  rw [List.getD_eq_getElem?_getD]
  split
  · rename_i h1
    rw [List.getElem?_append_left (by simpa using h1), List.getElem?_replicate, if_pos h1]; rfl
  · rename_i h1
    rw [List.getElem?_append_right (by simp; omega), List.getElem?_replicate, if_pos (by simp; omega)]; rfl
theorem mrk_agg0 (i : Nat) : (blC (mrk 0 i)).toArray = #[.int .i16 0, .int .i16 (i : Int), .int .i16 0, .int .i16 0, .int .i16 0, .int .i16 0, .int .i16 0, .int .i16 0, .int .i16 0, .int .i16 0, .int .i16 0, .int .i16 0, .int .i16 0, .int .i16 0, .int .i16 0, .int .i16 0, .int .i16 0, .int .i16 0, .int .i16 0, .int .i16 0, .int .i16 0, .int .i16 0, .int .i16 0, .int .i16 0, .int .i16 0, .int .i16 0, .int .i16 0, .int .i16 0, .int .i16 0, .int .i16 0, .int .i16 0, .int .i16 0, .int .i16 0, .int .i16 0, .int .i16 0, .int .i16 0, .int .i16 0, .int .i16 0, .int .i16 0, .int .i16 0, .int .i16 0, .int .i16 0, .int .i16 0, .int .i16 0, .int .i16 0, .int .i16 0, .int .i16 0, .int .i16 0, .int .i16 0, .int .i16 0, .int .i16 0, .int .i16 0, .int .i16 0, .int .i16 0, .int .i16 0, .int .i16 0, .int .i16 0, .int .i16 0, .int .i16 0, .int .i16 0, .int .i16 0, .int .i16 0, .int .i16 0, .int .i16 0] := rfl
theorem mrk_agg1 (i : Nat) : (blC (mrk 1 i)).toArray = #[.int .i16 1, .int .i16 (i : Int), .int .i16 0, .int .i16 0, .int .i16 0, .int .i16 0, .int .i16 0, .int .i16 0, .int .i16 0, .int .i16 0, .int .i16 0, .int .i16 0, .int .i16 0, .int .i16 0, .int .i16 0, .int .i16 0, .int .i16 0, .int .i16 0, .int .i16 0, .int .i16 0, .int .i16 0, .int .i16 0, .int .i16 0, .int .i16 0, .int .i16 0, .int .i16 0, .int .i16 0, .int .i16 0, .int .i16 0, .int .i16 0, .int .i16 0, .int .i16 0, .int .i16 0, .int .i16 0, .int .i16 0, .int .i16 0, .int .i16 0, .int .i16 0, .int .i16 0, .int .i16 0, .int .i16 0, .int .i16 0, .int .i16 0, .int .i16 0, .int .i16 0, .int .i16 0, .int .i16 0, .int .i16 0, .int .i16 0, .int .i16 0, .int .i16 0, .int .i16 0, .int .i16 0, .int .i16 0, .int .i16 0, .int .i16 0, .int .i16 0, .int .i16 0, .int .i16 0, .int .i16 0, .int .i16 0, .int .i16 0, .int .i16 0, .int .i16 0] := rfl
theorem mrk_set (i : Nat) : (mrk 0 i).set 0 1 = mrk 1 i := rfl
/-! ### a list of grids -/
def gcC (a b : Nat → Int) (v : Nat → Value) (k : Nat) : List Value := (List.range k).flatMap fun j => [.int .i64 (a j), .int .i64 (b j), v j]
theorem gcC_len (a b : Nat → Int) (v : Nat → Value) (k : Nat) : (gcC a b v k).length = k * 3 := by
  induction k with
  | zero => rfl
  | succ k ih =>
    unfold gcC at ih ⊢
    rw [List.range_succ, List.flatMap_append, List.length_append, ih]
    simp
    omega
theorem gcC_succ (a b : Nat → Int) (v : Nat → Value) (k : Nat) : gcC a b v (k + 1) = gcC a b v k ++ [.int .i64 (a k), .int .i64 (b k), v k] := by
  unfold gcC
  rw [List.range_succ, List.flatMap_append]
  simp
theorem gcC_congr (a b : Nat → Int) (v v' : Nat → Value) (k : Nat) (h : ∀ j, j < k → v j = v' j) : gcC a b v k = gcC a b v' k := by
  induction k with
  | zero => rfl
  | succ k ih => rw [gcC_succ, gcC_succ, ih fun j hj => h j (by omega), h k (by omega)]
theorem gcC_get (a b : Nat → Int) (v : Nat → Value) (k j : Nat) (h : j < k) : (gcC a b v k)[j * 3]? = some (.int .i64 (a j)) ∧ (gcC a b v k)[j * 3 + 1]? = some (.int .i64 (b j)) ∧ (gcC a b v k)[j * 3 + 2]? = some (v j) := by
  induction k with
  | zero => omega
  | succ k ih =>
    rw [gcC_succ]
    have hl := gcC_len a b v k
    by_cases hj : j < k
    · obtain ⟨i1, i2, i3⟩ := ih hj
      rw [List.getElem?_append_left (by omega), List.getElem?_append_left (by omega), List.getElem?_append_left (by omega)]
      exact ⟨i1, i2, i3⟩
    · obtain rfl : j = k := by omega
      rw [List.getElem?_append_right (by omega), List.getElem?_append_right (by omega), List.getElem?_append_right (by omega), hl]
      simp
def k4 {α : Type} (a b : α) : Nat → α | 0 => a | 1 => b | 2 => b | _ => a
theorem k4_s {α : Type} (a b : α) {i : Nat} (h1 : i ≠ 1) (h2 : i ≠ 2) : k4 a b i = a := by
  unfold k4; split <;> first | rfl | contradiction
theorem k4_o {α : Type} (a b : α) {i : Nat} (h : i = 1 ∨ i = 2) : k4 a b i = b := by
  rcases h with rfl | rfl <;> rfl
/-- i grids, each in a row of its own, none in another's -/
def Gs (wS wx : World) (a b : Nat → Int) (n : Nat → Nat) (L : Nat → List (List Int)) (i : Nat) (v : Value) : Prop :=
  ∃ vs : Nat → Value, wx.ownsRow wS.heap.size 24 3 v i (gcC a b vs i) ∧ (∀ j, j < i → wx.ownsRow wS.heap.size 48 64 (vs j) (n j) (bsC (L j))) ∧ (∀ j k, j < k → k < i → ∀ q, (vs j).ownBlock = some q → ¬ (vs k).ownBlock = some q) ∧ Only No wS wx
theorem gs_step {wS wx w1 w0 w2 : World} {a b : Nat → Int} {n : Nat → Nat} {L : Nat → List (List Int)} {i : Nat} {v v' u : Value} (vs : Nat → Value) (h1 : wx.ownsRow wS.heap.size 24 3 v i (gcC a b vs i)) (h2 : ∀ j, j < i → wx.ownsRow wS.heap.size 48 64 (vs j) (n j) (bsC (L j)))
    (h3 : ∀ j k, j < k → k < i → ∀ q, (vs j).ownBlock = some q → ¬ (vs k).ownBlock = some q) (h4 : Only No wS wx)
    (o : Only No wx w1) (hu : w1.ownsRow wx.heap.size 48 64 u (n i) (bsC (L i))) (o0 : Only No w1 w0) (o2 : Only (Own v) w0 w2) (hv : w2.ownsRow wS.heap.size 24 3 v' (i + 1) (gcC a b vs i ++ [.int .i64 (a i), .int .i64 (b i), u])) : Gs wS w2 a b n L (i + 1) v' := by
  have hb := h4.size
  have key : ∀ (x : Value) m ys, w0.ownsRow wS.heap.size 48 64 x m ys → w2.ownsRow wS.heap.size 48 64 x m ys := fun x m ys hx => own_only hx o2 fun q hq hv' => own_ne hx (own_only (own_only h1 o fun _ _ => id) o0 fun _ _ => id) (by decide) q hq hv'
  refine ⟨fun j => if j = i then u else vs j, ?_, fun j hj => ?_, fun j k hjk hk q hq hq' => ?_, ?_⟩
  · rw [gcC_succ, gcC_congr a b (fun j => if j = i then u else vs j) vs i (fun j hj => if_neg (by omega))]
    simpa using hv
  · by_cases hji : j = i
    · subst hji
      simp only [if_true]
      exact key _ _ _ (own_only (own_base hu (fun q hq => by have := own_ge hu q hq; omega)) o0 fun _ _ => id)
    · simp only [if_neg hji]
      exact key _ _ _ (own_only (own_only (h2 j (by omega)) o fun _ _ => id) o0 fun _ _ => id)
  · have hji : ¬ j = i := by omega
    simp only [if_neg hji] at hq
    by_cases hki : k = i
    · simp only [if_pos hki] at hq'
      have h5 := own_lt (h2 j (by omega)) q hq
      have h6 := own_ge hu q hq'
      omega
    · simp only [if_neg hki] at hq'
      exact h3 j k hjk (by omega) q hq hq'
  · exact ((h4.trans o).trans o0).then o2 fun q hq => .inr (own_ge h1 q hq)
theorem blk_drew {w : World} {g : Nat} {t : TypeId} {cs : Array Value} (h : Blk w g t cs) : Blk w.drew g t cs := h
theorem two_stores {w : World} {a x : Nat} {p0 p1 p2 q0 q1 q2 : Value} (ha : Blk w a 24 #[p0, p1, p2]) (hx : Blk w x 24 #[q0, q1, q2]) (hne : a ≠ x) (u0 u1 u2 v0 v1 v2 : Value) :
    Blk ((((((w.setCell ⟨a, 0, none⟩ u0).setCell ⟨a, 1, none⟩ u1).setCell ⟨a, 2, none⟩ u2).setCell ⟨x, 0, none⟩ v0).setCell ⟨x, 1, none⟩ v1).setCell ⟨x, 2, none⟩ v2).drew a 24 #[u0, u1, u2] ∧
    Blk ((((((w.setCell ⟨a, 0, none⟩ u0).setCell ⟨a, 1, none⟩ u1).setCell ⟨a, 2, none⟩ u2).setCell ⟨x, 0, none⟩ v0).setCell ⟨x, 1, none⟩ v1).setCell ⟨x, 2, none⟩ v2).drew x 24 #[v0, v1, v2] ∧
    Only (fun b => b = a ∨ b = x) w ((((((w.setCell ⟨a, 0, none⟩ u0).setCell ⟨a, 1, none⟩ u1).setCell ⟨a, 2, none⟩ u2).setCell ⟨x, 0, none⟩ v0).setCell ⟨x, 1, none⟩ v1).setCell ⟨x, 2, none⟩ v2).drew := by
  have hne' : x ≠ a := fun h => hne h.symm
  have h1 : ∀ {w : World}, Blk w a 24 #[u0, u1, u2] → Blk (((w.setCell ⟨x, 0, none⟩ v0).setCell ⟨x, 1, none⟩ v1).setCell ⟨x, 2, none⟩ v2) a 24 #[u0, u1, u2] := fun h => ((h.far (p := ⟨x, 0, none⟩) hne v0).far (p := ⟨x, 1, none⟩) hne v1).far (p := ⟨x, 2, none⟩) hne v2
  have h2 : Blk (((w.setCell ⟨a, 0, none⟩ u0).setCell ⟨a, 1, none⟩ u1).setCell ⟨a, 2, none⟩ u2) a 24 #[u0, u1, u2] := ((ha.set 0 u0).set 1 u1).set 2 u2
  have h3 : Blk (((w.setCell ⟨a, 0, none⟩ u0).setCell ⟨a, 1, none⟩ u1).setCell ⟨a, 2, none⟩ u2) x 24 #[q0, q1, q2] := ((hx.far (p := ⟨a, 0, none⟩) hne' u0).far (p := ⟨a, 1, none⟩) hne' u1).far (p := ⟨a, 2, none⟩) hne' u2
  have h4 : ∀ {w : World}, Blk w x 24 #[q0, q1, q2] → Blk (((w.setCell ⟨x, 0, none⟩ v0).setCell ⟨x, 1, none⟩ v1).setCell ⟨x, 2, none⟩ v2) x 24 #[v0, v1, v2] := fun h => ((h.set 0 v0).set 1 v1).set 2 v2
  exact ⟨blk_drew (h1 h2), blk_drew (h4 h3), ((((((Only.refl (fun b => b = a ∨ b = x) w).setCell (p := ⟨a, 0, none⟩) (.inl (.inl rfl)) u0).setCell (p := ⟨a, 1, none⟩) (.inl (.inl rfl)) u1).setCell (p := ⟨a, 2, none⟩) (.inl (.inl rfl)) u2).setCell (p := ⟨x, 0, none⟩) (.inl (.inr rfl)) v0).setCell (p := ⟨x, 1, none⟩) (.inl (.inr rfl)) v1).setCell (p := ⟨x, 2, none⟩) (.inl (.inr rfl)) v2 |>.drew⟩
theorem info24 : (Try.prog.info? 24).map (fun i => (i.zero, i.size, i.bytes)) = some (some (.agg #[.int .i64 0, .int .i64 0, .slice none 0 0]), 3, 40) := by kernel_rfl
theorem info22 : (Try.prog.info? 22).map (fun i => (i.zero, i.size, i.bytes)) = some (some (.slice none 0 0), 1, 24) := by kernel_rfl
end Go.Proofs.Ytnepchdpgbdogaa.Ct
