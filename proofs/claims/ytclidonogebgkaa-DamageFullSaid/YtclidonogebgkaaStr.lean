/- Strings: append of a string's bytes onto a row of the call's own; a row of bytes as a string. -/
import Derived.Test.YtclidonogebgkaaCw
import Derived.Deep.AppendSrc
import Derived.Deep.Upon
import Derived.Laws.BytesArg
import Derived.Laws.IdiomStrings
namespace Go.Proofs.Ytclidonogebgkaa.Ct
open Go.ChangeShapes Go.WideShapes Go.RowKit Mm

theorem setCells_row (g : Nat) (t : TypeId) : ∀ (vs : List Value) (o : Nat) (w : World) (cur : Array Value), w.heap[g]? = some (.cells cur t (0, 0)) → o + vs.length ≤ cur.size →
    ∃ cur', (w.setCells g o vs).heap[g]? = some (.cells cur' t (0, 0)) ∧ cur'.size = cur.size ∧ cur'.toList.take (o + vs.length) = cur.toList.take o ++ vs
  | [], o, w, cur, h, _ => ⟨cur, h, rfl, by simp⟩
  | v :: vs, o, w, cur, h, hl => by
    simp only [List.length_cons] at hl
    have h1 : (w.setCell ⟨g, o, none⟩ v).heap[g]? = some (.cells (cur.setIfInBounds o v) t (0, 0)) := Blk.set (t := t) h o v
    obtain ⟨cur', e1, e2, e3⟩ := setCells_row g t vs (o + 1) _ _ h1 (by simp; omega)
    refine ⟨cur', e1, by simpa using e2, ?_⟩
    have ho : o < cur.toList.length := by simp; omega
    rw [show o + (v :: vs).length = o + 1 + vs.length by simp; omega, e3]
    have : (cur.setIfInBounds o v).toList.take (o + 1) = cur.toList.take o ++ [v] := by
      rw [Array.toList_setIfInBounds, List.take_succ_eq_append_getElem (by simpa using ho)]
      simp [List.take_set_of_le (Nat.le_refl o)]
    rw [this]
    simp

theorem tape_sc (g : Nat) : ∀ (vs : List Value) (o : Nat) (w : World), (w.setCells g o vs).tape = w.tape
  | [], _, _ => rfl
  | _ :: vs, o, w => tape_sc g vs (o + 1) (w.setCell ⟨g, o, none⟩ _)
theorem size_sc (g : Nat) : ∀ (vs : List Value) (o : Nat) (w : World), (w.setCells g o vs).heap.size = w.heap.size
  | [], _, _ => rfl
  | v :: vs, o, w => (size_sc g vs (o + 1) (w.setCell ⟨g, o, none⟩ v)).trans (by simp [World.setCell])
section
variable {P : Program} (w : World)
theorem run_append_str (base : Nat) (t tx ty e : TypeId) (i : TypeInfo) (z : Value) (ht : P.underlying t = some (.slice e)) (hx : P.underlying tx = some .string) (hi : P.info? e = some i) (hz : i.zero = some z)
    (hsize : i.size = 1) (hby : i.bytes = 1) (hzs : z.cells.size = 1)
    (v : Value) (n : Nat) (xs : List Value) (hown : w.ownsRow base e 1 v n xs) (s : ByteArray)
    (h63 : n + s.size ≤ maxLen) (hbytes : n + s.size ≤ 140737488355328) (hbase : base ≤ w.heap.size) :
    ∃ v' w', (Builtin.append_ #[t, tx] ty #[v, .string s]).run P w = .ok v' w' ∧ w'.ownsRow base e 1 v' (n + s.size) (xs ++ byteCells s) ∧ Only (fun k => v.ownBlock = some k) w w' ∧
      (v'.ownBlock = v.ownBlock ∨ v'.ownBlock = some w.heap.size) := by
  have hsrc : Src P i.size tx (.string s) s.size (byteCells s) w := by rw [hsize]; exact Src.ofString w hx s
  have hbl : (byteCells s).length = s.size := byteCells_length s
  have hsmall : n + s.size ≤ 9223372036854775807 := by simp only [maxLen] at h63; omega
  have hlen : (xs ++ byteCells s).length = (n + s.size) * 1 := by rw [List.length_append, hown.1, hbl]; omega
  have grown : ∀ (old : Nat), old < n + s.size → ∀ (row : Option Nat),
      (w.drew.alloc (.cells ((xs ++ byteCells s).toArray ++ Builtin.zeroCells z.cells (grownCap w (n + s.size) old e - (n + s.size))) e)).ownsRow base e 1
        (.slice (some ⟨w.heap.size, 0, none⟩) (n + s.size) (grownCap w (n + s.size) old e)) (n + s.size) (xs ++ byteCells s) ∧
      w.grownBy (w.drew.alloc (.cells ((xs ++ byteCells s).toArray ++ Builtin.zeroCells z.cells (grownCap w (n + s.size) old e - (n + s.size))) e)) row := by
    intro old ho row
    have hge := grownCap_ge w (n + s.size) old e
    have hcm : grownCap w (n + s.size) old e ≤ maxLen := grownCap_le_maxLen w (n + s.size) old e h63
    refine ⟨⟨hlen, .inr ⟨w.heap.size, _, _, rfl, hbase, heap_alloc_new w.drew _, hge, hcm, ?_, ?_⟩⟩, ⟨rfl, rfl, rfl, by simp, fun k hk _ => heap_alloc_old w.drew _ hk⟩⟩
    · simp only [Array.size_append, List.size_toArray, size_zeroCells, hzs, hlen]
      omega
    · simp only [Array.toList_append]
      rw [← hlen]
      exact List.take_left
  have hnc : ∀ old, (n + s.size) * i.bytes ≤ 140737488355328 := fun _ => by rw [hby]; omega
  rcases hown.2 with ⟨rfl, rfl⟩ | ⟨g, cap, cur, rfl, hbg, hg, hnc', hcm, hcs, htake⟩
  · have hx0 : xs = [] := List.eq_nil_of_length_eq_zero (by simpa using hown.1)
    subst hx0
    by_cases hm : s.size = 0
    · have hn : byteCells s = [] := List.eq_nil_of_length_eq_zero (by rw [hbl, hm])
      refine ⟨.slice none 0 0, w, ?_, by rw [hn, hm]; exact World.ownsRow_nil w base e 1, Only.refl _ _, Or.inl rfl⟩
      have hl0 : (Builtin.lenOf (.string s)).run P w = .ok 0 w := by rw [← hm]; exact hsrc.len w
      have hc0 : (Builtin.firstCells i.size 0 (.string s)).run P w = .ok #[] w := by have := hsrc.cells; rw [hn, hm] at this; exact this
      simp [Builtin.append_, run_underlying ht, run_underlying hx, sizeOf, typeInfo, hi, hl0, hc0]
    · have hr := run_append_grow_src (P := P) w t tx ty e i z ht hi hz none 0 0 [] (run_firstCells_none w.drew i.size 0 0 0) (.string s) s.size (byteCells s) hsrc (by omega) (by omega) (growslice_fits (by omega) (by rw [hby]; omega))
      have hgr := grown 0 (by omega) (Value.ownBlock (.slice none 0 0))
      simp only [Nat.zero_add, List.nil_append] at hgr hr ⊢
      exact ⟨_, _, hr, hgr.1, Only.of_grown hgr.2, Or.inr rfl⟩
  · by_cases hroom : n + s.size ≤ cap
    · have hfit : n + (byteCells s).length ≤ cur.size := by rw [hbl]; omega
      have hcell : ∀ j, j < (byteCells s).length → (w.cell? ⟨g, 0 + n * i.size + j, none⟩).isSome = true := fun j hj => by
        rw [hsize, Nat.mul_one, Nat.zero_add, cell_of_row w g _ cur e (0, 0) hg, Array.getElem?_eq_getElem (by omega)]; rfl
      have hfr : ∀ j, j < (byteCells s).length → w.frozen? ⟨g, 0 + n * i.size + j, none⟩ = false := fun j _ => frozen_of_row w g _ cur e hg
      have hr := run_append_room_src (P := P) w t tx ty e i ht hi g 0 n cap (.string s) s.size (byteCells s) hsrc hroom hcell hfr
      rw [hsize, Nat.mul_one, Nat.zero_add] at hr
      obtain ⟨cur', e1, e2, e3⟩ := setCells_row g e (byteCells s) n w cur hg hfit
      refine ⟨_, _, hr, ⟨hlen, .inr ⟨g, cap, cur', rfl, hbg, e1, hroom, hcm, by rw [e2, hcs], ?_⟩⟩, ?_, Or.inl rfl⟩
      · rw [Nat.mul_one, ← hbl, e3]
        rw [Nat.mul_one] at htake
        rw [htake]
      · refine ⟨World.os_setCells w g n _, ?_, World.output_setCells w g n _, ?_, fun k hk hne => World.heap_setCells_other w g n _ hk (fun e => hne (by simp [Value.ownBlock, e]))⟩
        · exact tape_sc g _ n w
        · rw [size_sc]; exact Nat.le_refl _
    · have hold : (Builtin.firstCells i.size n (.slice (some ⟨g, 0, none⟩) n cap)).run P w.drew = .ok xs.toArray w.drew := by
        rw [hsize]
        exact run_firstCells_some w.drew 1 n ⟨g, 0, none⟩ n cap xs hown.1 (fun j u hu => by have := hown.cells (g := g) rfl j u hu; simpa using this)
      have hr := run_append_grow_src (P := P) w t tx ty e i z ht hi hz (some ⟨g, 0, none⟩) n cap xs hold (.string s) s.size (byteCells s) hsrc (by omega) (by omega) (growslice_fits (by omega) (by rw [hby]; omega))
      have hgr := grown cap (by omega) (Value.ownBlock (.slice (some ⟨g, 0, none⟩) n cap))
      exact ⟨_, _, hr, hgr.1, Only.of_grown hgr.2, Or.inr rfl⟩
theorem wpList_append_str {ops : Array Oper} {rest : List Oper} {o : Oper} {a : Act} {Q : Exit → Act → World → Prop} (hgd : o.guard = none) (y x : Operand) (t tx : TypeId)
    (ho : o.op = .call { callee := .builtin .append, args := #[y, x], argTypes := #[t, tx] })
    (base : Nat) (e : TypeId) (i : TypeInfo) (z : Value) (ht : P.underlying t = some (.slice e)) (htx : P.underlying tx = some .string) (hi : P.info? e = some i) (hz : i.zero = some z)
    (hsize : i.size = 1) (hby : i.bytes = 1) (hzs : z.cells.size = 1)
    (v : Value) (n : Nat) (xs : List Value) (hs : a.eval y = v) (hown : w.ownsRow base e 1 v n xs)
    (s : ByteArray) (hx : a.eval x = .string s)
    (h63 : n + s.size ≤ maxLen) (hbytes : n + s.size ≤ 140737488355328) (hbase : base ≤ w.heap.size)
    (h : ∀ v' w', w'.ownsRow base e 1 v' (n + s.size) (xs ++ byteCells s) → Only (fun k => v.ownBlock = some k) w w' → (v'.ownBlock = v.ownBlock ∨ v'.ownBlock = some w.heap.size) → wpList P ops Q rest (a.put o.dst v') w') : wpList P ops Q (o :: rest) a w := by
  refine wpList_plain hgd fun K hK => ?_
  obtain ⟨v', w', hrun, h2, h3, h4⟩ := run_append_str (P := P) w base t tx o.type e i z ht htx hi hz hsize hby hzs v n xs hown s h63 hbytes hbase
  unfold Oper.wp execOp
  simp only [ho, resolve, invoke, builtin, Sem.run_bind, Sem.run_pure, Result.andThen_ok, List.map_toArray, List.map_cons, List.map_nil, hs, hx, hrun]
  exact hK _ _ (h v' w' h2 h3 h4)
/-- a string's bytes as numbers -/
def numsOf (s : ByteArray) : List Int := s.data.toList.map fun b => (b.toNat : Int)
theorem byteCells_nums (s : ByteArray) : byteCells s = (numsOf s).map (Value.int .u8) := by simp [byteCells, numsOf]
theorem numsOf_len (s : ByteArray) : (numsOf s).length = s.size := by unfold numsOf; rw [List.length_map, Array.length_toList]; rfl
/-- a row of bytes of the call's own, as a string -/
theorem conv_own {W : World} {b n : Nat} {v : Value} {ns : List Int} (h : W.ownsRow b 5 1 v n (ns.map (Value.int .u8))) (hn : ns.length = n) : (convert 43 9 v).run Try.prog W = .ok (.string (strOfNums ns)) W := by
  rcases h.2 with ⟨rfl, rfl⟩ | ⟨g, cap, cur, rfl, _, hg, hnc, hcm, hcs, htake⟩
  · obtain rfl : ns = [] := List.eq_nil_of_length_eq_zero hn
    exact run_convert_bytes_nil W 43 5 Try.underlying43 Try.underlying5 0 0 9 Try.underlying9
  · refine run_convert_bytes_arg W 43 5 Try.underlying43 Try.underlying5 g 0 n cap ns hn (fun i hi => ?_) 9 Try.underlying9
    have := h.cells (g := g) rfl i (.int .u8 (ns.getD i 0)) (by rw [List.getElem?_map, List.getElem?_eq_getElem (by omega)]; simp [List.getD, List.getElem?_eq_getElem (show i < ns.length by omega)])
    rw [Mm.add_plain] at this
    rw [Nat.zero_add]
    exact this
end
end Go.Proofs.Ytclidonogebgkaa.Ct
