/- Sorting a row of one's own: what the sort leaves. -/
import Derived.Test.YtjkeampckinniaaPc
namespace Go.Proofs.Ytjkeampckinniaa.Ct
open Go.ChangeShapes Go.WideShapes Go.RowKit Mm Go.Sort
section
variable {α : Type} [Inhabited α] (enc : α → Value)
theorem holds_blk {w : World} {g : Nat} {cur : Array Value} {e : TypeId} {ss : List α} (hb : w.heap[g]? = some (.cells cur e (0, 0))) (ht : cur.toList.take ss.length = ss.map enc) : Holds enc w g 0 ss.toArray := by
  intro j hj
  have hj' : j < ss.length := by simpa using hj
  refine ⟨?_, by simp [World.frozen?, hb]⟩
  have h1 : (cur.toList.take ss.length)[j]? = (ss.map enc)[j]? := by rw [ht]
  rw [List.getElem?_take_of_lt hj'] at h1
  simp only [World.cell?, hb, Nat.zero_add]
  simp only [Option.isSome_none, Bool.false_eq_true, if_false]
  rw [← Array.getElem?_toList, h1]
  simp [hj']
theorem heap_sorted {w : World} {g n : Nat} {os : Array Obj} {cur : Array Value} {e : TypeId} {fr : Nat × Nat} (d : Array α) (hb : w.heap[g]? = some (.cells cur e fr)) :
    (grow (putRow enc (Sort.ahead w n) g 0 d) os).heap[g]? = some (.cells (putCells enc 0 d cur) e fr) := by
  have hg : g < w.heap.size := (Array.getElem?_eq_some_iff.1 hb).1
  rw [heap_grow_old _ _ (by simpa using hg)]
  simp [putRow, mapBlock, Sort.ahead, Array.getElem?_modify, hb, onCells]
theorem grownBy_sorted {w : World} {g n : Nat} {os : Array Obj} (d : Array α) : w.grownBy (grow (putRow enc (Sort.ahead w n) g 0 d) os) (some g) := by
  refine ⟨rfl, rfl, rfl, by simp, fun k hk hne => ?_⟩
  rw [heap_grow_old _ _ (by simpa using hk)]
  have : g ≠ k := fun e => hne (by rw [e])
  simp [putRow, mapBlock, Sort.ahead, Array.getElem?_modify, this]
theorem take_putCells (cur : Array Value) (ts : List α) (h : ts.length ≤ cur.size) : (putCells enc 0 ts.toArray cur).toList.take ts.length = ts.map enc := by
  apply List.ext_getElem?
  intro j
  by_cases hj : j < ts.length
  · rw [List.getElem?_take_of_lt hj, Array.getElem?_toList]
    simp [putCells, hj, show j < cur.size by omega]
  · rw [List.getElem?_take_eq_none (by omega), List.getElem?_eq_none (by simp; omega)]
/-- BEHIND THE SORT the same slice owns the sorted list. -/
theorem ownsRow_sorted {w : World} {base g cap n : Nat} {e : TypeId} {os : Array Obj} {cur : Array Value} {ss ts : List α} (hl : ts.length = ss.length) (hbase : base ≤ g) (hb : w.heap[g]? = some (.cells cur e (0, 0)))
    (h1 : ss.length ≤ cap) (h2 : cap ≤ maxLen) (h3 : cur.size = cap * 1) :
    (grow (putRow enc (Sort.ahead w n) g 0 ts.toArray) os).ownsRow base e 1 (.slice (some ⟨g, 0, none⟩) ss.length cap) ss.length (ts.map enc) :=
  ⟨by simp [hl], .inr ⟨g, cap, _, rfl, hbase, heap_sorted enc _ hb, h1, h2, by simp [putCells, h3], by rw [Nat.mul_one, ← hl]; exact take_putCells enc cur ts (by omega)⟩⟩
end
/-- a single pile: where it lies, what it weighs, its thing -/
structure It where
  g : Nat
  w : Nat
  t : Nat
deriving DecidableEq
instance : Inhabited It := ⟨⟨0, 0, 0⟩⟩
def itB (w : World) (x : It) : Prop := Blk w x.g 121 #[.int .i64 x.w, .int .i64 x.t, .pointer none, .pointer none]
def cfI (x y : It) : Int := cfP x.w x.t y.w y.t
theorem cfI_lt (x y : It) : cfI x y < 0 ↔ x.w < y.w ∨ (x.w = y.w ∧ y.t < x.t) := by
  unfold cfI cfP orI cmpI
  repeat' split
  all_goals omega
/-- a single pile that lies there -/
structure Itw (w : World) where
  v : It
  h : itB w v
def encI (w : World) (x : Itw w) : Value := P x.1.g
def cfW (w : World) (x y : Itw w) : Int := cfI x.1 y.1
theorem ltW (w : World) (x y : Itw w) : ltOf (cfW w) x y = true ↔ x.1.w < y.1.w ∨ (x.1.w = y.1.w ∧ y.1.t < x.1.t) := by
  unfold ltOf cfW
  rw [decide_eq_true_iff]
  exact cfI_lt _ _
theorem swoW (w : World) : SWO (ltOf (cfW w)) where
  irrefl x := by
    have := ltW w x x
    cases h : ltOf (cfW w) x x
    · rfl
    · rw [this] at h; omega
  trans x y z h1 h2 := by rw [ltW] at *; omega
  ntrans x y z h1 h2 := by
    have a := ltW w x z
    have b := ltW w x y
    have c := ltW w y z
    rw [h1] at b
    rw [h2] at c
    cases h : ltOf (cfW w) x z
    · rfl
    · rw [h] at a
      simp at a b c
      omega
theorem only_sort {α : Type} [Inhabited α] (enc : α → Value) (w : World) (g n : Nat) (d : Array α) (os : Array Obj) : Only (One g) w (sortWorld enc w g 0 n d os) :=
  (Only.of_grown (grownBy_sorted enc d)).mono fun k hk => by injection hk with hk; exact hk.symm
theorem lays60 (w : World) [Inhabited (Itw w)] (g size : Nat) (hg : ∀ cs, ¬ Blk w g 121 cs) : CmpLays1 Try.prog 60 #[] (encI w) (cfW w) g 0 size w := by
  intro m os dk _ x y
  have o := only_sort (encI w) w g m dk os
  have h1 := Blk.only x.2 o fun e => hg _ (by have : x.1.g = g := e; rw [← this]; exact x.2)
  have h2 := Blk.only y.2 o fun e => hg _ (by have : y.1.g = g := e; rw [← this]; exact y.2)
  exact less60 _ _ _ _ _ _ _ _ _ _ _ h1 h2
/-- pointers to single piles -/
def itC (l : List It) : List Value := l.map fun x => P x.g
theorem itC_len (l : List It) : (itC l).length = l.length := by simp [itC]
/-- sorted: by weight, of equal ones the greater number first -/
def SrtI (l : List It) : Prop := l.Pairwise fun x y => ¬ (y.w < x.w ∨ (y.w = x.w ∧ x.t < y.t))
def wrapI (w : World) : (l : List It) → (∀ x ∈ l, itB w x) → List (Itw w)
  | [], _ => []
  | x :: l, h => ⟨x, h x (List.mem_cons_self ..)⟩ :: wrapI w l (fun y hy => h y (List.mem_cons_of_mem _ hy))
theorem wrapI_length (w : World) : ∀ (l : List It) (h : ∀ x ∈ l, itB w x), (wrapI w l h).length = l.length
  | [], _ => rfl
  | x :: l, h => by unfold wrapI; rw [List.length_cons, wrapI_length w l, List.length_cons]
theorem wrapI_map (w : World) : ∀ (l : List It) (h : ∀ x ∈ l, itB w x), (wrapI w l h).map (·.1) = l
  | [], _ => rfl
  | x :: l, h => by unfold wrapI; rw [List.map_cons, wrapI_map w l]
theorem encI_itC (w : World) (l : List (Itw w)) : l.map (encI w) = itC (l.map (·.1)) := by simp only [itC, List.map_map]; rfl
end Go.Proofs.Ytjkeampckinniaa.Ct
