/- Order: the program's. -/
import Derived.Test.YtfaciljklligeaaSh
import Derived.Test.YtfaciljklligeaaRo
namespace Go.Proofs.Ytfaciljklligeaa.Ct
open Go.ChangeShapes Go.WideShapes Go.RowKit Mm Go.Sort
/-- a double's bits -/
structure D64 where
  b : Nat
  lt : b < 2 ^ 64
instance : Inhabited D64 := ⟨⟨0, by decide⟩⟩
def encD (x : D64) : Value := .float .f64 x.1
def cfD (x y : D64) : Int := cfK x.1 y.1
theorem ltD (x y : D64) : ltOf cfD x y = decide (key x.1 < key y.1) := by
  unfold ltOf cfD cfK
  by_cases h1 : key x.1 < key y.1
  · simp [h1]
  · by_cases h2 : key y.1 < key x.1 <;> simp [h1, h2]
theorem swoD : SWO (ltOf cfD) where
  irrefl x := by rw [ltD]; simp
  trans x y z h1 h2 := by rw [ltD] at *; simp at *; omega
  ntrans x y z h1 h2 := by rw [ltD] at *; simp at *; omega
theorem reads48 (blk off size : Nat) (w : World) : CmpReads Try.prog 48 #[] encD cfD blk off size w := fun _ _ _ _ x y =>
  (cmp48 x.2 y.2 _).mono fun _ _ ⟨he, hw⟩ => ⟨he, 0, hw.symm⟩
def flD (l : List D64) : List Value := l.map encD
theorem holds_blk {w : World} {g : Nat} {cur : Array Value} {e : TypeId} {ss : List D64} (hb : w.heap[g]? = some (.cells cur e (0, 0))) (ht : cur.toList.take ss.length = flD ss) : Holds encD w g 0 ss.toArray := by
  intro j hj
  have hj' : j < ss.length := by simpa using hj
  refine ⟨?_, by simp [World.frozen?, hb]⟩
  have h1 : (cur.toList.take ss.length)[j]? = (flD ss)[j]? := by rw [ht]
  rw [List.getElem?_take_of_lt hj'] at h1
  simp only [World.cell?, hb, Nat.zero_add]
  simp only [Option.isSome_none, Bool.false_eq_true, if_false]
  rw [← Array.getElem?_toList, h1]
  simp [flD, hj']
theorem heap_sortedD {w : World} {g n : Nat} {os : Array Obj} {cur : Array Value} {e : TypeId} {fr : Nat × Nat} (d : Array D64) (hb : w.heap[g]? = some (.cells cur e fr)) :
    (grow (putRow encD (Sort.ahead w n) g 0 d) os).heap[g]? = some (.cells (putCells encD 0 d cur) e fr) := by
  have hg : g < w.heap.size := (Array.getElem?_eq_some_iff.1 hb).1
  rw [heap_grow_old _ _ (by simpa using hg)]
  simp [putRow, mapBlock, Sort.ahead, Array.getElem?_modify, hb, onCells]
theorem grownBy_sortedD {w : World} {g n : Nat} {os : Array Obj} (d : Array D64) : w.grownBy (grow (putRow encD (Sort.ahead w n) g 0 d) os) (some g) := by
  refine ⟨rfl, rfl, rfl, by simp, fun k hk hne => ?_⟩
  rw [heap_grow_old _ _ (by simpa using hk)]
  have : g ≠ k := fun e => hne (by rw [e])
  simp [putRow, mapBlock, Sort.ahead, Array.getElem?_modify, this]
theorem take_putCellsD (cur : Array Value) (ts : List D64) (h : ts.length ≤ cur.size) : (putCells encD 0 ts.toArray cur).toList.take ts.length = flD ts := by
  unfold flD
  apply List.ext_getElem?
  intro j
  by_cases hj : j < ts.length
  · rw [List.getElem?_take_of_lt hj, Array.getElem?_toList]
    simp [putCells, hj, show j < cur.size by omega]
  · rw [List.getElem?_take_eq_none (by omega), List.getElem?_eq_none (by simp; omega)]
/-- BEHIND THE SORT the same slice owns the sorted list. -/
theorem ownsRow_sortedD {w : World} {base g cap n : Nat} {e : TypeId} {os : Array Obj} {cur : Array Value} {ss ts : List D64} (hl : ts.length = ss.length) (hbase : base ≤ g) (hb : w.heap[g]? = some (.cells cur e (0, 0)))
    (h1 : ss.length ≤ cap) (h2 : cap ≤ maxLen) (h3 : cur.size = cap * 1) :
    (grow (putRow encD (Sort.ahead w n) g 0 ts.toArray) os).ownsRow base e 1 (.slice (some ⟨g, 0, none⟩) ss.length cap) ss.length (flD ts) :=
  ⟨by simp [flD, hl], .inr ⟨g, cap, _, rfl, hbase, heap_sortedD _ hb, h1, h2, by simp [putCells, h3], by rw [Nat.mul_one, ← hl]; exact take_putCellsD cur ts (by omega)⟩⟩
def wrapD : (l : List Nat) → (∀ x ∈ l, x < 2 ^ 64) → List D64
  | [], _ => []
  | x :: l, h => ⟨x, h x (List.mem_cons_self ..)⟩ :: wrapD l (fun y hy => h y (List.mem_cons_of_mem _ hy))
theorem wrapD_length : ∀ (l : List Nat) (h : ∀ x ∈ l, x < 2 ^ 64), (wrapD l h).length = l.length
  | [], _ => rfl
  | x :: l, h => by unfold wrapD; rw [List.length_cons, wrapD_length l, List.length_cons]
theorem wrapD_map : ∀ (l : List Nat) (h : ∀ x ∈ l, x < 2 ^ 64), (wrapD l h).map D64.b = l
  | [], _ => rfl
  | x :: l, h => by unfold wrapD; rw [List.map_cons, wrapD_map l]
theorem flD_flC (l : List D64) : flD l = flC (l.map D64.b) := by simp only [flD, flC, List.map_map]; rfl
def Plain (A : Option Addr) : Prop := ∀ ad, A = some ad → ad = ⟨ad.block, ad.off, none⟩
set_option maxHeartbeats 1600000 in
theorem order30 (w : World) (A : Option Addr) (c : Nat) (l : List Nat) (hr : Rds w 1 A l.length (flC l)) (hp : Plain A) (hl : l.length ≤ 17592186043904) (hb : ∀ x ∈ l, x < 2 ^ 64) : Calls Try.prog 30 #[.slice A l.length c] w (OrdPost l w) := by
  have hclone : Calls Try.prog 46 #[.slice A l.length c] w fun e w' => ∃ v', e = .returned v' ∧ w'.ownsRow w.heap.size 25 1 v' l.length (flC l) ∧ Only No w w' := by
    rcases A with _ | ad
    · obtain rfl : l = [] := by
        cases l with
        | nil => rfl
        | cons x l => obtain ⟨ad, h, _⟩ := hr.2 (by simp); cases h
      exact (Sh.Try.slices_Clone_nil 0 c w).mono fun _ _ ⟨he, hw⟩ => ⟨_, he, by rw [hw]; exact World.ownsRow_nil _ _ _ _, by rw [hw]; exact .refl _ _⟩
    · obtain ⟨i0, hi, hz0, hz1, hz2⟩ := info_parts info25
      have e := hp ad rfl
      obtain ⟨b, off, at'⟩ := ad
      simp at e
      subst e
      refine (Sh.Try.slices_Clone i0 (.float .f64 0) 1 8 hi hz0 hz1 hz2 rfl (by decide) Try.sizeOf25 b off l.length c (flC l) w (by simp [flC]) (by unfold maxLen; omega) (by omega) ?_ ?_).mono ?_
      · intro j u hu
        obtain ⟨ad, e, _, hc⟩ := hr.2 (by
          cases l with
          | nil => simp [flC] at hu
          | cons x l => simp)
        cases e
        have := hc j u hu
        unfold Addr.add at this
        split at this
        · rename_i h; subst h; exact this
        · exact this
      · intro u hu
        obtain ⟨x, _, rfl⟩ := List.mem_map.1 hu
        rfl
      · rintro e w' ⟨v', he, ho, _, hB⟩
        exact ⟨v', he, ho, Only.of_below hB⟩
  have eg : ∀ args w, (callFunc 48 args).run Try.prog w = .ok (.enter 48 args) w := enters_of Try.func48 (by kernel_rfl) rfl
  have hn : Hid (∀ (p : Option Addr) (cap : Nat) (fv : Value) (w : World), Calls Try.prog 47 #[.slice p 0 cap, fv] w fun e w' => e = .returned (.tuple #[]) ∧ w' = w) := fun p cap fv w => Sh.Try.slices_SortFunc_none (α := Nat) p cap fv w
  have HB := Lib.hid hb
  clear hr hp hb
  go_enter Try.func30, Try.ntmps30
  go_wp2_with fail
  refine hclone.mono ?_
  rintro e w1 ⟨v, rfl, hown, hO⟩
  replace hO := Lib.hid hO
  by_cases h0 : l = []
  · subst h0
    obtain ⟨A', c', rfl⟩ := own_slice hown
    have hown' := Lib.hid hown
    clear hown hclone
    go_wp2_with (go_at_call 47; refine (hn.out _ _ _ _).mono ?_; rintro e w' ⟨rfl, rfl⟩)
    go_ret
    exact ⟨_, [], rfl, .refl _, List.Pairwise.nil, hown'.out, hO.out⟩
  · have hpos : 0 < l.length := List.length_pos_iff.2 h0
    obtain ⟨g, cap, cur, rfl, hg, hcell, h1, h2, h3, h4⟩ : ∃ g cap cur, v = .slice (some ⟨g, 0, none⟩) l.length cap ∧ w.heap.size ≤ g ∧ w1.heap[g]? = some (.cells cur 25 (0, 0)) ∧ l.length ≤ cap ∧ cap ≤ maxLen ∧ cur.size = cap * 1 ∧ cur.toList.take (l.length * 1) = flC l := by
      rcases hown.2 with ⟨_, h⟩ | ⟨g, cap, cur, h⟩
      · omega
      · exact ⟨g, cap, cur, h⟩
    have hwl := wrapD_length l HB.out
    have hH := holds_blk (ss := wrapD l HB.out) hcell (by rw [hwl, flD_flC, wrapD_map, ← h4, Nat.mul_one])
    have hS := Sh.Try.slices_SortFunc encD (fun _ => rfl) cfD swoD 48 #[] g 0 cap (wrapD l HB.out).toArray w1 eg (reads48 g 0 _ w1).lays hH (Array.getElem?_eq_some_iff.1 hcell).1 (by simp [hwl]; omega)
    rw [show (wrapD l HB.out).toArray.size = l.length by simp [hwl]] at hS
    replace hS := Lib.hid hS
    clear hH hown hclone
    go_wp2_with fail
    refine hS.out.mono ?_
    rintro e w2 ⟨rfl, d', n, os, hperm, hsort, rfl⟩
    have hsz : d'.size = l.length := by rw [hperm.1]; simp [hwl]
    have hperm' : d'.toList.Perm (wrapD l HB.out) := by
      have h := hperm.2.2
      rw [show d'.extract 0 l.length = d' by rw [← hsz]; simp, show (wrapD l HB.out).toArray.extract 0 l.length = (wrapD l HB.out).toArray by rw [← hwl]; simp] at h
      simpa using h
    have hown2 := ownsRow_sortedD (n := n) (os := os) (ss := wrapD l HB.out) (ts := d'.toList) (by simp [hwl, hsz]) hg hcell (by omega) h2 h3
    rw [hwl, flD_flC] at hown2
    have hO2 : Only No w (grow (putRow encD (Sort.ahead w1 n) g 0 d') os) := hO.out.then (Only.of_grown (grownBy_sortedD d')) (fun i hi => .inr (by cases hi; exact hg))
    have hown3 := Lib.hid hown2
    have hO3 := Lib.hid hO2
    unfold Go.Proofs.sortWorld
    clear hown2 hO2 hS
    go_wp2_with fail
    go_ret
    refine ⟨_, d'.toList.map D64.b, rfl, ?_, ?_, by simpa using hown3.out, hO3.out⟩
    · have := hperm'.map D64.b
      rw [wrapD_map] at this
      exact this
    · unfold Sorted
      rw [List.pairwise_map, List.pairwise_iff_getElem]
      intro i j hi hj hij
      have hs := hsort i j (by omega) hij (by simp at hj; omega)
      rw [ltD] at hs
      have hs := of_decide_eq_false hs
      rw [getElem!_pos _ _ (by simp at hj; exact hj), getElem!_pos _ _ (by simp at hi; exact hi)] at hs
      simp
      omega
end Go.Proofs.Ytfaciljklligeaa.Ct
