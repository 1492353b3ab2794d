/- Kinds of segments: closures. -/
import Derived.Test.YtehnahikfemodaaCm
namespace Go.Proofs.Ytehnahikfemodaa.Ct
open Go.ChangeShapes Go.WideShapes Go.RowKit Mm

/-- does s begin with p? -/
def begins (s p : ByteArray) : Bool := decide (p.size ≤ s.size) && ((s.extract 0 p.size).toList == p.toList)
abbrev P (g : Nat) : Value := .pointer (some ⟨g, 0, none⟩)
set_option maxHeartbeats 800000 in
theorem prefix52 (s p : ByteArray) (w : World) : Calls Try.prog 52 #[.string s, .string p] w fun e w' => e = .returned (.bool (begins s p)) ∧ w = w' := by
  unfold begins
  by_cases h : p.size ≤ s.size
  · have h' : (p.size : Int) ≤ s.size := by omega
    have hd : decide (p.size ≤ s.size) = true := decide_eq_true h
    rw [hd]
    go_enter Try.func52, Try.ntmps52
    go_wp2
    go_ret
    exact ⟨rfl, rfl⟩
  · have h' : ¬ (p.size : Int) ≤ s.size := by omega
    have hd : decide (p.size ≤ s.size) = false := decide_eq_false h
    rw [hd]
    go_enter Try.func52, Try.ntmps52
    go_wp2
    go_ret
    exact ⟨rfl, rfl⟩
set_option maxHeartbeats 800000 in
theorem prefix48 (s p : ByteArray) (w : World) : Calls Try.prog 48 #[.string s, .string p] w fun e w' => e = .returned (.bool (begins s p)) ∧ w = w' := by
  go_enter Try.func48, Try.ntmps48
  go_wp2_with fail
  refine (prefix52 s p w).mono ?_
  rintro e w1 ⟨rfl, rfl⟩
  go_wp2
  go_ret
  exact ⟨rfl, rfl⟩
/-- is a segment of that kind? -/
def isKind (code : Int) (head : ByteArray) (least : Int) (x : Ex) : Bool := x.1 == code && begins x.2 head && decide (least ≤ x.2.size)
/-- the closure that kind makes -/
structure KC (w : World) (f : Value) (code : Int) (head : ByteArray) (least : Int) (g1 g2 g3 : Nat) : Prop where
  f : f = .func (.func 47) #[] #[P g1, P g2, P g3]
  b1 : Blk w g1 5 #[.int .u8 code]
  b2 : Blk w g2 9 #[.string head]
  b3 : Blk w g3 3 #[.int .i64 least]
theorem KC.no {w w' : World} {f : Value} {code : Int} {head : ByteArray} {least : Int} {g1 g2 g3 : Nat} (h : KC w f code head least g1 g2 g3) (ho : Only No w w') : KC w' f code head least g1 g2 g3 :=
  ⟨h.f, h.b1.only ho id, h.b2.only ho id, h.b3.only ho id⟩
theorem kind_any (code : Int) (head : ByteArray) (least : Int) (w : World) : Calls Try.prog 36 #[.int .u8 code, .string head, .int .i64 least] w fun e w' => ∃ f, e = .returned f ∧ KC w' f code head least w.heap.size (w.heap.size + 1) (w.heap.size + 2) ∧ Only No w w' := by
  have hmf : ∀ (fn : Fn) (first cap : Array Value) (w : World), (Instr.makeFunc fn first cap).run Try.prog w = .ok (.func fn first cap) w := fun _ _ _ _ => rfl
  go_enter Try.func36, Try.ntmps36
  go_wp2
  go_ret
  refine ⟨_, rfl, ⟨rfl, ((Blk.new _ _ _).alloc _).alloc _, (blk_new2 _ _ _ _).alloc _, ?_⟩, (((Only.refl _ _).alloc _).alloc _).alloc _⟩
  simpa using Blk.new ((w.alloc (.cells #[.int .u8 code] 5)).alloc (.cells #[.string head] 9)) 3 #[.int .i64 least]
set_option maxHeartbeats 800000 in
theorem kind1_any (code : Int) (head : ByteArray) (least : Int) (g1 g2 g3 : Nat) (x : Ex) (f : Value) (w : World) (h : KC w f code head least g1 g2 g3) :
    Calls Try.prog 47 #[.agg #[.int .u8 x.1, .string x.2], P g1, P g2, P g3] w fun e w' => e = .returned (.bool (isKind code head least x)) ∧ Only No w w' := by
  have c1 : w.cell? ⟨g1, 0, none⟩ = some (.int .u8 code) := h.b1.cell 0
  have c2 : w.cell? ⟨g2, 0, none⟩ = some (.string head) := h.b2.cell 0
  have c3 : w.cell? ⟨g3, 0, none⟩ = some (.int .i64 least) := h.b3.cell 0
  have l1 := h.b1.lt
  have l2 := h.b2.lt
  have l3 := h.b3.lt
  unfold isKind
  cases e1 : (x.1 == code)
  · go_enter Try.func47, Try.ntmps47
    go_wp2_with fail
    go_ret
    exact ⟨by simp, (Only.refl _ _).alloc _⟩
  · go_enter Try.func47, Try.ntmps47
    go_wp2_with fail
    refine (prefix48 x.2 head _).mono ?_
    rintro e w1 ⟨rfl, rfl⟩
    cases e2 : begins x.2 head
    · go_wp2_with fail
      go_ret
      exact ⟨by simp [e2], (Only.refl _ _).alloc _⟩
    · by_cases h3 : least ≤ (x.2.size : Int)
      · have hd : decide (least ≤ (x.2.size : Int)) = true := decide_eq_true h3
        go_wp2_with fail
        go_ret
        exact ⟨by simp [hd, e2], (Only.refl _ _).alloc _⟩
      · have hd : decide (least ≤ (x.2.size : Int)) = false := decide_eq_false h3
        go_wp2_with fail
        go_ret
        exact ⟨by simp [hd, e2], (Only.refl _ _).alloc _⟩
def firstS (q : Ex → Bool) (l : List Ex) : ByteArray := ((l.find? q).map (·.2)).getD { data := #[] }
def firstB (q : Ex → Bool) (l : List Ex) : Bool := (l.find? q).isSome
set_option maxRecDepth 100000 in
set_option maxHeartbeats 1600000 in
theorem first47_any (q : Ex → Bool) (v1 v2 v3 : Value) (A : Option Addr) (m c : Nat) (l : List Ex) (w : World) (hr : Rds w 2 A m (exC l)) (hl : l.length = m) (hm : m * 24 ≤ 140737488355328)
    (hq : ∀ x ∈ l, ∀ w', Only No w w' → Calls Try.prog 47 #[.agg #[.int .u8 x.1, .string x.2], v1, v2, v3] w' fun e w'' => e = .returned (.bool (q x)) ∧ Only No w' w'') :
    Calls Try.prog 35 #[.slice A m c, .func (.func 47) #[] #[v1, v2, v3]] w fun e w' => e = .returned (.tuple #[.string (firstS q l), .bool (firstB q l)]) ∧ Only No w w' := by
  have HR := Lib.hid hr
  have HL := Lib.hid hl
  have HQ := Lib.hid hq
  clear hr hl hq
  go_enter Try.func35, Try.ntmps35
  go_wp2
  go_loopw [10] (fun v10 wr => ∃ k : Nat, v10 = .int .i64 k ∧ k ≤ m ∧ Hid ((l.take k).find? q = none ∧ Only No w wr)) (fun v10 _ => m - (intOf v10).toNat)
  case atStart => exact ⟨0, rfl, by omega, Lib.hid ⟨by simp, Only.refl _ _⟩⟩
  case round =>
    obtain ⟨k, rfl, hk, hI⟩ := hrel
    by_cases hlt : k < m
    · have hlt' : (k : Int) < m := by omega
      obtain ⟨ad, rfl, p0, p1, pb⟩ := ex_cells (HR.out.no hI.out.2) HL.out k hlt
      obtain ⟨u, hu⟩ : ∃ u, Hid (u = l[k]'(by rw [HL.out]; exact hlt)) := ⟨_, Lib.hid rfl⟩
      rw [← hu.out] at p0 p1
      have hmem : Hid (u ∈ l) := Lib.hid (by rw [hu.out]; exact List.getElem_mem _)
      have hfind : Hid ((l.take (k + 1)).find? q = if q u then some u else none) := Lib.hid (by
        rw [List.take_succ_eq_append_getElem (by rw [HL.out]; exact hlt), List.find?_append, hI.out.1, ← hu.out]
        simp only [List.find?_cons, List.find?_nil, Option.none_or]
        cases q u <;> rfl)
      go_wp2_with fail
      refine (HQ.out u hmem.out _ (hI.out.2.alloc _)).mono ?_
      rintro e w1 ⟨rfl, q1⟩
      have hc0 : w1.cell? ⟨wr.heap.size, 0, none⟩ = some (.int .u8 u.1) := ((Blk.new wr 36 #[.int .u8 u.1, .string u.2]).only q1 id).cell 0
      have hc1 : w1.cell? ⟨wr.heap.size, 1, none⟩ = some (.string u.2) := ((Blk.new wr 36 #[.int .u8 u.1, .string u.2]).only q1 id).cell 1
      have o1 : Hid (Only No w w1) := Lib.hid ((hI.out.2.alloc _).trans q1)
      clear q1
      cases hqu : q u
      · rw [hqu] at hfind
        go_wp2_with fail
        go_roundw
        case rel => exact ⟨k + 1, by go_num, by omega, Lib.hid ⟨by simpa using hfind.out, o1.out⟩⟩
        case measure => simp [intOf]; omega
      · rw [hqu] at hfind
        have hall : l.find? q = some u := by
          rw [← List.take_append_drop (k + 1) l, List.find?_append, hfind.out]
          simp
        go_wp2_with fail
        go_ret2
        exact ⟨by simp [firstS, firstB, hall], o1.out⟩
    · have hlt' : ¬ (k : Int) < m := by omega
      have hall : l.find? q = none := by
        have := hI.out.1
        rw [List.take_of_length_le (by rw [HL.out]; omega)] at this
        exact this
      replace hall := Lib.hid hall
      go_wp2
      go_ret2
      exact ⟨by simp [firstS, firstB, hall.out], hI.out.2⟩
set_option maxRecDepth 100000 in
set_option maxHeartbeats 1600000 in
theorem first39_any (q : Ex → Bool) (v1 : Value) (A : Option Addr) (m c : Nat) (l : List Ex) (w : World) (hr : Rds w 2 A m (exC l)) (hl : l.length = m) (hm : m * 24 ≤ 140737488355328)
    (hq : ∀ x ∈ l, ∀ w', Only No w w' → Calls Try.prog 39 #[.agg #[.int .u8 x.1, .string x.2], v1] w' fun e w'' => e = .returned (.bool (q x)) ∧ Only No w' w'') :
    Calls Try.prog 35 #[.slice A m c, .func (.func 39) #[] #[v1]] w fun e w' => e = .returned (.tuple #[.string (firstS q l), .bool (firstB q l)]) ∧ Only No w w' := by
  have HR := Lib.hid hr
  have HL := Lib.hid hl
  have HQ := Lib.hid hq
  clear hr hl hq
  go_enter Try.func35, Try.ntmps35
  go_wp2
  go_loopw [10] (fun v10 wr => ∃ k : Nat, v10 = .int .i64 k ∧ k ≤ m ∧ Hid ((l.take k).find? q = none ∧ Only No w wr)) (fun v10 _ => m - (intOf v10).toNat)
  case atStart => exact ⟨0, rfl, by omega, Lib.hid ⟨by simp, Only.refl _ _⟩⟩
  case round =>
    obtain ⟨k, rfl, hk, hI⟩ := hrel
    by_cases hlt : k < m
    · have hlt' : (k : Int) < m := by omega
      obtain ⟨ad, rfl, p0, p1, pb⟩ := ex_cells (HR.out.no hI.out.2) HL.out k hlt
      obtain ⟨u, hu⟩ : ∃ u, Hid (u = l[k]'(by rw [HL.out]; exact hlt)) := ⟨_, Lib.hid rfl⟩
      rw [← hu.out] at p0 p1
      have hmem : Hid (u ∈ l) := Lib.hid (by rw [hu.out]; exact List.getElem_mem _)
      have hfind : Hid ((l.take (k + 1)).find? q = if q u then some u else none) := Lib.hid (by
        rw [List.take_succ_eq_append_getElem (by rw [HL.out]; exact hlt), List.find?_append, hI.out.1, ← hu.out]
        simp only [List.find?_cons, List.find?_nil, Option.none_or]
        cases q u <;> rfl)
      go_wp2_with fail
      refine (HQ.out u hmem.out _ (hI.out.2.alloc _)).mono ?_
      rintro e w1 ⟨rfl, q1⟩
      have hc0 : w1.cell? ⟨wr.heap.size, 0, none⟩ = some (.int .u8 u.1) := ((Blk.new wr 36 #[.int .u8 u.1, .string u.2]).only q1 id).cell 0
      have hc1 : w1.cell? ⟨wr.heap.size, 1, none⟩ = some (.string u.2) := ((Blk.new wr 36 #[.int .u8 u.1, .string u.2]).only q1 id).cell 1
      have o1 : Hid (Only No w w1) := Lib.hid ((hI.out.2.alloc _).trans q1)
      clear q1
      cases hqu : q u
      · rw [hqu] at hfind
        go_wp2_with fail
        go_roundw
        case rel => exact ⟨k + 1, by go_num, by omega, Lib.hid ⟨by simpa using hfind.out, o1.out⟩⟩
        case measure => simp [intOf]; omega
      · rw [hqu] at hfind
        have hall : l.find? q = some u := by
          rw [← List.take_append_drop (k + 1) l, List.find?_append, hfind.out]
          simp
        go_wp2_with fail
        go_ret2
        exact ⟨by simp [firstS, firstB, hall], o1.out⟩
    · have hlt' : ¬ (k : Int) < m := by omega
      have hall : l.find? q = none := by
        have := hI.out.1
        rw [List.take_of_length_le (by rw [HL.out]; omega)] at this
        exact this
      replace hall := Lib.hid hall
      go_wp2
      go_ret2
      exact ⟨by simp [firstS, firstB, hall.out], hI.out.2⟩
end Go.Proofs.Ytehnahikfemodaa.Ct
