/- Adobe's transform. -/
import Derived.Test.YtehnahikfemodaaKind
import Derived.Laws.EntriesVeiled
namespace Go.Proofs.Ytehnahikfemodaa.Ct
open Go.ChangeShapes Go.WideShapes Go.RowKit Mm

abbrev adobeH : ByteArray := { data := #[65, 100, 111, 98, 101] }
theorem wrap8 (y : Nat) (h : y ≤ 2) : IntKind.i8.wrap (y : Int) = (y : Int) := by
  match y, h with
  | 0, _ => rfl
  | 1, _ => rfl
  | 2, _ => rfl
/-- byte i of a text -/
def byteAt (s : ByteArray) (i : Nat) : Int := ((s.data[i]?).getD 0).toNat
theorem byteAt_eq (s : ByteArray) (i : Nat) (h : i < s.size) : byteAt s i = (s[i].toNat : Int) := by
  unfold byteAt
  have h' : i < s.data.size := h
  rw [Array.getElem?_eq_getElem h']
  rfl
theorem byteAt_le (s : ByteArray) (i : Nat) : 0 ≤ byteAt s i ∧ byteAt s i ≤ 255 := by
  unfold byteAt
  have := ((s.data[i]?).getD 0).toNat_lt
  omega
def isAdobe (x : Ex) : Bool := isKind 238 adobeH 12 x && decide (byteAt x.2 11 ≤ 2)
set_option maxHeartbeats 800000 in
theorem adobe1_any (g g1 g2 g3 : Nat) (x : Ex) (f : Value) (w : World) (h : KC w f 238 adobeH 12 g1 g2 g3) (hb : Blk w g 57 #[f]) :
    Calls Try.prog 39 #[.agg #[.int .u8 x.1, .string x.2], P g] w fun e w' => e = .returned (.bool (isAdobe x)) ∧ Only No w w' := by
  have c1 : w.cell? ⟨g, 0, none⟩ = some f := hb.cell 0
  have l1 := hb.lt
  have hf := h.f
  subst hf
  have H := Lib.hid h
  clear h hb
  go_enter Try.func39, Try.ntmps39
  go_wp2_with fail
  refine (kind1_any 238 adobeH 12 g1 g2 g3 x _ _ (H.out.no ((Only.refl _ _).alloc _))).mono ?_
  rintro e w1 ⟨rfl, q1⟩
  have hc1 : w1.cell? ⟨w.heap.size, 1, none⟩ = some (.string x.2) := ((Blk.new w 36 #[.int .u8 x.1, .string x.2]).only q1 id).cell 1
  have o1 : Hid (Only No w w1) := Lib.hid (((Only.refl _ _).alloc _).trans q1)
  clear q1
  cases e2 : isKind 238 adobeH 12 x
  · go_wp2_with fail
    go_ret
    exact ⟨by simp [isAdobe, e2], o1.out⟩
  · have hlen : (12 : Int) ≤ x.2.size := by
      unfold isKind at e2
      simp only [Bool.and_eq_true, decide_eq_true_eq] at e2
      exact e2.2
    have h11 : (11 : Int) < x.2.size := by omega
    go_wp2_with fail
    go_ret
    exact ⟨by simp [isAdobe, e2, byteAt_eq x.2 11 (by omega)], o1.out⟩
/-- the transform: that of the first segment that names one -/
def adobeOf (l : List Ex) : Int := match l.find? isAdobe with | some x => byteAt x.2 11 | none => -1
set_option maxHeartbeats 800000 in
theorem adobe_any (A : Option Addr) (m c : Nat) (l : List Ex) (w : World) (hr : Rds w 2 A m (exC l)) (hl : l.length = m) (hm : m * 24 ≤ 140737488355328) :
    Calls Try.prog 25 #[.slice A m c] w fun e w' => e = .returned (.int .i8 (adobeOf l)) ∧ Only No w w' := by
  have hmf : ∀ (fn : Fn) (first cap : Array Value) (w : World), (Instr.makeFunc fn first cap).run Try.prog w = .ok (.func fn first cap) w := fun _ _ _ _ => rfl
  have HR := Lib.hid hr
  have HL := Lib.hid hl
  clear hr hl
  go_enter Try.func25, Try.ntmps25
  go_wp2_with fail
  refine (kind_any 238 adobeH 12 w).mono ?_
  rintro e w1 ⟨f, rfl, hk, o1⟩
  have hf := hk.f
  subst hf
  replace hk := Lib.hid hk
  replace o1 := Lib.hid o1
  go_wp2_with fail
  have hb := Lib.hid (Blk.new w1 57 #[.func (.func 47) #[] #[P w.heap.size, P (w.heap.size + 1), P (w.heap.size + 2)]])
  have o2 : Hid (Only No w1 (w1.alloc (.cells #[.func (.func 47) #[] #[P w.heap.size, P (w.heap.size + 1), P (w.heap.size + 2)]] 57))) := Lib.hid ((Only.refl _ _).alloc _)
  refine (first39_any isAdobe (P w1.heap.size) A m c l _ (HR.out.no (o1.out.trans o2.out)) HL.out hm (fun x _ w' ho => adobe1_any w1.heap.size w.heap.size (w.heap.size + 1) (w.heap.size + 2) x _ w' ((hk.out.no o2.out).no ho) (hb.out.only ho id))).mono ?_
  rintro e w3 ⟨rfl, o3⟩
  have o13 : Hid (Only No w w3) := Lib.hid ((o1.out.trans o2.out).trans o3)
  clear hb o2 o3 hk
  cases hfd : l.find? isAdobe with
  | none =>
    have e1 : firstB isAdobe l = false := by simp [firstB, hfd]
    rw [e1]
    go_wp2_with fail
    go_ret
    exact ⟨by simp [adobeOf, hfd], o13.out⟩
  | some x =>
    have e1 : firstB isAdobe l = true := by simp [firstB, hfd]
    have e3 : firstS isAdobe l = x.2 := by simp [firstS, hfd]
    have hx := List.find?_some hfd
    have hlen : (12 : Int) ≤ x.2.size := by
      unfold isAdobe isKind at hx
      simp only [Bool.and_eq_true, decide_eq_true_eq] at hx
      exact hx.1.2
    have hx2 : byteAt x.2 11 ≤ 2 := by
      unfold isAdobe at hx
      simp only [Bool.and_eq_true, decide_eq_true_eq] at hx
      exact hx.2
    have h11 : (11 : Int) < x.2.size := by omega
    have hb0 := (byteAt_le x.2 11).1
    have hbe := byteAt_eq x.2 11 (by omega)
    rw [hbe] at hx2 hb0
    have hw : IntKind.i8.wrap (x.2[11].toNat : Int) = (x.2[11].toNat : Int) := wrap8 _ (by omega)
    rw [e1, e3]
    replace hx := Lib.hid hx
    replace hbe := Lib.hid hbe
    go_wp2_with fail
    go_ret
    exact ⟨by simp [adobeOf, hfd, hbe.out], o13.out⟩
end Go.Proofs.Ytehnahikfemodaa.Ct
