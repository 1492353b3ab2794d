/- What the first JFIF segment says. -/
import Derived.Test.YtehnahikfemodaaAdobe
import Derived.Laws.ResultCell
import Derived.Deep.DeepCutAuto
namespace Go.Proofs.Ytehnahikfemodaa.Ct
open Go.ChangeShapes Go.WideShapes Go.RowKit Mm

theorem or_word (a b : Nat) (ha : a ≤ 255) (hb : b ≤ 255) : bits .or .i64 (wrap64 (wrap64 (a : Int) * 256)) (wrap64 (b : Int)) = 256 * a + b := by
  have e1 : wrap64 (a : Int) = a := by unfold wrap64; omega
  have e2 : wrap64 ((a : Int) * 256) = ((a * 256 : Nat) : Int) := by unfold wrap64; omega
  have e3 : wrap64 (b : Int) = b := by unfold wrap64; omega
  rw [e1, e2, e3]
  show IntKind.i64.wrap ((BitVec.ofInt 64 ((a * 256 : Nat) : Int) ||| BitVec.ofInt 64 (b : Int)).toNat : Int) = _
  have t1 : (((a * 256 : Nat) : Int) % ((2 ^ 64 : Nat) : Int)).toNat = a <<< 8 := by rw [Nat.shiftLeft_eq]; omega
  have t2 : (((b : Nat) : Int) % ((2 ^ 64 : Nat) : Int)).toNat = b := by omega
  rw [BitVec.toNat_or, BitVec.toNat_ofInt, BitVec.toNat_ofInt, t1, t2, ← Nat.shiftLeft_add_eq_or_of_lt (by omega), Nat.shiftLeft_eq, IntKind.wrap_i64]
  omega
theorem size30 : (Try.prog.info? 30).map (·.size) = some 5 := by kernel_rfl
abbrev jfifH : ByteArray := { data := #[74, 70, 73, 70, 0] }
def isJfif (x : Ex) : Bool := isKind 224 jfifH 14 x
abbrev dnV (M m U X Y : Int) : Value := .agg #[.int .u8 M, .int .u8 m, .int .u8 U, .int .i64 X, .int .i64 Y]
/-- what it says -/
def jfifOf (l : List Ex) : Value × Bool := match l.find? isJfif with
  | some x => (dnV (byteAt x.2 5) (byteAt x.2 6) (byteAt x.2 7) (256 * byteAt x.2 8 + byteAt x.2 9) (256 * byteAt x.2 10 + byteAt x.2 11), true)
  | none => (dnV 0 0 0 0 0, false)
set_option maxRecDepth 100000 in
set_option maxHeartbeats 3200000 in
theorem jfifw_any (A : Option Addr) (m c : Nat) (l : List Ex) (w : World) (hr : Rds w 2 A m (exC l)) (hl : l.length = m) (hm : m * 24 ≤ 140737488355328) :
    Calls Try.prog 28 #[.slice A m c] w fun e w' => e = .returned (.tuple #[(jfifOf l).1, .bool (jfifOf l).2]) ∧ Only No w w' := by
  have hmf : ∀ (fn : Fn) (first cap : Array Value) (w : World), (Instr.makeFunc fn first cap).run Try.prog w = .ok (.func fn first cap) w := fun _ _ _ _ => rfl
  have HR := Lib.hid hr
  have HL := Lib.hid hl
  clear hr hl
  go_enter Try.func28, Try.ntmps28
  go_wp2_with fail
  obtain ⟨W, hW⟩ : ∃ W, W = w.alloc (.cells #[.int .u8 0, .int .u8 0, .int .u8 0, .int .i64 0, .int .i64 0] 30) := ⟨_, rfl⟩
  rw [← hW]
  obtain ⟨g, hg⟩ : ∃ g, g = w.heap.size := ⟨_, rfl⟩
  have hb : Blk W g 30 #[.int .u8 0, .int .u8 0, .int .u8 0, .int .i64 0, .int .i64 0] := by rw [hW, hg]; exact Blk.new _ _ _
  have oW : Hid (Only No w W) := Lib.hid (by rw [hW]; exact (Only.refl _ _).alloc _)
  rw [← hg]
  have hgw : Hid (w.heap.size ≤ g) := Lib.hid (by omega)
  clear hW hg
  replace hb := Lib.hid hb
  refine (kind_any 224 jfifH 14 W).mono ?_
  rintro e w1 ⟨f, rfl, hk, o1⟩
  have hf := hk.f
  subst hf
  replace hk := Lib.hid hk
  replace o1 := Lib.hid o1
  go_wp2_with fail
  refine (first47_any isJfif (P W.heap.size) (P (W.heap.size + 1)) (P (W.heap.size + 2)) A m c l _ (HR.out.no (oW.out.trans o1.out)) HL.out hm (fun x _ w' ho => kind1_any 224 jfifH 14 _ _ _ x _ w' (hk.out.no ho))).mono ?_
  rintro e w3 ⟨rfl, o3⟩
  have hb3 := (hb.out.only o1.out id).only o3 id
  have o13 : Hid (Only No w w3) := Lib.hid ((oW.out.trans o1.out).trans o3)
  have c0 : w3.cell? ⟨g, 0, none⟩ = some (.int .u8 0) := hb3.cell 0
  have c1 : w3.cell? ⟨g, 1, none⟩ = some (.int .u8 0) := hb3.cell 1
  have c2 : w3.cell? ⟨g, 2, none⟩ = some (.int .u8 0) := hb3.cell 2
  have c3 : w3.cell? ⟨g, 3, none⟩ = some (.int .i64 0) := hb3.cell 3
  have c4 : w3.cell? ⟨g, 4, none⟩ = some (.int .i64 0) := hb3.cell 4
  have f0 := hb3.frozen 0
  have f1 := hb3.frozen 1
  have f2 := hb3.frozen 2
  have f3 := hb3.frozen 3
  have f4 := hb3.frozen 4
  replace hb3 := Lib.hid hb3
  clear o3 hk hb
  cases hfd : l.find? isJfif with
  | none =>
    have e1 : firstB isJfif l = false := by simp [firstB, hfd]
    rw [e1]
    go_wp2_with fail
    (try simp only [Exit.inBlock, Exit.then])
    refine bodyPost_ret (v := .tuple #[dnV 0 0 0 0 0, .bool false]) ?_ rfl ⟨by simp [jfifOf, hfd], ?_⟩
    · as_aux_lemma =>
        rw [results_cell_tmp rfl]
        go_simp
    · exact ((((o13.out.setCell (p := ⟨g, 0, none⟩) (.inr hgw.out) _).setCell (p := ⟨g, 1, none⟩) (.inr hgw.out) _).setCell (p := ⟨g, 2, none⟩) (.inr hgw.out) _).setCell (p := ⟨g, 3, none⟩) (.inr hgw.out) _).setCell (p := ⟨g, 4, none⟩) (.inr hgw.out) _
  | some x =>
    have e1 : firstB isJfif l = true := by simp [firstB, hfd]
    have e3 : firstS isJfif l = x.2 := by simp [firstS, hfd]
    have hx := List.find?_some hfd
    have hlen : (14 : Int) ≤ x.2.size := by
      unfold isJfif isKind at hx
      simp only [Bool.and_eq_true, decide_eq_true_eq] at hx
      exact hx.2
    have h5 : (5 : Int) < x.2.size := by omega
    have h6 : (6 : Int) < x.2.size := by omega
    have h7 : (7 : Int) < x.2.size := by omega
    have h8 : (8 : Int) < x.2.size := by omega
    have h9 : (9 : Int) < x.2.size := by omega
    have h10 : (10 : Int) < x.2.size := by omega
    have h11 : (11 : Int) < x.2.size := by omega
    rw [e1, e3]
    replace hx := Lib.hid hx
    have w1 := or_word x.2[8].toNat x.2[9].toNat (by have := x.2[8].toNat_lt; omega) (by have := x.2[9].toNat_lt; omega)
    have w2 := or_word x.2[10].toNat x.2[11].toNat (by have := x.2[10].toNat_lt; omega) (by have := x.2[11].toNat_lt; omega)
    replace w1 := Lib.hid w1
    replace w2 := Lib.hid w2
    go_upto_region 4 with (fail)
    go_cut [3] (fun s3 wx => s3 = .bool true ∧ Blk wx g 30 #[.int .u8 (byteAt x.2 5), .int .u8 (byteAt x.2 6), .int .u8 (byteAt x.2 7), .int .i64 (256 * byteAt x.2 8 + byteAt x.2 9), .int .i64 (256 * byteAt x.2 10 + byteAt x.2 11)] ∧ Only No w wx)
    case first =>
      go_region
      go_wp2_with fail
      go_meet
      refine ⟨rfl, ?_, ?_⟩
      · rw [byteAt_eq x.2 5 (by omega), byteAt_eq x.2 6 (by omega), byteAt_eq x.2 7 (by omega), byteAt_eq x.2 8 (by omega), byteAt_eq x.2 9 (by omega), byteAt_eq x.2 10 (by omega), byteAt_eq x.2 11 (by omega), ← w1.out, ← w2.out]
        exact ((((hb3.out.set 0 _).set 1 _).set 2 _).set 3 _).set 4 _
      · first
          | exact ((((o13.out.setCell (p := ⟨g, 0, none⟩) (.inr hgw.out) _).setCell (p := ⟨g, 1, none⟩) (.inr hgw.out) _).setCell (p := ⟨g, 2, none⟩) (.inr hgw.out) _).setCell (p := ⟨g, 3, none⟩) (.inr hgw.out) _).setCell (p := ⟨g, 4, none⟩) (.inr hgw.out) _ |>.drew
          | exact ((((o13.out.drew.setCell (p := ⟨g, 0, none⟩) (.inr hgw.out) _).setCell (p := ⟨g, 1, none⟩) (.inr hgw.out) _).setCell (p := ⟨g, 2, none⟩) (.inr hgw.out) _).setCell (p := ⟨g, 3, none⟩) (.inr hgw.out) _).setCell (p := ⟨g, 4, none⟩) (.inr hgw.out) _
    case rest =>
      obtain ⟨rfl, hbf, hof⟩ := hcut
      have k0 := hbf.cell 0
      have k1 := hbf.cell 1
      have k2 := hbf.cell 2
      have k3 := hbf.cell 3
      have k4 := hbf.cell 4
      simp only [List.getElem?_toArray, List.getElem?_cons_zero, List.getElem?_cons_succ] at k0 k1 k2 k3 k4
      clear c0 c1 c2 c3 c4 f0 f1 f2 f3 f4
      replace hbf := Lib.hid hbf
      replace hof := Lib.hid hof
      go_wp2_with fail
      (try simp only [Exit.inBlock, Exit.then])
      refine bodyPost_ret (v := .tuple #[dnV (byteAt x.2 5) (byteAt x.2 6) (byteAt x.2 7) (256 * byteAt x.2 8 + byteAt x.2 9) (256 * byteAt x.2 10 + byteAt x.2 11), .bool true]) ?_ rfl ⟨by simp [jfifOf, hfd], hof.out⟩
      rw [results_cell_tmp rfl]
      go_simp
end Go.Proofs.Ytehnahikfemodaa.Ct
