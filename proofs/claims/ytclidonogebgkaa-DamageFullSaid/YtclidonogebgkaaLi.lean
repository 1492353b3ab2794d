/- strings.Lines. -/
import Derived.Test.YtclidonogebgkaaLw
namespace Go.Proofs.Ytclidonogebgkaa.Ct
open Go.ChangeShapes Go.WideShapes Go.RowKit Go.Shelf Mm
attribute [local go_sem] Oper.semAt_some
attribute [local go_sem] none_fn
/-- a line, without its end -/
abbrev Ln := { x : List UInt8 // x.length ≤ 8192 }
def encL (x : Ln) : Array Value := #[.string ⟨(x.1 ++ [10]).toArray⟩]
def flat (ls : List Ln) : List UInt8 := ls.flatMap fun x => x.1 ++ [10]
theorem indexByte_mid (a r : List UInt8) (h : (10 : UInt8) ∉ a) : Lib.indexByte (a ++ 10 :: r) 10 = a.length := by
  induction a with
  | nil => rfl
  | cons b a ih =>
    have h1 : b ≠ 10 := fun e => h (by rw [e]; exact List.mem_cons_self ..)
    have ih := ih (fun k => h (List.mem_cons_of_mem _ k))
    show (if b == 10 then 0 else if Lib.indexByte (a ++ 10 :: r) 10 == -1 then -1 else Lib.indexByte (a ++ 10 :: r) 10 + 1) = _
    rw [if_neg (by simpa using h1), ih, if_neg (by simp)]
    simp
theorem ext_lo (a b : List UInt8) : (⟨(a ++ b).toArray⟩ : ByteArray).extract 0 a.length = ⟨a.toArray⟩ := by
  apply ByteArray.ext
  rw [ByteArray.data_extract]
  simp
theorem ext_hi (a b : List UInt8) : (⟨(a ++ b).toArray⟩ : ByteArray).extract a.length (a.length + b.length) = ⟨b.toArray⟩ := by
  apply ByteArray.ext
  rw [ByteArray.data_extract]
  simp
def sOf (w : World) (b1 : Nat) : Nat := match w.cell? ⟨b1, 0, none⟩ with | some (.string s) => s.size | _ => 0
theorem flat_le (ls : List Ln) : (flat ls).length ≤ ls.length * 8193 := by
  induction ls with
  | nil => simp [flat]
  | cons x ls ih =>
    have := x.2
    simp [flat] at ih ⊢
    omega
set_option maxRecDepth 100000 in
set_option maxHeartbeats 4000000 in
theorem lines37 (b1 : Nat) (ls : List Ln) (h10 : ∀ x ∈ ls, (10 : UInt8) ∉ x.1) (hN : ls.length ≤ 100000) (w : World) (hb : Blk w b1 9 #[.string ⟨(flat ls).toArray⟩]) :
    BoxIter 37 #[P b1] b1 encL (fun xs => xs = ls) (fun pre => ∃ k, k ≤ ls.length ∧ pre = ls.take k) ls.length w := by
  intro y J Jx V oV hJ hY h0
  refine callsIn_of_wp Try.func37 rfl trivial ?_ rfl
  simp only [Try.ntmps37, List.size_toArray, List.length_cons, List.length_nil, Nat.reduceAdd, Nat.reduceSub, Array.replicate_succ, Array.replicate_zero, List.push_toArray, List.append_toArray, List.nil_append, List.cons_append]
  have HJ := Lib.hid hJ
  have HY := Lib.hid hY
  have H0 := Lib.hid h0
  have HB := Lib.hid (hb.only oV id)
  clear hJ hY h0 hb oV
  gi_wp2
  gi_loopw [] (fun wr => ∃ k : Nat, k ≤ ls.length ∧ Hid (Blk wr b1 9 #[.string ⟨(flat (ls.drop k)).toArray⟩] ∧ J (ls.take k) wr)) (fun wr => sOf wr b1)
  case atStart => exact ⟨0, Nat.zero_le _, Lib.hid ⟨HB.out, by rw [List.take_zero]; exact H0.out⟩⟩
  case round =>
    obtain ⟨k, hk, hI⟩ := hrel
    by_cases hlt : k < ls.length
    · have hdr : ls.drop k = ls[k] :: ls.drop (k + 1) := List.drop_eq_getElem_cons hlt
      have htk : ls.take (k + 1) = ls.take k ++ [ls[k]] := List.take_succ_eq_append_getElem hlt
      have hx10 := h10 ls[k] (List.getElem_mem hlt)
      have hrl := flat_le (ls.drop (k + 1))
      have hlen1 : (ls.drop (k + 1)).length ≤ 100000 := by rw [List.length_drop]; omega
      generalize ls[k] = x at *
      have hxl := x.2
      generalize hR : ls.drop (k + 1) = rest at *
      have hfl : flat (ls.drop k) = x.1 ++ 10 :: flat rest := by rw [hdr]; simp [flat]
      have hbx := hI.out.1
      rw [hfl] at hbx
      have hib := fun w => Sh.Try.strings_IndexByte ⟨(x.1 ++ 10 :: flat rest).toArray⟩ 10 w
      rw [show (⟨(x.1 ++ 10 :: flat rest).toArray⟩ : ByteArray).data.toList = x.1 ++ 10 :: flat rest from rfl, show ((10 : Int).toNat.toUInt8) = 10 from rfl, indexByte_mid _ _ hx10] at hib
      have c0 := hbx.cell 0
      have f0 := hbx.frozen 0
      simp only [List.getElem?_toArray, List.getElem?_cons_zero] at c0
      have hsz : (⟨(x.1 ++ 10 :: flat rest).toArray⟩ : ByteArray).size = x.1.length + 1 + (flat rest).length := by simp [ByteArray.size]; omega
      generalize hS : (⟨(x.1 ++ 10 :: flat rest).toArray⟩ : ByteArray) = S at *
      replace hib := Lib.hid hib
      replace hS := Lib.hid hS
      replace hdr := Lib.hid hdr
      replace htk := Lib.hid htk
      replace hfl := Lib.hid hfl
      have hR' := Lib.hid hR
      clear hR
      replace hbx := Lib.hid hbx
      have e1 : IntKind.i64.wrap ((x.1.length : Int) + 1) = ((x.1.length + 1 : Nat) : Int) := by rw [IntWalk.i64_in _ (by omega)]; push_cast; rfl
      have hFl : (flat rest).length ≤ 819300000 := by omega
      clear hrl
      generalize hp : x.1.length = p at *
      generalize hq : (flat rest).length = q at *
      have hp9 : Hid (x.1.length = p ∧ (flat rest).length = q) := Lib.hid ⟨hp, hq⟩
      clear hp hq
      gi_wp2_with (refine ⟨trivial, ?_⟩; gi_at_call 38; refine (callsIn_wide.2 (hib.out _)).mono ?_; rintro e V2 ⟨rfl, rfl⟩)
      gi_region
      obtain ⟨V3, hV3⟩ : ∃ V3, V3 = (V2.setCell { block := b1, off := 0 } (Value.string (S.extract (p + 1) (p + 1 + q)))).drew := ⟨_, rfl⟩
      have x1 : S.extract 0 (p + 1) = ⟨(x.1 ++ [10]).toArray⟩ := by
        have := ext_lo (x.1 ++ [10]) (flat rest)
        rw [List.length_append, hp9.out.1, List.length_singleton, List.append_assoc, List.singleton_append, hS.out] at this
        exact this
      have x2 : S.extract (p + 1) (p + 1 + q) = ⟨(flat rest).toArray⟩ := by
        have := ext_hi (x.1 ++ [10]) (flat rest)
        rw [List.length_append, hp9.out.1, hp9.out.2, List.length_singleton, List.append_assoc, List.singleton_append, hS.out] at this
        exact this
      rw [← hV3, x1]
      have o3 : Only (One b1) V2 V3 := by rw [hV3]; exact ((Only.refl (One b1) V2).setCell (p := ⟨b1, 0, none⟩) (.inl rfl) _).drew
      have hb3 : Blk V3 b1 9 #[.string ⟨(flat rest).toArray⟩] := by rw [hV3, x2]; exact Blk.set0 hbx.out _
      have hJ3 := HJ.out _ _ _ hI.out.2 o3
      obtain ⟨fn, tmps, assign, body, hy, hR⟩ := HY.out _ x V3 hJ3 (by rw [List.length_take]; omega)
      unfold encL at hy
      replace hb3 := Lib.hid hb3
      replace hR := Lib.hid hR
      clear hV3 x1 x2 o3 hJ3
      gi_wp2
      refine hR.out.mono ?_
      rintro e V' (⟨rfl, hJ', hk'⟩ | ⟨rfl, hJx'⟩)
      · have hb4 : Hid (Blk V' b1 9 #[.string ⟨(flat rest).toArray⟩]) := Lib.hid (hk'.trans hb3.out)
        replace hJ' := Lib.hid hJ'
        have hm1 : sOf V2 b1 = p + 1 + q := by unfold sOf; rw [c0]; exact hsz
        have hm2 : sOf V' b1 = q := by
          have := hb4.out.cell 0
          simp only [List.getElem?_toArray, List.getElem?_cons_zero] at this
          unfold sOf
          rw [this]
          exact hp9.out.2
        clear hk'
        gi_wp2
        go_roundw
        case rel => exact ⟨k + 1, by omega, Lib.hid ⟨by rw [hR'.out]; exact hb4.out, by rw [htk.out]; exact hJ'.out⟩⟩
        case measure => rw [hm1, hm2]; omega
      · replace hJx' := Lib.hid hJx'
        gi_wp2
        refine bodyPost_ret (results_none rfl _ _ _) rfl ?_
        exact ⟨⟨_, rfl⟩, .inr ⟨_, ⟨k + 1, by omega, htk.out.symm⟩, hJx'.out⟩⟩
    · obtain rfl : k = ls.length := by omega
      have hb2 := hI.out.1
      rw [List.drop_length, show flat ([] : List Ln) = [] from rfl] at hb2
      have c0 := hb2.cell 0
      simp only [List.getElem?_toArray, List.getElem?_cons_zero] at c0
      have hJ2 := hI.out.2
      rw [List.take_length] at hJ2
      replace hJ2 := Lib.hid hJ2
      clear hI hb2
      gi_wp2
      go_end0
      exact ⟨⟨_, rfl⟩, .inl ⟨ls, rfl, hJ2.out⟩⟩
end Go.Proofs.Ytclidonogebgkaa.Ct
