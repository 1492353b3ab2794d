/- DamageBack: the walk. -/
import Derived.Test.YtclidonogebgkaaCw
import Derived.Deep.DeepCutAuto
import Derived.Deep.RegionWith
import Derived.Deep.RegionHeld3
namespace Go.Proofs.Ytclidonogebgkaa.Ct
open Go.ChangeShapes Go.WideShapes Go.RowKit Mm
theorem only_drewN {S : Nat → Prop} {w w1 w2 : World} (h : Only S w w1) (hd : ∃ d, w2 = w1.drewN d) : Only S w w2 := by
  obtain ⟨d, rfl⟩ := hd
  exact h.drewN d
set_option maxRecDepth 100000 in
set_option maxHeartbeats 1000000 in
theorem back4 (w : World) (wide : Int) (A : Option Addr) (c : Nat) (l : List Bool) (h : Rds w 1 A l.length (boC l)) (hc : l.length ≤ c) (hl : l.length ≤ 140737488351232) (hA : A = none → l.length = 0) :
    Calls Try.prog 4 #[.int .i64 wide, .slice A l.length c] w fun e w' => e = .returned (.bool true) ∧ Only No w w' := by
  obtain ⟨W, H, hW, hH, hW1, hW40, hH8, hWH⟩ := shape_nums wide l
  have hsh := Lib.hid (fun w' (o : Only No w w') => shape8 w' wide A c l (h.no o) hc hl hA W H hW hH)
  have haw := Lib.hid awake7
  have h0 := Lib.hid h
  have hWHs : W * H ≤ 327680 := by
    have := Nat.mul_le_mul hW40 hH8
    omega
  have hfl : (l.take (W * H)).length = W * H := by rw [List.length_take]; omega
  generalize hF : l.take (W * H) = F at *
  replace hF := Lib.hid hF
  replace hfl := Lib.hid hfl
  replace hWHs := Lib.hid hWHs
  replace hWH := Lib.hid hWH
  clear h hW hH
  go_enter Try.func4, Try.ntmps4
  go_wp2_with fail
  refine (haw.out _).mono ?_
  rintro e w1 ⟨rfl, o1⟩
  replace o1 := Lib.hid o1
  have hs1 := Lib.hid (hsh.out w1 o1.out)
  go_wp2_with fail
  refine hs1.out.mono ?_
  rintro e w2 ⟨G, A1, c1, rfl, o2, hge, hm⟩
  replace o2 := Lib.hid o2
  have htx := text11 hm
  rw [← flat_lns (by omega : W ≤ 8192) F H] at htx
  replace hm := Lib.hid hm
  replace htx := Lib.hid htx
  clear hs1 hge
  go_wp2_with fail
  refine htx.out.mono ?_
  rintro e w3 ⟨rfl, o3⟩
  replace o3 := Lib.hid o3
  have hrd := read10 (lnsOf W F H) (no10 (by omega) F H) (by rw [lnsOf_len]; omega) w3
  unfold ReadPost at hrd
  rw [read_lns (by omega) hfl.out H (Nat.le_refl _)] at hrd
  replace hrd := Lib.hid hrd
  go_wp2_with fail
  refine hrd.out.mono ?_
  rintro e w4 he
  rw [if_pos hH8] at he
  obtain ⟨G2, A2, c2, rfl, o4, hge4, hm2⟩ := he
  rw [show F.take (H * W) = F by rw [Nat.mul_comm]; exact List.take_of_length_le (by rw [hfl.out]; exact Nat.le_refl _)] at hm2
  replace o4 := Lib.hid o4
  have hfg := Lib.hid (flags13 (hm.out.no (o3.out.trans o4.out)))
  replace hm2 := Lib.hid hm2
  clear hrd htx hge4
  go_wp2_with fail
  refine hfg.out.mono ?_
  rintro e w5 ⟨A5, c5, rfl, own5, o5⟩
  replace o5 := Lib.hid o5
  have hof := of12 w5 W H A5 c5 F (Rds.of_own own5) (fun e => by
    rcases own5.2 with ⟨hv, h0⟩ | ⟨g', cap, cur, hv, _⟩
    · exact h0
    · subst e; simp at hv) (by omega) hH8 hfl.out
  replace hof := Lib.hid hof
  clear hfg own5
  go_wp2_with fail
  refine hof.out.mono ?_
  rintro e w6 ⟨G3, A6, c6, rfl, o6, hge6, hm3⟩
  replace o6 := Lib.hid o6
  replace hm3 := Lib.hid hm3
  clear hof hge6
  have oAll := Lib.hid (o1.out.trans (o2.out.trans (o3.out.trans (o4.out.trans (o5.out.trans o6.out)))))
  have hG := Lib.hid (hm.out.no (o3.out.trans (o4.out.trans (o5.out.trans o6.out))))
  have hG2 := Lib.hid (hm2.out.no (o5.out.trans o6.out))
  have hsz := Lib.hid (size14 hG2.out)
  have hf2 := Lib.hid (fun w' (o : Only No w6 w') => flags13 (hG2.out.no o))
  have hf3 := Lib.hid (fun w' (o : Only No w6 w') => flags13 (hm3.out.no o))
  have ht6 := Lib.hid (fun w' (o : Only No w6 w') => text11 (hG.out.no o))
  have hlt := Lib.hid (txt_len hfl.out H (Nat.le_refl _))
  have hcm : W * H ≤ c := by have := hWH.out; omega
  have hsame : Hid (∀ w' A9 c9, Only No w6 w' → Rds w' 1 A9 F.length (boC F) → Calls Try.prog 15 #[.slice A9 F.length c9, .slice A (W * H) c] w' fun e w'' => e = .returned (.bool true) ∧ ∃ d, w'' = w'.drewN d) := Lib.hid fun w' A9 c9 o r9 => by
    have h0' := h0.out.no (oAll.out.trans o)
    have := same15 w' A9 c9 F A c F r9 ⟨boC_length F ▸ by rw [Nat.mul_one], fun h1 => by
      obtain ⟨ad, e, hb, hcc⟩ := h0'.2 (by have := hfl.out; have := hWH.out; omega)
      refine ⟨ad, e, hb, fun j u hu => hcc j u ?_⟩
      have hj := (List.getElem?_eq_some_iff.1 hu).1
      rw [boC_length, hfl.out] at hj
      unfold boC at hu ⊢
      rw [← hF.out, List.map_take, List.getElem?_take, if_pos hj] at hu
      exact hu⟩ (by rw [hfl.out]; have := hWHs.out; omega)
    rw [decide_eq_true rfl, hfl.out] at this
    rw [hfl.out]
    exact this
  have e1 : IntKind.i64.wrap ((W : Int) * (H : Int)) = ((W * H : Nat) : Int) := by rw [IntWalk.i64_in _ (by rw [← Int.natCast_mul]; have := hWHs.out; omega), ← Int.natCast_mul]
  have e2 : IntKind.i64.wrap ((W : Int) + 1) = ((W + 1 : Nat) : Int) := by rw [IntWalk.i64_in _ (by omega)]; push_cast; rfl
  have hWH1 : H * (W + 1) ≤ 335872 := by
    have := Nat.mul_le_mul hH8 (show W + 1 ≤ 41 by omega)
    omega
  have e3 : IntKind.i64.wrap ((H : Int) * ((W + 1 : Nat) : Int)) = ((H * (W + 1) : Nat) : Int) := by rw [IntWalk.i64_in _ (by rw [← Int.natCast_mul]; omega), ← Int.natCast_mul]
  have hfact : Hid ((((txt W F H).length : Int) == IntKind.i64.wrap ((H : Int) * ((W : Int) + 1))) = true) := Lib.hid (by
    rw [hlt.out, show ((W : Int) + 1) = ((W + 1 : Nat) : Int) by push_cast; rfl, e3]
    simp)
  clear e3 hlt
  clear hm hm2 hm3 hG hG2 o1 o2 o3 o4 o5 o6 haw hsh
  rcases Nat.eq_zero_or_pos H with hH0 | hH0
  · rw [if_pos hH0, Int.natCast_zero] at hsz
    have z1 : ((H : Int) == 0) = true := by rw [hH0]; rfl
    have z2 : ((0 : Int) == (W : Int)) = false := by simp; omega
    replace hH0 := Lib.hid hH0
    generalize W * H = M at *
    have q0 : Only No w6 w6 := Only.refl No w6
    go_wp2_with (go_at_call 14; refine hsz.out.mono ?_; rintro e w7 ⟨rfl, hn7⟩; have q7 : Only No w6 w7 := only_drewN (Only.refl No w6) hn7)
    clear hsz q0
    go_cut [4] from 83 to 113 (fun s4 wx => s4 = .bool true ∧ Hid (Only No w6 wx))
    case first =>
      go_region_held3 (fun w' => Only No w6 w')
        (first
          | (with_reducible (repeat (first | exact q12 | exact q11 | exact q9 | exact q10 | exact q8 | exact q7 | refine Only.drew ?_ | refine Only.drewN ?_ _))))
        (first
          | (go_at_call 13; (with_reducible refine (hf2.out _ ?_).mono ?_); (repeat (first | exact q12 | exact q11 | exact q9 | exact q10 | exact q8 | exact q7 | refine Only.drew ?_ | refine Only.drewN ?_ _)); clear hf2; rintro e w8 ⟨A8, c8, rfl, own8, o8⟩; have q8 : Only No w6 w8 := Only.trans (by (repeat (first | exact q12 | exact q11 | exact q9 | exact q10 | exact q8 | exact q7 | refine Only.drew ?_ | refine Only.drewN ?_ _))) o8)
          | (go_at_call 13; (with_reducible refine (hf3.out _ ?_).mono ?_); (repeat (first | exact q12 | exact q11 | exact q9 | exact q10 | exact q8 | exact q7 | refine Only.drew ?_ | refine Only.drewN ?_ _)); clear hf3; rintro e w9 ⟨A9, c9, rfl, own9, o9⟩; have q9 : Only No w6 w9 := Only.trans (by (repeat (first | exact q12 | exact q11 | exact q9 | exact q10 | exact q8 | exact q7 | refine Only.drew ?_ | refine Only.drewN ?_ _))) o9)
          | (go_at_call 15; (with_reducible refine (hsame.out _ _ _ ?_ ((Rds.of_own own9).no ?_)).mono ?_); (repeat (first | exact q12 | exact q11 | exact q9 | exact q10 | exact q8 | exact q7 | refine Only.drew ?_ | refine Only.drewN ?_ _)); (repeat (first | exact Only.refl _ _ | refine Only.drew ?_ | refine Only.drewN ?_ _)); rintro e w11 ⟨rfl, d11⟩; have q11 : Only No w6 w11 := only_drewN (by (repeat (first | exact q12 | exact q11 | exact q9 | exact q10 | exact q8 | exact q7 | refine Only.drew ?_ | refine Only.drewN ?_ _))) d11)
          | (go_at_call 15; (with_reducible refine (hsame.out _ _ _ ?_ ((Rds.of_own own8).no ?_)).mono ?_); (repeat (first | exact q12 | exact q11 | exact q9 | exact q10 | exact q8 | exact q7 | refine Only.drew ?_ | refine Only.drewN ?_ _)); (repeat (first | exact Only.refl _ _ | refine Only.drew ?_ | refine Only.drewN ?_ _)); rintro e w10 ⟨rfl, d10⟩; have q10 : Only No w6 w10 := only_drewN (by (repeat (first | exact q12 | exact q11 | exact q9 | exact q10 | exact q8 | exact q7 | refine Only.drew ?_ | refine Only.drewN ?_ _))) d10)
          | (go_at_call 11; (with_reducible refine (ht6.out _ ?_).mono ?_); (repeat (first | exact q12 | exact q11 | exact q9 | exact q10 | exact q8 | exact q7 | refine Only.drew ?_ | refine Only.drewN ?_ _)); rintro e w12 ⟨rfl, o12⟩; have q12 : Only No w6 w12 := Only.trans (by (repeat (first | exact q12 | exact q11 | exact q9 | exact q10 | exact q8 | exact q7 | refine Only.drew ?_ | refine Only.drewN ?_ _))) o12))
      all_goals go_wp2_with fail
      all_goals go_meet
      all_goals exact ⟨by rw [hfact.out], Lib.hid q12⟩
    case rest =>
      obtain ⟨rfl, hq⟩ := hcut
      go_wp2_with fail
      go_ret
      exact ⟨rfl, oAll.out.trans hq.out⟩
  · rw [if_neg (by omega)] at hsz
    generalize W * H = M at *
    have q0 : Only No w6 w6 := Only.refl No w6
    go_wp2_with (go_at_call 14; refine hsz.out.mono ?_; rintro e w7 ⟨rfl, hn7⟩; have q7 : Only No w6 w7 := only_drewN (Only.refl No w6) hn7)
    clear hsz q0
    go_cut [4] from 83 to 113 (fun s4 wx => s4 = .bool true ∧ Hid (Only No w6 wx))
    case first =>
      go_region_held3 (fun w' => Only No w6 w')
        (first
          | (with_reducible (repeat (first | exact q12 | exact q11 | exact q9 | exact q10 | exact q8 | exact q7 | refine Only.drew ?_ | refine Only.drewN ?_ _))))
        (first
          | (go_at_call 13; (with_reducible refine (hf2.out _ ?_).mono ?_); (repeat (first | exact q12 | exact q11 | exact q9 | exact q10 | exact q8 | exact q7 | refine Only.drew ?_ | refine Only.drewN ?_ _)); clear hf2; rintro e w8 ⟨A8, c8, rfl, own8, o8⟩; have q8 : Only No w6 w8 := Only.trans (by (repeat (first | exact q12 | exact q11 | exact q9 | exact q10 | exact q8 | exact q7 | refine Only.drew ?_ | refine Only.drewN ?_ _))) o8)
          | (go_at_call 13; (with_reducible refine (hf3.out _ ?_).mono ?_); (repeat (first | exact q12 | exact q11 | exact q9 | exact q10 | exact q8 | exact q7 | refine Only.drew ?_ | refine Only.drewN ?_ _)); clear hf3; rintro e w9 ⟨A9, c9, rfl, own9, o9⟩; have q9 : Only No w6 w9 := Only.trans (by (repeat (first | exact q12 | exact q11 | exact q9 | exact q10 | exact q8 | exact q7 | refine Only.drew ?_ | refine Only.drewN ?_ _))) o9)
          | (go_at_call 15; (with_reducible refine (hsame.out _ _ _ ?_ ((Rds.of_own own9).no ?_)).mono ?_); (repeat (first | exact q12 | exact q11 | exact q9 | exact q10 | exact q8 | exact q7 | refine Only.drew ?_ | refine Only.drewN ?_ _)); (repeat (first | exact Only.refl _ _ | refine Only.drew ?_ | refine Only.drewN ?_ _)); rintro e w11 ⟨rfl, d11⟩; have q11 : Only No w6 w11 := only_drewN (by (repeat (first | exact q12 | exact q11 | exact q9 | exact q10 | exact q8 | exact q7 | refine Only.drew ?_ | refine Only.drewN ?_ _))) d11)
          | (go_at_call 15; (with_reducible refine (hsame.out _ _ _ ?_ ((Rds.of_own own8).no ?_)).mono ?_); (repeat (first | exact q12 | exact q11 | exact q9 | exact q10 | exact q8 | exact q7 | refine Only.drew ?_ | refine Only.drewN ?_ _)); (repeat (first | exact Only.refl _ _ | refine Only.drew ?_ | refine Only.drewN ?_ _)); rintro e w10 ⟨rfl, d10⟩; have q10 : Only No w6 w10 := only_drewN (by (repeat (first | exact q12 | exact q11 | exact q9 | exact q10 | exact q8 | exact q7 | refine Only.drew ?_ | refine Only.drewN ?_ _))) d10)
          | (go_at_call 11; (with_reducible refine (ht6.out _ ?_).mono ?_); (repeat (first | exact q12 | exact q11 | exact q9 | exact q10 | exact q8 | exact q7 | refine Only.drew ?_ | refine Only.drewN ?_ _)); rintro e w12 ⟨rfl, o12⟩; have q12 : Only No w6 w12 := Only.trans (by (repeat (first | exact q12 | exact q11 | exact q9 | exact q10 | exact q8 | exact q7 | refine Only.drew ?_ | refine Only.drewN ?_ _))) o12))
      all_goals go_wp2_with fail
      all_goals go_meet
      all_goals exact ⟨by rw [hfact.out], Lib.hid q12⟩
    case rest =>
      obtain ⟨rfl, hq⟩ := hcut
      go_wp2_with fail
      go_ret
      exact ⟨rfl, oAll.out.trans hq.out⟩
end Go.Proofs.Ytclidonogebgkaa.Ct
