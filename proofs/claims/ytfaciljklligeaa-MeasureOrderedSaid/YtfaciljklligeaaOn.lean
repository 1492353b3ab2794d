/- Order of any slice. -/
import Derived.Test.YtfaciljklligeaaMe
namespace Go.Proofs.Ytfaciljklligeaa.Ct
open Go.ChangeShapes Go.WideShapes Go.RowKit Mm
theorem clone46_0 (w : World) (a : Addr) (c : Nat) : Calls Try.prog 46 #[.slice (some a) 0 c] w fun e w' => ∃ v', e = .returned v' ∧ w'.ownsRow w.heap.size 25 1 v' 0 (flC []) ∧ Only No w w' := by
  obtain ⟨i0, hinf, hz0, hz1, hz2⟩ := info_parts info25
  have q22 : ∀ (w : World) (n c n' c' : Nat), (binOp .eql 22 (.slice (some a) n c) (.slice none n' c')).run Try.prog w = .ok (.bool false) w := fun w n c n' c' => Lib.run_eql_slice_nil w _ _ (some a) n c n' c' Try.underlying22
  go_enter Try.func46, Try.ntmps46
  go_wp2_with (at_builtin; refine wpList_append_any _ rfl (.tmp 5) (.tmp 6) 22 rfl w.heap.size 25 i0 (.float .f64 0) 1 8 Try.underlying22 hinf hz0 hz1 hz2 rfl (by decide) _ _ _ rfl (World.ownsRow_made w #[] 0 (Nat.le_refl _) (Nat.zero_le _) (by simp)) (some a) 0 c [] rfl Rds.nil (by simp) (by unfold maxLen; omega) (by omega) ?cb ?_)
  case cb => simp
  intro v' w1 hown honly _
  go_wp2_with fail
  go_ret
  exact ⟨v', rfl, by simpa [flC] using hown, ((Only.refl No w).alloc _).then honly (fun i hi => .inr (by simp [Value.ownBlock] at hi; omega))⟩
theorem order30_0 (w : World) (a : Addr) (c : Nat) : Calls Try.prog 30 #[.slice (some a) 0 c] w (OrdPost [] w) := by
  have hn : Hid (∀ (p : Option Addr) (cap : Nat) (fv : Value) (w : World), Calls Try.prog 47 #[.slice p 0 cap, fv] w fun e w' => e = .returned (.tuple #[]) ∧ w' = w) := fun p cap fv w => Sh.Try.slices_SortFunc_none (α := Nat) p cap fv w
  have hclone := clone46_0 w a c
  go_enter Try.func30, Try.ntmps30
  go_wp2_with fail
  refine hclone.mono ?_
  rintro e w1 ⟨v, rfl, hown, hO⟩
  replace hO := Lib.hid hO
  obtain ⟨A', c', rfl⟩ := own_slice hown
  have hown' := Lib.hid hown
  clear hown hclone
  go_wp2_with (go_at_call 47; refine (hn.out _ _ _ _).mono ?_; rintro e w' ⟨rfl, rfl⟩)
  go_ret
  exact ⟨_, [], rfl, .refl _, List.Pairwise.nil, hown'.out, hO.out⟩
theorem order30a (w : World) (A : Option Addr) (c : Nat) (l : List Nat) (hr : Rds w 1 A l.length (flC l)) (hl : l.length ≤ 17592186043904) (hb : ∀ x ∈ l, x < 2 ^ 64) : Calls Try.prog 30 #[.slice A l.length c] w (OrdPost l w) := by
  by_cases h0 : l = []
  · subst h0
    rcases A with _ | a
    · exact order30 w none c [] hr (fun _ h => by cases h) hl hb
    · exact order30_0 w a c
  · refine order30 w A c l hr (fun ad e => ?_) hl hb
    have hpos : 0 < l.length := List.length_pos_iff.2 h0
    obtain ⟨ad', e', q⟩ := hr.at_ (i := 0) hpos (flC_getD hpos)
    rw [e] at e'
    cases e'
    have hs : ad.spot = none := by simpa [Addr.add] using World.cell?_spot q
    obtain ⟨b, off, spot⟩ := ad
    simp at hs
    subst hs
    rfl
end Go.Proofs.Ytfaciljklligeaa.Ct
