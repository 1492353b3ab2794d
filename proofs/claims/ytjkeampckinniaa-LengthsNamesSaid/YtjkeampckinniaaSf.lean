/- slices.SortFunc at piles. -/
import Derived.Test.YtjkeampckinniaaSg
import Derived.Test.YtjkeampckinniaaSh
namespace Go.Proofs.Ytjkeampckinniaa.Ct
open Go.ChangeShapes Go.WideShapes Go.RowKit Mm Go.Sort
theorem sort59 (w : World) (base c T : Nat) (ps : List It) (h0 : 0 < ps.length) (hn : ps.length ≤ 4096) (hown : w.ownsRow base 119 1 (.slice (some ⟨T, 0, none⟩) ps.length c) ps.length (itC ps)) (hb : ∀ x ∈ ps, itB w x) :
    Calls Try.prog 59 #[.slice (some ⟨T, 0, none⟩) ps.length c, .func (.func 60) #[] #[]] w fun e w' => e = .returned (.tuple #[]) ∧ ∃ qs, qs.Perm ps ∧ SrtI qs ∧ w'.ownsRow base 119 1 (.slice (some ⟨T, 0, none⟩) ps.length c) ps.length (itC qs) ∧ Only (One T) w w' := by
  have eg : ∀ args w, (callFunc 60 args).run Try.prog w = .ok (.enter 60 args) w := enters_of Try.func60 (by kernel_rfl) rfl
  have hno := noPile_one hown (by decide)
  obtain ⟨g, cap, cur, hv, hg, hcell, h1, h2, h3, h4⟩ : ∃ g cap cur, (Value.slice (some ⟨T, 0, none⟩) ps.length c) = .slice (some ⟨g, 0, none⟩) ps.length cap ∧ base ≤ g ∧ w.heap[g]? = some (.cells cur 119 (0, 0)) ∧ ps.length ≤ cap ∧ cap ≤ maxLen ∧ cur.size = cap * 1 ∧ cur.toList.take (ps.length * 1) = itC ps := by
    rcases hown.2 with ⟨hv, _⟩ | ⟨g, cap, cur, h⟩
    · simp at hv
    · exact ⟨g, cap, cur, h⟩
  simp only [Value.slice.injEq, Option.some.injEq, Addr.mk.injEq, and_true, true_and] at hv
  obtain ⟨rfl, rfl⟩ := hv
  have hwl := wrapI_length w ps hb
  have hwm := wrapI_map w ps hb
  letI : Inhabited (Itw w) := ⟨(wrapI w ps hb)[0]'(by omega)⟩
  have hH := holds_blk (encI w) (ss := wrapI w ps hb) hcell (by rw [hwl, encI_itC, hwm, ← h4, Nat.mul_one])
  have hS := Sh.Try.slices_SortFunc (encI w) (fun _ => rfl) (cfW w) (swoW w) 60 #[] T 0 c (wrapI w ps hb).toArray w eg (lays60 w T _ fun cs => hno T rfl cs) hH (Array.getElem?_eq_some_iff.1 hcell).1 (by simp [hwl]; omega)
  rw [show (wrapI w ps hb).toArray.size = ps.length by simp [hwl]] at hS
  refine hS.mono ?_
  rintro e w2 ⟨rfl, d', n, os, hperm, hsort, rfl⟩
  have hsz : d'.size = ps.length := by rw [hperm.1]; simp [hwl]
  have hperm' : d'.toList.Perm (wrapI w ps hb) := by
    have h := hperm.2.2
    rw [show d'.extract 0 ps.length = d' by rw [← hsz]; simp, show (wrapI w ps hb).toArray.extract 0 ps.length = (wrapI w ps hb).toArray by rw [← hwl]; simp] at h
    simpa using h
  have hown2 := ownsRow_sorted (encI w) (n := n) (os := os) (ss := wrapI w ps hb) (ts := d'.toList) (by simp [hwl, hsz]) hg hcell (by omega) h2 h3
  rw [hwl, encI_itC] at hown2
  refine ⟨rfl, d'.toList.map (·.1), ?_, ?_, by unfold Go.Proofs.sortWorld; simpa using hown2, only_sort (encI w) w T n d' os⟩
  · have := hperm'.map (fun x : Itw w => x.1)
    rw [hwm] at this
    exact this
  · unfold SrtI
    rw [List.pairwise_map, List.pairwise_iff_getElem]
    intro i j hi hj hij
    have hs := hsort i j (by omega) hij (by simp at hj; omega)
    have hlt := ltW w d'[j]! d'[i]!
    rw [hs] at hlt
    simp only [Bool.false_eq_true, false_iff] at hlt
    rw [getElem!_pos _ _ (by simp at hj; exact hj), getElem!_pos _ _ (by simp at hi; exact hi)] at hlt
    simpa using hlt
end Go.Proofs.Ytjkeampckinniaa.Ct
