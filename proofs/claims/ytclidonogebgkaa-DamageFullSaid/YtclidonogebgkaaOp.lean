/- Flags that are arguments, opened. -/
import Derived.Test.YtclidonogebgkaaCw
import Derived.ChangeSlices
import Derived.WideShapes
import Derived.OpenShut
import Derived.Deep.Slices
import Derived.SizedLaws
namespace Go.Proofs.Ytclidonogebgkaa.Ct
open Go.ChangeShapes Go.WideShapes Go.RowKit Mm
theorem cell_lt {w : World} {a : Addr} {v : Value} (h : w.cell? a = some v) : a.block < w.heap.size := by
  unfold World.cell? at h
  rcases Nat.lt_or_ge a.block w.heap.size with h1 | h1
  · exact h1
  · rw [Array.getElem?_eq_none h1] at h; simp at h
theorem weights_of {H : Type} {ts : List TypeId} {ds : List (DataW H)} (hsz : (DataW.weightsEach Try.prog ts ds).all (· ≤ reachBytes) = true) {j : Nat} {t : TypeId} {d : DataW H} (ht : ts[j]? = some t) (hd : ds[j]? = some d) : ∀ k ∈ d.weights Try.prog t, k ≤ reachBytes := by
  intro k hk
  have := List.all_eq_true.1 hsz _ (DataW.weights_mem_each ht hd k hk)
  simpa using this
theorem open_flags {H : Type} {enc : TypeId × Value → H} {d : DataW H} (W : World) {base b0 : Nat} {spare : Nat → Bool} {held : Bool} {r : Reach} (v : Value) (ps : List MemPlace)
    (hv : Value.okWide Try.prog W r b0 22 v) (h : DataW.Trod enc Try.prog W base spare held 22 v d ps) (hw : ∀ k ∈ d.weights Try.prog 22, k ≤ reachBytes) :
    ∃ A c l, v = .slice A l.length c ∧ Rds W 1 A l.length (boC l) ∧ l.length ≤ c ∧ l.length ≤ 140737488351232 ∧ (A = none → l.length = 0) := by
  obtain ⟨a', n', c', rfl⟩ := okWide_slice Try.underlying22 hv
  obtain ⟨fuel, hf⟩ := h
  rcases Go.Deep.open_slice1 Try.underlying22 (by kernel_rfl) hf with ⟨e, _⟩ | ⟨a, m, c, mm, k, V, D, Pl, e, _, hl, hm, hmm, hd, hx⟩
  · simp [Value.cells] at e
    obtain ⟨rfl, rfl, rfl⟩ := e
    exact ⟨none, 0, [], rfl, Rds.nil, by simp, by simp, fun _ => rfl⟩
  · simp [Value.cells] at e
    obtain ⟨rfl, rfl, rfl⟩ := e
    obtain ⟨rfl, rfl⟩ := Prod.mk.inj hd
    have hmle : n' ≤ mm := by rw [hmm]; split <;> omega
    have each : ∀ i, i < n' → ∃ b : Bool, W.cell? (a.add i) = some (.bool b) := fun i hi => by
      obtain ⟨h1, h2⟩ := hx i (by omega)
      obtain ⟨b, e, _⟩ := DataW.trod_bool Try.underlying4 h2
      simp only [List.cons.injEq, and_true] at e
      exact ⟨b, by rw [h1, e]⟩
    obtain ⟨f, hf⟩ := Go.Deep.choose_lt each
    refine ⟨some a, c', (List.range n').map f, by simp, ⟨by simp [boC], fun h0 => ⟨a, rfl, ?_, fun j u hu => ?_⟩⟩, by simpa using hl, ?_, fun h => by cases h⟩
    · have := cell_lt (hf 0 (by simpa using h0))
      rwa [Mm.block_add] at this
    · have hj : j < n' := by have := (List.getElem?_eq_some_iff.1 hu).1; simpa [boC] using this
      rw [hf j hj]
      simpa [boC, hj] using hu
    · have := hw _ (by simp only [DataW.weights, Try.underlying22]; exact List.mem_cons_self)
      have hb : Try.prog.bytesOf 4 = 1 := by kernel_rfl
      rw [hb] at this
      simp [reachBytes] at this
      simp
      omega
theorem cover_row {H : Type} {enc : TypeId × Value → H} {d : DataW H} {ds : List (DataW H)} {ts : List TypeId} (W : World) (hsz : (DataW.weightsEach Try.prog ts ds).all (· ≤ reachBytes) = true) (ht1 : ts[1]? = some 22) (hd1 : ds[1]? = some d) (a : Int)
    {base b0 : Nat} {spare : Nat → Bool} {held : Bool} {r : Reach} (v : Value) (ps : List MemPlace)
    (hv : Value.okWide Try.prog W r b0 22 v) (h : DataW.Trod enc Try.prog W base spare held 22 v d ps) : Calls Try.prog 3 #[.int .i64 a, v] W (fun e w' => e = .returned (.bool true) ∧ Below W.heap.size W w') := by
  obtain ⟨A, c, l, rfl, hr, hc, hl, hA⟩ := open_flags W v ps hv h (weights_of hsz ht1 hd1)
  exact (cover3 W a A c l hr hc hl hA).mono fun e w' ⟨he, ho⟩ => ⟨he, ho.below_no⟩
end Go.Proofs.Ytclidonogebgkaa.Ct
