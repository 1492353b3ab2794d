/- A loop over an iterator that writes to a box of its own between the rounds: the law; strings.Lines. -/
import Derived.Test.YtclidonogebgkaaTx
namespace Go.Proofs.Ytclidonogebgkaa.Ct
open Go.ChangeShapes Go.WideShapes Go.RowKit Go.Shelf Mm
attribute [local go_sem] Oper.semAt_some
/-- what the iterator promises: whatever abides its writes to the box -/
def BoxIter {α : Type} (gf : Nat) (lb : Array Value) (b1 : Nat) (encs : α → Array Value) (S Sp : List α → Prop) (N : Nat) (w : World) : Prop :=
  ∀ (l : Nat) (J Jx : List α → World → Prop) (V : World), Only No w V → (∀ pre A B, J pre A → Only (One b1) A B → J pre B) →
    (∀ pre x V1, J pre V1 → pre.length < N → YieldAt Fence.wide 1 Try.prog l (encs x) V1 fun e V2 =>
      (e = .returned (.bool true) ∧ J (pre ++ [x]) V2 ∧ V2.heap[b1]? = V1.heap[b1]?) ∨ (e = .returned (.bool false) ∧ Jx (pre ++ [x]) V2)) →
    J [] V → CallsIn Fence.wide 2 Try.prog gf (#[.func (.yield l) #[] #[]] ++ lb) V fun e V' => (∃ v, e = .returned v) ∧ ((∃ xs, S xs ∧ J xs V') ∨ (∃ pre, Sp pre ∧ Jx pre V'))
theorem range_box {α : Type} {g : Operand} {ps : Array Tmp} {assign body : Code} {Q : Exit → Act → World → Prop} {a : Act} {w : World} {gf : Nat} {lb : Array Value} {b1 : Nat} (hb1 : b1 < w.heap.size) (hg : a.eval g = .func (.func gf) #[] lb)
    (eg : ∀ args w, (callFunc gf args).run Try.prog w = .ok (.enter gf args) w) {encs : α → Array Value} {S Sp : List α → Prop} {N : Nat} (hit : BoxIter gf lb b1 encs S Sp N w) (hps : ∀ x, (encs x).size = ps.size)
    (I : List α → World → Prop) (Ix : List α → World → Prop) (hI : OwnFrom w.heap.size I) (hIx : OwnFrom w.heap.size Ix) (hIb : ∀ pre A B, I pre A → Only (One b1) A B → I pre B) (h0 : I [] w) (a₁ : α → Act)
    (hassign : ∀ (l : Nat) (x : α) (V : World) (K : Act → World → Prop), K (a₁ x) V →
      assign.wpIn (Fence.wide.inRound l) 1 Try.prog (Exit.then K (fun _ _ _ => False)) { tmps := (ps.zip (encs x)).foldl (fun t (p, v) => t.setIfInBounds p v) a.tmps, defers := [] } V)
    (hbody : ∀ (l : Nat) (pre : List α) (x : α) (V : World), I pre V → pre.length < N → body.wpIn (Fence.wide.inRound l) 1 Try.prog
      (fun e _ V' => match e with
        | .normal => KeepsFrom w.heap.size V V' ∧ V'.heap[b1]? = V.heap[b1]? ∧ I (pre ++ [x]) V'
        | .ret => KeepsFrom w.heap.size V V' ∧ Ix (pre ++ [x]) V'
        | _ => False) (a₁ x) V)
    (hdone : ∀ (D : Nat) (xs : List α) (V : World), w.heap.size ≤ D → S xs → I xs V → V.heap[D]? = some (.deferred (some [])) → Q .normal { a with defers := { target := .collected D, args := #[] } :: a.defers } V)
    (hstop : ∀ (D : Nat) (pre : List α) (V : World), w.heap.size ≤ D → Sp pre → Ix pre V → V.heap[D]? = some (.deferred (some [])) → Code.ret.wpIn Fence.wide 3 Try.prog Q { a with defers := { target := .collected D, args := #[] } :: a.defers } V) :
    (Code.rangeFunc g ps assign body).wpIn Fence.wide 3 Try.prog Q a w := by
  refine wpIn_rangeFunc fun fn hfn => ?_
  -- the loop's record, by its state and what is pending
  let rc : LoopState → Option Code → Loop := fun st pe => { state := st, pending := pe, fn, tmps := a.tmps, params := ps, assign, body, defers := w.heap.size }
  have hD : w.heap.size < ((w.alloc (.deferred (some []))).alloc (.loop (rc .ready none))).heap.size := by simp; omega
  have eL : ((w.alloc (.deferred (some []))).alloc (.loop (rc .ready none))).heap[w.heap.size + 1]? = some (.loop (rc .ready none)) := by
    have := World.alloc_heap_new (w.alloc (.deferred (some []))) (.loop (rc .ready none))
    simpa using this
  have eK : ((w.alloc (.deferred (some []))).alloc (.loop (rc .ready none))).heap[w.heap.size]? = some (.deferred (some [])) :=
    (Below.heap_alloc _ _ _ (by simp)).trans (World.alloc_heap_new w _)
  have eI : I [] ((w.alloc (.deferred (some []))).alloc (.loop (rc .ready none))) := hI.alloc _ (hI.alloc _ h0)
  have eO : Only No w ((w.alloc (.deferred (some []))).alloc (.loop (rc .ready none))) := ((Only.refl No w).alloc _).alloc _
  generalize hV : (w.alloc (.deferred (some []))).alloc (.loop (rc .ready none)) = V0 at eL eK eI eO hD
  refine ⟨w.heap.size + 1, [{ target := .collected w.heap.size, args := #[] }], V0, { target := .fn (.func gf) lb, args := #[.func (.yield (w.heap.size + 1)) #[] #[]] }, V0, gf,
    #[.func (.yield (w.heap.size + 1)) #[] #[]] ++ lb, V0, ?_, ?_, ?_, ?_, fun _ => by omega, ?_⟩
  · rw [← hV]; exact run_enterLoop_outer _ _ _ _ _
  · simp only [resolve, hg]; simp [go_sem]
  · intro f' _; trivial
  · simp [invoke, go_sem, eg]
  -- what stands between two rounds; what stands when a round has left
  let Jn : List α → World → Prop := fun pre V => I pre V ∧ V.heap[w.heap.size + 1]? = some (.loop (rc .ready none)) ∧ V.heap[w.heap.size]? = some (.deferred (some []))
  let Jl : List α → World → Prop := fun pre V => Ix pre V ∧ V.heap[w.heap.size + 1]? = some (.loop (rc .done (some .ret))) ∧ V.heap[w.heap.size]? = some (.deferred (some []))
  refine (hit (w.heap.size + 1) Jn Jl V0 eO (fun pre A B h o => ⟨hIb pre A B h.1 o, (o.block _ (Array.getElem?_eq_some_iff.1 h.2.1).1 (fun e => by have e : w.heap.size + 1 = b1 := e; omega)).trans h.2.1,
    (o.block _ (Array.getElem?_eq_some_iff.1 h.2.2).1 (fun e => by have e : w.heap.size = b1 := e; omega)).trans h.2.2⟩) ?_ ⟨eI, eL, eK⟩).mono ?_
  · rintro pre x V ⟨hi, hl, hk⟩ hlen
    have hlt := (Array.getElem?_eq_some_iff.1 hl).1
    have hy := run_yield (P := Try.prog) (args := encs x) hl (hps x)
    refine ⟨fn, _, assign, body, hy, roundIn_of_wpIn hfn (hassign _ x V _ ⟨_, run_beginRound hl rfl, ?_⟩)⟩
    have l2 : (V.putObj (w.heap.size + 1) (.loop { rc .ready none with state := .busy })).heap[w.heap.size + 1]? = some (.loop { rc .ready none with state := .busy }) := World.putObj_heap_same hlt
    have k2 : (V.putObj (w.heap.size + 1) (.loop { rc .ready none with state := .busy })).heap[w.heap.size]? = some (.deferred (some [])) := (World.putObj_heap_other (by omega)).trans hk
    have p2 : (V.putObj (w.heap.size + 1) (.loop { rc .ready none with state := .busy })).heap[b1]? = V.heap[b1]? := World.putObj_heap_other (by omega)
    have i2 : I pre (V.putObj (w.heap.size + 1) (.loop { rc .ready none with state := .busy })) := hI.putObj _ hi (by omega) hl rfl
    generalize V.putObj (w.heap.size + 1) (.loop { rc .ready none with state := .busy }) = V1 at l2 k2 p2 i2
    refine wpIn_mono (hbody _ pre x V1 i2 hlen) ?_
    have fin : ∀ (jump : Option Code) (V3 : World), KeepsFrom w.heap.size V1 V3 →
        (Instr.endRound (w.heap.size + 1) jump).run Try.prog V3 = .ok (.bool jump.isNone) (V3.putObj (w.heap.size + 1) (.loop (rc (if jump.isNone then .ready else .done) jump))) ∧
        V3.heap[w.heap.size + 1]? = some (.loop { rc .ready none with state := .busy }) ∧
        (V3.putObj (w.heap.size + 1) (.loop (rc (if jump.isNone then .ready else .done) jump))).heap[w.heap.size + 1]? = some (.loop (rc (if jump.isNone then .ready else .done) jump)) ∧
        (V3.putObj (w.heap.size + 1) (.loop (rc (if jump.isNone then .ready else .done) jump))).heap[w.heap.size]? = some (.deferred (some [])) := fun jump V3 h3 => by
      have l3 := h3.same _ _ (by omega) l2 rfl
      exact ⟨run_endRound (P := Try.prog) jump l3, l3, World.putObj_heap_same (Array.getElem?_eq_some_iff.1 l3).1, (World.putObj_heap_other (by omega)).trans (h3.same _ _ (Nat.le_refl _) k2 rfl)⟩
    rintro e a3 V3 hp
    cases e with
    | normal =>
      obtain ⟨h3, q3, i3⟩ := hp
      obtain ⟨r3, l3, l4, k4⟩ := fin none V3 h3
      exact ⟨_, _, r3, .inl ⟨rfl, ⟨hI.putObj _ i3 (by omega) l3 rfl, l4, k4⟩, (World.putObj_heap_other (by omega)).trans (q3.trans p2)⟩⟩
    | ret =>
      obtain ⟨h3, i3⟩ := hp
      obtain ⟨r3, l3, l4, k4⟩ := fin (some .ret) V3 h3
      exact ⟨_, _, r3, .inr ⟨rfl, hIx.putObj _ i3 (by omega) l3 rfl, l4, k4⟩⟩
    | exit id => exact hp.elim
    | goto t => exact hp.elim
    | panic ch => exact hp.elim
    | outgrown => exact hp.elim
  · rintro e V2 ⟨⟨v, rfl⟩, (⟨xs, hS, hi, hl, hk⟩ | ⟨pre, hSp, hi, hl, hk⟩)⟩
    · exact ⟨none, _, run_endLoop (P := Try.prog) hl (by simp [rc]), hdone _ xs _ (Nat.le_refl _) hS (hI.putObj _ hi (by omega) hl rfl) ((World.putObj_heap_other (by omega)).trans hk)⟩
    · exact ⟨some .ret, _, run_endLoop (P := Try.prog) hl (by simp [rc]), hstop _ pre _ (Nat.le_refl _) hSp (hIx.putObj _ hi (by omega) hl rfl) ((World.putObj_heap_other (by omega)).trans hk)⟩
end Go.Proofs.Ytclidonogebgkaa.Ct
