/- A scope through which the run goes by forward jumps. -/
import Derived.ScopeJumps
import Derived.WalkMore
namespace Go.Proofs.Ytdbidojncboalaa.Sc
open Go

/-- As Q; by a goto: on behind its label, n times at most -/
def land (P : Program) (c : Code) (Q : Exit → Act → World → Prop) : Nat → Exit → Act → World → Prop
  | 0 => Exit.noGoto Q
  | n + 1 => fun e a w => match e with
    | .goto l => ∃ rest, findLabel c l = some rest ∧ rest.wp P (land P c Q n) a w
    | e => Q e a w

section
variable {P : Program} {a : Act} {w : World} {Q : Exit → Act → World → Prop} {c : Code}
theorem land_normal (n : Nat) : land P c Q n .normal a w = Q .normal a w := by cases n <;> rfl
theorem land_exit (n id : Nat) : land P c Q n (.exit id) a w = Q (.exit id) a w := by cases n <;> rfl
theorem land_ret (n : Nat) : land P c Q n .ret a w = Q .ret a w := by cases n <;> rfl
theorem land_panic (n : Nat) (ch : List PanicEntry) : land P c Q n (.panic ch) a w = Q (.panic ch) a w := by cases n <;> rfl
theorem land_goto (n l : Nat) (rest : Code) (hf : findLabel c l = some rest) (h : rest.wp P (land P c Q n) a w) : land P c Q (n + 1) (.goto l) a w := ⟨rest, hf, h⟩

theorem wp_scope_land (n : Nat) (first : c.wp P (land P c Q n) a w) : (Code.scope c).wp P Q a w := by
  intro b k cs
  have key : ∀ (n : Nat) (e : Exit) (a w : _), land P c Q n e a w → ∃ e' a' w', Q e' a' w' ∧ (∀ a₀ w₀, Arrives P (lone (b.at a₀ (.code c :: .inScope c :: k)) cs w₀) b (.inScope c :: k) cs e a w → Arrives P (lone (b.at a₀ (.code c :: .inScope c :: k)) cs w₀) b k cs e' a' w') := by
    intro n
    induction n with
    | zero =>
      intro e a w h
      cases e with
      | normal => exact ⟨.normal, a, w, h, fun _ _ harr => Steps.trans harr (.one step_inScope)⟩
      | exit id => exact ⟨.exit id, a, w, h, fun _ _ harr k' hk => harr k' (by simp [exitTo, hk])⟩
      | goto l' => exact h.elim
      | ret => exact ⟨_, a, w, h, fun _ _ harr => harr⟩
      | panic ch => exact ⟨_, a, w, h, fun _ _ harr => harr⟩
      | outgrown => exact ⟨_, a, w, h, fun _ _ harr => harr⟩
    | succ n ih =>
      intro e a w h
      cases e with
      | normal => exact ⟨.normal, a, w, h, fun _ _ harr => Steps.trans harr (.one step_inScope)⟩
      | exit id => exact ⟨.exit id, a, w, h, fun _ _ harr k' hk => harr k' (by simp [exitTo, hk])⟩
      | goto l =>
        obtain ⟨rest, hf, hr⟩ := h
        have hg : gotoIn l (.inScope c :: k) = some (.code rest :: .inScope c :: k) := by simp [gotoIn, hf]
        obtain ⟨e₁, a₁, w₁, hq, harr₁⟩ := hr b (.inScope c :: k) cs
        obtain ⟨e₂, a₂, w₂, hq₂, hgo⟩ := ih e₁ a₁ w₁ hq
        exact ⟨e₂, a₂, w₂, hq₂, fun a₀ w₀ harr => hgo a₀ w₀ (.of_steps (harr _ hg) harr₁)⟩
      | ret => exact ⟨_, a, w, h, fun _ _ harr => harr⟩
      | panic ch => exact ⟨_, a, w, h, fun _ _ harr => harr⟩
      | outgrown => exact ⟨_, a, w, h, fun _ _ harr => harr⟩
  obtain ⟨e, a₁, w₁, hq, harr⟩ := first b (.inScope c :: k) cs
  obtain ⟨e', a', w', hq', hgo⟩ := key n e a₁ w₁ hq
  exact ⟨e', a', w', hq', .of_steps (.one step_scope) (hgo _ _ harr)⟩
end
end Go.Proofs.Ytdbidojncboalaa.Sc
