/-
  A law of the walk for a scope with two labels: one to which the run jumps back (a loop made of a goto), one to which it jumps forward, behind which it goes straight on.
-/
import Derived.ScopeJumps
import Derived.WalkMore
import Derived.Deep.LoopGhost
namespace Go

/-- As Q; by a goto to label l1: J1; by a goto to label l0: J0; by any other goto: no way out. -/
def Exit.two (l1 l0 : Nat) (J1 J0 : Act → World → Prop) (Q : Exit → Act → World → Prop) : Exit → Act → World → Prop
  | .goto l', a, w => (l' = l1 ∧ J1 a w) ∨ (l' = l0 ∧ J0 a w)
  | e, a, w => Q e a w

section
variable {l1 l0 : Nat} {J1 J0 : Act → World → Prop} {Q : Exit → Act → World → Prop} {a : Act} {w : World}
@[go_sem] theorem Exit.two_normal : Exit.two l1 l0 J1 J0 Q .normal a w = Q .normal a w := rfl
@[go_sem] theorem Exit.two_exit (id : Nat) : Exit.two l1 l0 J1 J0 Q (.exit id) a w = Q (.exit id) a w := rfl
@[go_sem] theorem Exit.two_ret : Exit.two l1 l0 J1 J0 Q .ret a w = Q .ret a w := rfl
@[go_sem] theorem Exit.two_panic (ch : List PanicEntry) : Exit.two l1 l0 J1 J0 Q (.panic ch) a w = Q (.panic ch) a w := rfl
end

section
variable {P : Program} {a : Act} {w : World} {Q : Exit → Act → World → Prop}

/-- The relation 'J' bears a number, which every pass from label l1 lowers; from label l0 on the run goes straight. -/
theorem wp_scope_two {c rest1 rest0 : Code} (l1 l0 : Nat) (J : Nat → Act → World → Prop) (hf1 : findLabel c l1 = some rest1) (hf0 : findLabel c l0 = some rest0) (hne : l1 ≠ l0)
    (first : c.wp P (Exit.two l1 l0 (fun a w => ∃ k, J k a w) (fun a w => rest0.wp P (Exit.noGoto Q) a w) Q) a w)
    (pass : ∀ k a w, J k a w → rest1.wp P (Exit.two l1 l0 (Handed J k) (fun a w => rest0.wp P (Exit.noGoto Q) a w) Q) a w) : (Code.scope c).wp P Q a w := by
  intro b k cs
  have hg1 : gotoIn l1 (.inScope c :: k) = some (.code rest1 :: .inScope c :: k) := by simp [gotoIn, hf1]
  have hg0 : gotoIn l0 (.inScope c :: k) = some (.code rest0 :: .inScope c :: k) := by simp [gotoIn, hf0]
  have straight : ∀ a w, rest0.wp P (Exit.noGoto Q) a w → ∃ e a' w', Q e a' w' ∧ Arrives P (lone (b.at a (.code rest0 :: .inScope c :: k)) cs w) b k cs e a' w' := by
    intro a w h
    obtain ⟨e, a₁, w₁, hq, harr⟩ := h b (.inScope c :: k) cs
    cases e with
    | normal => exact ⟨.normal, a₁, w₁, hq, Steps.trans harr (.one step_inScope)⟩
    | exit id => exact ⟨.exit id, a₁, w₁, hq, fun k' hk => harr k' (by simp [exitTo, hk])⟩
    | goto l => exact hq.elim
    | ret => exact ⟨_, a₁, w₁, hq, harr⟩
    | panic ch => exact ⟨_, a₁, w₁, hq, harr⟩
    | outgrown => exact ⟨_, a₁, w₁, hq, harr⟩
  have key : ∀ n a w, J n a w → ∃ e a' w', Q e a' w' ∧ Arrives P (lone (b.at a (.code rest1 :: .inScope c :: k)) cs w) b k cs e a' w' := by
    intro n
    induction n using Nat.strongRecOn with
    | _ n ih =>
      intro a w hJ
      obtain ⟨e, a₁, w₁, hq, harr⟩ := pass n a w hJ b (.inScope c :: k) cs
      cases e with
      | normal => exact ⟨.normal, a₁, w₁, hq, Steps.trans harr (.one step_inScope)⟩
      | exit id => exact ⟨.exit id, a₁, w₁, hq, fun k' hk => harr k' (by simp [exitTo, hk])⟩
      | goto l' =>
        rcases hq with ⟨rfl, n', hlt, hJ'⟩ | ⟨rfl, h0⟩
        · obtain ⟨e₂, a₂, w₂, hq₂, harr₂⟩ := ih n' hlt a₁ w₁ hJ'
          exact ⟨e₂, a₂, w₂, hq₂, .of_steps (harr _ hg1) harr₂⟩
        · obtain ⟨e₂, a₂, w₂, hq₂, harr₂⟩ := straight a₁ w₁ h0
          exact ⟨e₂, a₂, w₂, hq₂, .of_steps (harr _ hg0) harr₂⟩
      | ret => exact ⟨_, a₁, w₁, hq, harr⟩
      | panic ch => exact ⟨_, a₁, w₁, hq, harr⟩
      | outgrown => exact ⟨_, a₁, w₁, hq, harr⟩
  obtain ⟨e, a₁, w₁, hq, harr⟩ := first b (.inScope c :: k) cs
  cases e with
  | normal => exact ⟨.normal, a₁, w₁, hq, .head step_scope (Steps.trans harr (.one step_inScope))⟩
  | exit id => exact ⟨.exit id, a₁, w₁, hq, fun k' hk => .head step_scope (harr k' (by simp [exitTo, hk]))⟩
  | goto l' =>
    rcases hq with ⟨rfl, n', hJ'⟩ | ⟨rfl, h0⟩
    · obtain ⟨e₂, a₂, w₂, hq₂, harr₂⟩ := key n' a₁ w₁ hJ'
      exact ⟨e₂, a₂, w₂, hq₂, .of_steps (.head step_scope (harr _ hg1)) harr₂⟩
    · obtain ⟨e₂, a₂, w₂, hq₂, harr₂⟩ := straight a₁ w₁ h0
      exact ⟨e₂, a₂, w₂, hq₂, .of_steps (.head step_scope (harr _ hg0)) harr₂⟩
  | ret => exact ⟨_, a₁, w₁, hq, .of_steps (.one step_scope) harr⟩
  | panic ch => exact ⟨_, a₁, w₁, hq, .of_steps (.one step_scope) harr⟩
  | outgrown => exact ⟨_, a₁, w₁, hq, .of_steps (.one step_scope) harr⟩

/-- 'wp_scope_two' as a walk wants it: one walk of what stands behind label l1 serves the first pass and the later ones; what a jump must hand on stands behind variables, so that the walk's 'simp' does not go into it. -/
theorem wp_scope_two_k {c body tail : Code} (l1 l0 : Nat) (J : Nat → Act → World → Prop) (hf1 : findLabel c l1 = some (.seq .skip body)) (hf0 : findLabel c l0 = some (.seq .skip tail)) (hne : l1 ≠ l0)
    (first : ∀ K : Exit → Act → World → Prop, (∀ k a w, J k a w → body.wp P K a w) → c.wp P K a w)
    (pass : ∀ k a w, J k a w → ∀ (J1 J0 : Act → World → Prop), (∀ a' w', Handed J k a' w' → J1 a' w') → (∀ a' w', tail.wp P (Exit.noGoto Q) a' w' → J0 a' w') → body.wp P (Exit.two l1 l0 J1 J0 Q) a w) : (Code.scope c).wp P Q a w := by
  have back : ∀ a w, tail.wp P (Exit.noGoto Q) a w → (Code.seq .skip tail).wp P (Exit.noGoto Q) a w := fun a w h => wp_seq (wp_skip h)
  refine wp_scope_two l1 l0 J hf1 hf0 hne (first _ ?_) ?_
  · exact fun k a w hJ => pass k a w hJ _ _ (fun _ _ h => let ⟨n', _, h'⟩ := h; ⟨n', h'⟩) (fun _ _ h => back _ _ h)
  · exact fun k a w hJ => wp_seq (wp_skip (pass k a w hJ _ _ (fun _ _ h => h) (fun _ _ h => back _ _ h)))

/-- The forward label falls through into nothing: 'label l; c' from the start of the scope's code. -/
theorem wp_label_seq {l : Nat} {c : Code} (h : c.wp P Q a w) : ((Code.label l).seq c).wp P Q a w := by
  apply wp_seq
  apply wp_label
  exact h
end
end Go
