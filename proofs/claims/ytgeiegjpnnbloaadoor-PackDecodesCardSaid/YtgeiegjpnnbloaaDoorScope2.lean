/- A scope with two labels: to label 1 the run jumps back, from label 0 it goes out. -/
import Derived.Test.YtgeiegjpnnbloaaDoorKit
namespace Go.Proofs.YtgeiegjpnnbloaaDoor
open Go.RowKit

def Exit.jumps2 (J0 J1 : Act → World → Prop) (Q : Exit → Act → World → Prop) : Exit → Act → World → Prop
  | .goto l, a, w => (l = 0 ∧ J0 a w) ∨ (l = 1 ∧ J1 a w)
  | e, a, w => Q e a w
section
variable {P : Program} {a : Act} {w : World} {Q : Exit → Act → World → Prop}
theorem wp_scope_jumps2 {c r0 r1 : Code} (J0 J1 : Act → World → Prop) (mu : Act → World → Nat) (hf0 : findLabel c 0 = some r0) (hf1 : findLabel c 1 = some r1)
    (first : c.wp P (Exit.jumps2 J0 J1 Q) a w)
    (pass0 : ∀ a w, J0 a w → r0.wp P (Exit.jumps2 (fun _ _ => False) (fun _ _ => False) Q) a w)
    (pass1 : ∀ a w, J1 a w → r1.wp P (Exit.jumps2 J0 (fun a' w' => J1 a' w' ∧ mu a' w' < mu a w) Q) a w) : (Code.scope c).wp P Q a w := by
  intro b k cs
  have hg0 : gotoIn 0 (.inScope c :: k) = some (.code r0 :: .inScope c :: k) := by simp [gotoIn, hf0]
  have hg1 : gotoIn 1 (.inScope c :: k) = some (.code r1 :: .inScope c :: k) := by simp [gotoIn, hf1]
  have key0 : ∀ a w, J0 a w → ∃ e a' w', Q e a' w' ∧ Arrives P (lone (b.at a (.code r0 :: .inScope c :: k)) cs w) b k cs e a' w' := by
    intro a w hJ
    obtain ⟨e, a₁, w₁, hq, harr⟩ := pass0 a w hJ b (.inScope c :: k) cs
    cases e with
    | normal => exact ⟨.normal, a₁, w₁, hq, Steps.trans harr (.one step_inScope)⟩
    | exit id => exact ⟨.exit id, a₁, w₁, hq, fun k' hk => harr k' (by simp [exitTo, hk])⟩
    | goto l' => exact (hq.elim (fun h => h.2) fun h => h.2).elim
    | ret => exact ⟨_, a₁, w₁, hq, harr⟩
    | panic ch => exact ⟨_, a₁, w₁, hq, harr⟩
    | outgrown => exact ⟨_, a₁, w₁, hq, harr⟩
  have key1 : ∀ n a w, mu a w = n → J1 a w → ∃ e a' w', Q e a' w' ∧ Arrives P (lone (b.at a (.code r1 :: .inScope c :: k)) cs w) b k cs e a' w' := by
    intro n
    induction n using Nat.strongRecOn with
    | _ n ih =>
      intro a w hn hJ
      obtain ⟨e, a₁, w₁, hq, harr⟩ := pass1 a w hJ b (.inScope c :: k) cs
      cases e with
      | normal => exact ⟨.normal, a₁, w₁, hq, Steps.trans harr (.one step_inScope)⟩
      | exit id => exact ⟨.exit id, a₁, w₁, hq, fun k' hk => harr k' (by simp [exitTo, hk])⟩
      | goto l' =>
        rcases hq with ⟨rfl, hJ'⟩ | ⟨rfl, hJ', hlt⟩
        · obtain ⟨e₂, a₂, w₂, hq₂, harr₂⟩ := key0 a₁ w₁ hJ'
          exact ⟨e₂, a₂, w₂, hq₂, .of_steps (harr _ hg0) harr₂⟩
        · obtain ⟨e₂, a₂, w₂, hq₂, harr₂⟩ := ih _ (by omega) a₁ w₁ rfl hJ'
          exact ⟨e₂, a₂, w₂, hq₂, .of_steps (harr _ hg1) harr₂⟩
      | ret => exact ⟨_, a₁, w₁, hq, harr⟩
      | panic ch => exact ⟨_, a₁, w₁, hq, harr⟩
      | outgrown => exact ⟨_, a₁, w₁, hq, harr⟩
  obtain ⟨e, a₁, w₁, hq, harr⟩ := first b (.inScope c :: k) cs
  cases e with
  | normal => exact ⟨.normal, a₁, w₁, hq, .head step_scope (Steps.trans harr (.one step_inScope))⟩
  | exit id => exact ⟨.exit id, a₁, w₁, hq, fun k' hk => .head step_scope (harr k' (by simp [exitTo, hk]))⟩
  | goto l' =>
    rcases hq with ⟨rfl, hJ'⟩ | ⟨rfl, hJ'⟩
    · obtain ⟨e₂, a₂, w₂, hq₂, harr₂⟩ := key0 a₁ w₁ hJ'
      exact ⟨e₂, a₂, w₂, hq₂, .of_steps (.head step_scope (harr _ hg0)) harr₂⟩
    · obtain ⟨e₂, a₂, w₂, hq₂, harr₂⟩ := key1 _ a₁ w₁ rfl hJ'
      exact ⟨e₂, a₂, w₂, hq₂, .of_steps (.head step_scope (harr _ hg1)) harr₂⟩
  | ret => exact ⟨_, a₁, w₁, hq, .of_steps (.one step_scope) harr⟩
  | panic ch => exact ⟨_, a₁, w₁, hq, .of_steps (.one step_scope) harr⟩
  | outgrown => exact ⟨_, a₁, w₁, hq, .of_steps (.one step_scope) harr⟩
/-- As wp_scope_J, with two labels. -/
theorem wp_scope_JJ {c R0 R1 : Code} (J0 J1 : Act → World → Prop) (mu : Act → World → Nat) (hf0 : findLabel c 0 = some (.seq .skip R0)) (hf1 : findLabel c 1 = some (.seq .skip R1))
    (pass0 : ∀ a w, J0 a w → R0.wp P (Exit.jumps2 (fun _ _ => False) (fun _ _ => False) Q) a w)
    (pass1 : ∀ a w, J1 a w → R1.wp P (Exit.jumps2 J0 (fun a' w' => J1 a' w' ∧ mu a' w' < mu a w) Q) a w)
    (first : (∀ a w, J1 a w → R1.wp P (Exit.jumps2 J0 J1 Q) a w) → c.wp P (Exit.jumps2 J0 J1 Q) a w) : (Code.scope c).wp P Q a w :=
  wp_scope_jumps2 J0 J1 mu hf0 hf1 (first fun a w hJ => Code.wp_mono (fun e a' w' h => by
    cases e <;> first | exact h | exact h.imp id fun h => ⟨h.1, h.2.1⟩) (pass1 a w hJ)) (fun a w hJ => wp_seq (wp_skip (pass0 a w hJ))) (fun a w hJ => wp_seq (wp_skip (pass1 a w hJ)))
end
end Go.Proofs.YtgeiegjpnnbloaaDoor
