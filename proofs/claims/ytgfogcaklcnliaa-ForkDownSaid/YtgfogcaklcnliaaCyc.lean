/- Paths in a finite set: what has a step on within a set has a cycle in it, and the other way round. -/
import Derived.Test.YtgfogcaklcnliaaWords
set_option linter.unusedVariables false
set_option linter.unusedSimpArgs false
namespace Go.Proofs.Ytgfogcaklcnliaa
open Relation

theorem pigeon : ∀ (n : Nat) (s : Nat → Nat), (∀ k, k ≤ n → s k < n) → ∃ a b, a < b ∧ b ≤ n ∧ s a = s b := by
  intro n
  induction n with
  | zero => intro s h; exact absurd (h 0 (Nat.le_refl _)) (by omega)
  | succ n ih =>
    intro s h
    by_cases hx : ∃ k, k ≤ n ∧ s k = s (n + 1)
    · obtain ⟨k, hk, he⟩ := hx
      exact ⟨k, n + 1, by omega, Nat.le_refl _, he⟩
    · have hx' : ∀ k, k ≤ n → s k ≠ s (n + 1) := fun k hk he => hx ⟨k, hk, he⟩
      have hl := h (n + 1) (Nat.le_refl _)
      obtain ⟨a, b, hab, hb, he⟩ := ih (fun k => if s k = n then s (n + 1) else s k) (by
        intro k hk
        have h1 := h k (by omega)
        have h2 := hx' k hk
        show (if s k = n then s (n + 1) else s k) < n
        split <;> omega)
      refine ⟨a, b, hab, by omega, ?_⟩
      have ha' := hx' a (by omega)
      have hb' := hx' b hb
      have he : (if s a = n then s (n + 1) else s a) = (if s b = n then s (n + 1) else s b) := he
      split at he <;> split at he <;> omega

variable {R : Nat → Nat → Prop}
/-- Within a set whose members all have a step on in it somebody comes back to itself. -/
theorem cyc_of {n : Nat} (U : Nat → Prop) {u : Nat} (hu : U u) (hlt : ∀ v, U v → v < n) (hs : ∀ v, U v → ∃ w, U w ∧ R v w) : ∃ v, U v ∧ TransGen R v v := by
  obtain ⟨f, hf⟩ : ∃ f : Nat → Nat, ∀ v, U v → U (f v) ∧ R v (f v) :=
    Classical.skolem (p := fun v w => U v → U w ∧ R v w) |>.1 fun v => by
      by_cases h : U v
      · obtain ⟨w, hw⟩ := hs v h
        exact ⟨w, fun _ => hw⟩
      · exact ⟨0, fun h' => absurd h' h⟩
  let s : Nat → Nat := fun k => Nat.rec u (fun _ x => f x) k
  have hU : ∀ k, U (s k) := by
    intro k
    induction k with
    | zero => exact hu
    | succ k ih => exact (hf _ ih).1
  have hstep : ∀ k, R (s k) (s (k + 1)) := fun k => (hf _ (hU k)).2
  have hpath : ∀ a d, TransGen R (s a) (s (a + d + 1)) := by
    intro a d
    induction d with
    | zero => exact .single (hstep a)
    | succ d ih => exact .tail ih (hstep (a + d + 1))
  obtain ⟨a, b, hab, _, he⟩ := pigeon n s (fun k _ => hlt _ (hU k))
  refine ⟨s a, hU a, ?_⟩
  have := hpath a (b - a - 1)
  rw [show a + (b - a - 1) + 1 = b by omega, ← he] at this
  exact this
theorem way_head {a c : Nat} (h : TransGen R a c) : R a c ∨ ∃ b, R a b ∧ TransGen R b c := by
  induction h with
  | single h => exact .inl h
  | tail _ h2 ih =>
    rcases ih with h1 | ⟨b, h1, h3⟩
    · exact .inr ⟨_, h1, .single h2⟩
    · exact .inr ⟨b, h1, .tail h3 h2⟩
theorem way_cons {a b c : Nat} (h : R a b) (h2 : TransGen R b c) : TransGen R a c := by
  induction h2 with
  | single h3 => exact .tail (.single h) h3
  | tail _ h3 ih => exact .tail ih h3
theorem way_join {a b c : Nat} (h : TransGen R a b) (h2 : TransGen R b c) : TransGen R a c := by
  induction h2 with
  | single h3 => exact .tail h h3
  | tail _ h3 ih => exact .tail ih h3
/-- Who comes back to itself stands in such a set. -/
theorem of_cyc {i : Nat} (h : TransGen R i i) : ∃ U : Nat → Prop, U i ∧ (∀ v, U v → TransGen R i v) ∧ ∀ v, U v → ∃ w, U w ∧ R v w := by
  refine ⟨fun v => TransGen R i v ∧ TransGen R v i, ⟨h, h⟩, fun v hv => hv.1, fun v ⟨h1, h2⟩ => ?_⟩
  rcases way_head h2 with h3 | ⟨b, h3, h4⟩
  · exact ⟨i, ⟨h, h⟩, h3⟩
  · exact ⟨b, ⟨.tail h1 h3, h4⟩, h3⟩
end Go.Proofs.Ytgfogcaklcnliaa
