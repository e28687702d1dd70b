/- A row of structs, each told by a value of a type of its own. -/
import Derived.Test.YtihkbkbbllmliaaLay
set_option linter.unusedVariables false
set_option linter.unusedSimpArgs false
namespace Go.Proofs.Ytihkbkbbllmliaa
open Go.RowKit

def rowF {β : Type} (sz : Nat) (V : β → Nat → Value) (p : Nat → β) : Nat → Value := fun j => V (p (j / sz)) (j % sz)
theorem rowF_at {β : Type} {sz : Nat} (V : β → Nat → Value) (p : Nat → β) {i f : Nat} (hf : f < sz) : rowF sz V p (i * sz + f) = V (p i) f := by
  unfold rowF
  have h1 : (i * sz + f) / sz = i := by
    rw [Nat.mul_comm, Nat.mul_add_div (by omega), Nat.div_eq_of_lt hf, Nat.add_zero]
  have h2 : (i * sz + f) % sz = f := by
    rw [Nat.mul_comm, Nat.mul_add_mod, Nat.mod_eq_of_lt hf]
  rw [h1, h2]
theorem rowF_set {β : Type} {sz : Nat} (V : β → Nat → Value) (p : Nat → β) {i f : Nat} {o : β} {u : Value} (hf : f < sz) (hu : V o f = u) (ho : ∀ k, k < sz → k ≠ f → V o k = V (p i) k) :
    rowF sz V (upd p i o) (i * sz + f) = u ∧ ∀ j, j ≠ i * sz + f → rowF sz V (upd p i o) j = rowF sz V p j := by
  refine ⟨by rw [rowF_at V _ hf, upd_same]; exact hu, fun j hj => ?_⟩
  unfold rowF
  by_cases e : j / sz = i
  · rw [e, upd_same]
    refine ho _ (Nat.mod_lt _ (by omega)) fun e2 => hj ?_
    rw [← e, ← e2, Nat.mul_comm]
    exact (Nat.div_add_mod j sz).symm
  · rw [upd_ne _ _ e]
end Go.Proofs.Ytihkbkbbllmliaa
