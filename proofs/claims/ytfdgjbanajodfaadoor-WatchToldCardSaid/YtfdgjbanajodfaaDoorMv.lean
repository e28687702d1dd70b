/- A script's moves, as functions of the place. -/
import Derived.Test.YtfdgjbanajodfaaDoorWords
set_option linter.unusedVariables false
set_option linter.unusedSimpArgs false
namespace Go.Proofs.YtfdgjbanajodfaaDoor
open Go.RowKit

/-- The moves' cells. -/
structure Mv where
  k : Nat → Int
  f : Nat → Int
  t : Nat → Int
  v : Nat → Int
abbrev mvF (M : Mv) : Nat → Value := recF4 M.k M.f M.t M.v

def upd {α : Type} (f : Nat → α) (i : Nat) (x : α) : Nat → α := fun j => if j = i then x else f j
theorem upd_same {α : Type} (f : Nat → α) (i : Nat) (x : α) : upd f i x i = x := by simp [upd]
theorem upd_ne {α : Type} (f : Nat → α) {i j : Nat} (x : α) (h : j ≠ i) : upd f i x j = f j := by simp [upd, h]
theorem upd_apply {α : Type} (f : Nat → α) (i j : Nat) (x : α) : upd f i x j = if j = i then x else f j := rfl
theorem upd_upd {α : Type} (f : Nat → α) (i : Nat) (x y : α) : upd (upd f i x) i y = upd f i y := by funext j; simp only [upd]; split <;> rfl
end Go.Proofs.YtfdgjbanajodfaaDoor
