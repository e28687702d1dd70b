/- A slice of bools, opened. -/
import Derived.Test.YtelenomccmnkfaaRow
import Derived.Deep.Grids
set_option linter.unusedVariables false
set_option linter.unusedSimpArgs false
namespace Go.Proofs.Ytelenomccmnkfaa
open Go.ChangeShapes Go.WideShapes Go.ChangeAt Go.RowKit

theorem open_boolsF {H : Type} {enc : TypeId × Value → H} {P : Program} {w : World} {r : Reach} {b0 : Nat} {t e : TypeId} {v : Value} {d : DataW H} {p : List MemPlace} (ht : P.underlying t = some (.slice e)) (he : P.underlying e = some .bool) (hc : P.cellsOf e = 1) (hv : Value.okWide P w r b0 t v) (h : DataW.Trod enc P w 0 (fun _ => true) true t v d p) :
    ∃ (A : Option Addr) (n cap : Nat) (f : Nat → Bool), v = .slice A n cap ∧ ((n ≤ cap ∧ cap ≤ maxLen) ∧ SlCap d cap) ∧ Rd w w.heap.size A n (fun j => .bool (f j)) := by
  obtain ⟨A, n, cap, rfl⟩ := okWide_slice ht hv
  obtain ⟨fuel, hf⟩ := h
  rcases Deep.open_bools ht he hc hf with ⟨hcs, hd⟩ | ⟨a, len', cap', B, hcs, _, hl, hm, hd, hcell⟩
  · simp only [Value.cells] at hcs
    injection hcs with hcs _
    injection hcs with h1 h2 h3
    subst h1 h2 h3
    exact ⟨none, 0, 0, fun _ => false, rfl, ⟨⟨Nat.le_refl _, by unfold maxLen; omega⟩, .inl ⟨congrArg Prod.fst hd, rfl⟩⟩, Rd.zero _ _ _ _⟩
  · simp only [Value.cells] at hcs
    injection hcs with hcs _
    injection hcs with h1 h2 h3
    subst h1 h2 h3
    refine ⟨some a, n, cap, B, rfl, ⟨⟨hl, hm⟩, .inr ⟨_, _, congrArg Prod.fst hd, by simp; omega⟩⟩, fun hn => ⟨a, rfl, ?_, fun j hj => hcell j (by omega)⟩⟩
    have := World.block_lt_of_cell? w (a.add 0) (hcell 0 (by omega))
    rwa [addr_block] at this
end Go.Proofs.Ytelenomccmnkfaa
