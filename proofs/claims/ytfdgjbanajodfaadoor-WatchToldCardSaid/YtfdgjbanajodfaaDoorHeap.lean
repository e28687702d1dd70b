/- Blocks of a world to which some were put. -/
import Derived.Test.YtfdgjbanajodfaaDoorKept
set_option linter.unusedVariables false
set_option linter.unusedSimpArgs false
namespace Go.Proofs.YtfdgjbanajodfaaDoor
open Go.RowKit

theorem size_push (w : World) (o : Obj) : (w.alloc o).heap.size = w.heap.size + 1 := by show (w.heap.push o).size = _; exact Array.size_push ..
theorem heap_push (w : World) (o : Obj) (k : Nat) : (w.alloc o).heap[k]? = if k = w.heap.size then some o else w.heap[k]? := by
  show (w.heap.push o)[k]? = _
  rw [Array.getElem?_push]
theorem one_at {F : Nat → Prop} (h : F 0) : ∀ i, i < 1 → F i := by
  intro i hi
  obtain rfl : i = 0 := by omega
  exact h
theorem grown_sim {a b w2 : World} {row : Option Nat} (h : b.grownBy w2 row) (e : Sim a b) : a.grownBy w2 row :=
  ⟨h.os.trans e.2.1, h.tape.trans e.2.2.1, h.output.trans e.2.2.2, by rw [← e.1]; exact h.size, fun k hk hr => (h.block k (by rw [e.1]; exact hk) hr).trans (by rw [e.1])⟩
theorem heap_old (w : World) (o : Obj) {k : Nat} (h : k ≠ w.heap.size) : (w.alloc o).heap[k]? = w.heap[k]? := by rw [heap_push, if_neg h]
theorem heap_new (w : World) (o : Obj) {k : Nat} (h : k = w.heap.size) : (w.alloc o).heap[k]? = some o := by rw [heap_push, if_pos h]
theorem heap_set (w : World) (p : Addr) (u : Value) {k : Nat} (h : k ≠ p.block) : (w.setCell p u).heap[k]? = w.heap[k]? := Below.heap_setCell _ _ _ _ h
end Go.Proofs.YtfdgjbanajodfaaDoor
