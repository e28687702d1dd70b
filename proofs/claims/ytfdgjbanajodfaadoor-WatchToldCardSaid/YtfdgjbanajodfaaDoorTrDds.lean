/- A script with some deeds behind it. -/
import Derived.Test.YtfdgjbanajodfaaDoorTrTell
set_option linter.unusedVariables false
set_option linter.unusedSimpArgs false
namespace Go.Proofs.YtfdgjbanajodfaaDoor
open Go.RowKit

abbrev dds (A : Option Addr) (q cap : Nat) (D : Nat → Deed) : LRow := ⟨A, 30, 4, q, cap, ddF D⟩
theorem new_deeds (w : World) (l : List Deed) (ty : TypeId) : Rd (w.alloc (.cells (cellsDs l).toArray ty)) (w.heap.size + 1) (some ⟨w.heap.size, 0, none⟩) (l.length * 4) (ddF (lsD l)) :=
  cell_new w _ ty (n := l.length * 4) (ddF (lsD l)) w.heap.size rfl (fun j hj => by rw [List.getElem?_toArray]; exact cellsDs_at l j hj)
theorem appD_L {D : Nat → Deed} {m : Nat} {l : List Deed} (h : ∀ i, i < m → DeedL (D i)) (hl : ∀ d ∈ l, DeedL d) : ∀ i, i < m + l.length → DeedL (appD D m (lsD l) i) := by
  intro i hi
  by_cases h1 : i < m
  · rw [appD_old _ _ _ h1]; exact h i h1
  · obtain ⟨k, rfl⟩ : ∃ k, i = m + k := ⟨i - m, by omega⟩
    rw [appD_new]
    have hk : k < l.length := by omega
    have : lsD l k = l[k] := by simp [lsD, List.getD_eq_getElem?_getD, List.getElem?_eq_getElem hk]
    rw [this]
    exact hl _ (List.getElem_mem hk)
theorem Dz_L : DeedL Dz := ⟨by show (0 : Nat) ≤ _; omega, by show (0 : Nat) ≤ _; omega⟩
end Go.Proofs.YtfdgjbanajodfaaDoor
