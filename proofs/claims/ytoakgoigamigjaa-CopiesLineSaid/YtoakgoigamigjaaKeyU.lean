/- Keys that are pairs of words. -/
import Derived.Test.YtoakgoigamigjaaLayM
import Derived.WideKeyPair
set_option linter.unusedVariables false
set_option linter.unusedSimpArgs false
namespace Go.Proofs.Ytoakgoigamigjaa
open Go.RowKit Go.Maps Go.MapKept

theorem arrU : WideMaps.ArrKey Try.prog 69 37 2 := ⟨Try.underlying69, by kernel_rfl, by kernel_rfl, by kernel_rfl⟩
theorem lawU : WideMaps.KeyLaw Try.prog 69 := arrU.law
theorem sizeU : ∃ m, Try.prog.types.size = m + 1 := ⟨Try.prog.types.size - 1, by have : (0 : Nat) < Try.prog.types.size := of_decide_eq_true (by kernel_rfl); omega⟩
def keyU (p : Nat × Nat) : Value := .agg #[.int .u32 (p.1 : Nat), .int .u32 (p.2 : Nat)]
theorem keyU_inj (p q : Nat × Nat) (h : keyU p = keyU q) : p = q := by
  unfold keyU at h
  simp at h
  exact Prod.ext (by omega) (by omega)
theorem wf_natU {a : Nat} (h : a < 4294967296) : (Lit.int .u32 (a : Nat)).wf = true := by
  simp [Lit.wf, IntKind.min, IntKind.max, IntKind.signed, IntKind.bits]
  omega
theorem keyU_of (p : Nat × Nat) (h1 : p.1 < 4294967296) (h2 : p.2 < 4294967296) : ∃ kl, keyOf Try.prog 69 (keyU p) = some kl := ⟨_, WideMaps.keyOf_pair arrU Try.underlying37 sizeU (wf_natU h1) (wf_natU h2)⟩
theorem cell_setBlockU {w : World} {b : Nat} {o : Obj} {p : Addr} (h : p.block ≠ b) : (ChangeMaps.setBlock w b o).cell? p = w.cell? p := by
  have : (ChangeMaps.setBlock w b o).heap[p.block]? = w.heap[p.block]? := by
    show (w.heap.setIfInBounds _ _)[p.block]? = _
    rw [Array.getElem?_setIfInBounds_ne (fun e => h e.symm)]
  simp only [World.cell?, this]
end Go.Proofs.Ytoakgoigamigjaa
