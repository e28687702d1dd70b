/- Keys that are pairs of integers. -/
import Derived.Test.YtihkbkbbllmliaaLayM
import Derived.WideKeyPair
set_option linter.unusedVariables false
set_option linter.unusedSimpArgs false
namespace Go.Proofs.Ytihkbkbbllmliaa
open Go.RowKit Go.Maps Go.MapKept

theorem arrP : WideMaps.ArrKey Try.prog 48 3 2 := ⟨Try.underlying48, by kernel_rfl, by kernel_rfl, by kernel_rfl⟩
theorem lawP : WideMaps.KeyLaw Try.prog 48 := arrP.law
theorem sizeP : ∃ m, Try.prog.types.size = m + 1 := ⟨Try.prog.types.size - 1, by have : (0 : Nat) < Try.prog.types.size := of_decide_eq_true (by kernel_rfl); omega⟩
def keyQ (p : Nat × Nat) : Value := .agg #[.int .i64 (p.1 : Nat), .int .i64 (p.2 : Nat)]
theorem keyQ_inj (p q : Nat × Nat) (h : keyQ p = keyQ q) : p = q := by
  unfold keyQ at h
  simp at h
  exact Prod.ext (by omega) (by omega)
theorem wf_nat {a : Nat} (h : a < 1000) : (Lit.int .i64 (a : Nat)).wf = true := by
  simp [Lit.wf, IntKind.min, IntKind.max, IntKind.signed, IntKind.bits]
  omega
theorem keyP (p : Nat × Nat) (h1 : p.1 < 1000) (h2 : p.2 < 1000) : ∃ kl, keyOf Try.prog 48 (keyQ p) = some kl := ⟨_, WideMaps.keyOf_pair arrP Try.underlying3 sizeP (wf_nat h1) (wf_nat h2)⟩
theorem cell_setBlock {w : World} {b : Nat} {o : Obj} {p : Addr} (h : p.block ≠ b) : (ChangeMaps.setBlock w b o).cell? p = w.cell? p := by
  have : (ChangeMaps.setBlock w b o).heap[p.block]? = w.heap[p.block]? := by
    show (w.heap.setIfInBounds _ _)[p.block]? = _
    rw [Array.getElem?_setIfInBounds_ne (fun e => h e.symm)]
  simp only [World.cell?, this]
/-- What a map holds may be told more loosely. -/
theorem LayM.loosen {w0 w : World} {L : List LRow} {b : Nat} {φ φ' : Array MapEntry → Nat → Prop} (h : LayM w0 w L [⟨b, φ⟩]) (hφ : ∀ es c, φ es c → φ' es c) : LayM w0 w L [⟨b, φ'⟩] := by
  refine ⟨h.lay, fun i q hi => ?_, fun i j q r hij hi hj => ?_⟩
  · rcases i with _ | i
    · obtain rfl : _ = q := by simpa using hi
      obtain ⟨h1, es, c, h2, h3⟩ := h.map 0 _ rfl
      exact ⟨h1, es, c, h2, hφ _ _ h3⟩
    · simp at hi
  · rcases i with _ | i
    · rcases j with _ | j
      · exact absurd rfl hij
      · simp at hj
    · simp at hi
theorem EMap.more {α : Type} {P : Program} {k : TypeId} {z : Value} {κ : α → Value} {S : α → Prop} {n n' : Nat} {f : α → Value} {es : Array MapEntry} {clock : Nat} (h : EMap P k z κ S n f es clock) (hn : n ≤ n') : EMap P k z κ S n' f es clock :=
  ⟨h.stamped, h.keys, Nat.le_trans h.size hn, h.dom, h.val, h.none_⟩
end Go.Proofs.Ytihkbkbbllmliaa
