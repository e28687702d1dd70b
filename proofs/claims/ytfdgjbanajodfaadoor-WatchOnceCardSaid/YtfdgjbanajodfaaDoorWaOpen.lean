/- A slice of askings, opened. -/
import Derived.Test.YtfdgjbanajodfaaDoorWaAsk
import Derived.Test.YtfdgjbanajodfaaDoorNestO
set_option linter.unusedVariables false
set_option linter.unusedSimpArgs false
namespace Go.Proofs.YtfdgjbanajodfaaDoor
open Go.ChangeShapes Go.WideShapes Go.ChangeAt Go.RowKit

set_option maxRecDepth 100000 in
theorem nestAsk : ∃ fs fd, NestT Tryd.prog 32 30 2 (fun j => j == 1) fs fd := by
  refine ⟨_, _, ⟨Tryd.underlying32, by kernel_rfl, fun j f hf => ?_, fun j f hj hf => ?_, fun f hf => ?_, by kernel_rfl, by kernel_rfl, Tryd.underlying30, by kernel_rfl, by kernel_rfl, fun j f hf => ?_⟩⟩
  · rcases j with _ | _ | _ | j <;> simp at hf <;> subst hf <;> rfl
  · rcases j with _ | _ | j
    · simp at hf; subst hf; exact ⟨by kernel_rfl, Tryd.underlying3⟩
    · simp at hf; subst hf; exact ⟨by kernel_rfl, Tryd.underlying4⟩
    · omega
  · simp at hf; subst hf; rfl
  · rcases j with _ | _ | _ | _ | j <;> simp at hf <;> subst hf <;> first | exact Tryd.underlying3 | exact Tryd.underlying9
section
variable {H : Type} {enc : TypeId × Value → H} {w : World} {r : Reach} {b0 : Nat} {v : Value} {d : DataW H} {p : List MemPlace}
set_option maxRecDepth 100000 in
theorem open_asked (hv : Value.okWide Tryd.prog w r b0 22 v) (h : DataW.Trod enc Tryd.prog w 0 (fun _ => true) true 22 v d p) (hwt : ∀ n ∈ d.weights Tryd.prog 22, n ≤ 140737488351232) :
    ∃ (A : Option Addr) (n cap : Nat) (X : Nat → AskX), v = .slice A n cap ∧ ((n ≤ cap ∧ cap ≤ maxLen) ∧ SlCap d cap) ∧ (∀ i, i < n → DeedL (X i).deed) ∧ Rd w w.heap.size A (n * 6) (akF X) := by
  obtain ⟨fs, fd, hT⟩ := nestAsk
  obtain ⟨A, n, cap, hs, D, rfl, hcap, hall, hr⟩ := open_nest Tryd.underlying22 hT hv h hwt
  have key : ∀ i, ∃ x : AskX, i < n → hs i ++ cellsD (D i) = cellsA x ∧ DeedL x.deed := by
    intro i
    by_cases hi : i < n
    · obtain ⟨⟨hl, hh⟩, hd⟩ := hall i hi
      obtain ⟨x0, k0⟩ : ∃ x : Int, (hs i)[0]? = some (.int .i64 x) := by have := hh 0 (by omega); simpa using this
      obtain ⟨x1, k1⟩ : ∃ x : Bool, (hs i)[1]? = some (.bool x) := by have := hh 1 (by omega); simpa using this
      have e : hs i = [.int .i64 x0, .bool x1] := by
        apply List.ext_getElem?
        intro j
        by_cases hj : j < 2
        · rcases (by omega : j = 0 ∨ j = 1) with rfl | rfl
          · exact k0
          · exact k1
        · rw [List.getElem?_eq_none (by omega), List.getElem?_eq_none (by simp; omega)]
      exact ⟨⟨x0, x1, D i⟩, fun _ => ⟨by rw [e]; rfl, hd⟩⟩
    · exact ⟨Az, fun h => absurd h hi⟩
  obtain ⟨X, hX⟩ := Classical.skolem.1 key
  refine ⟨A, n, cap, X, rfl, hcap, fun i hi => (hX i hi).2, hr.congr fun j hj => ?_⟩
  show ofL (hs (j / 6) ++ cellsD (D (j / 6))) (j % 6) = ofL (cellsA (X (j / 6))) (j % 6)
  rw [(hX (j / 6) (by have hj : j < n * 6 := hj; omega)).1]
end
end Go.Proofs.YtfdgjbanajodfaaDoor
