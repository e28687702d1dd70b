/- The walk of do, whole. -/
import Derived.Test.YtoakgoigamigjaaCo5
import Derived.Test.YtoakgoigamigjaaCo6
import Derived.Test.YtoakgoigamigjaaCo7
import Derived.Test.YtoakgoigamigjaaCo8
set_option linter.unusedVariables false
set_option linter.unusedSimpArgs false
namespace Go.Proofs.Ytoakgoigamigjaa
open Go.RowKit

theorem do_any (g gl n : Nat) (s : CS) (A : Option Addr) (cap : Nat) (R : List LRow) (w0 w : World) (k f t v : Int) (now j : Nat) (hn : n ≤ 6) (hj : j ≤ 60) (hnow : now ≤ 60) (hB : WB n j s) (h : Lay w0 w (rowsK g gl n s A cap R)) :
    Calls Try.prog 11 #[.pointer (some ⟨g, 0, none⟩), .agg #[.int .i64 k, .int .i64 f, .int .i64 t, .int .i64 v], .int .i64 now] w fun e w' => e = .returned (.int .i64 (doS n k f t v now s).1) ∧ ∃ A' cap', Lay w0 w' (rowsK g gl n (doS n k f t v now s).2 A' cap' R) := by
  by_cases hk : k < 1 ∨ 3 < k
  · exact do_kind g gl n s A cap R w0 w k f t v now j hn hj hnow hB h hk
  by_cases h2 : (k ≠ 3 ∧ clientB f = false) ∨ (k ≠ 1 ∧ copiedB n t = false)
  · exact do_arg g gl n s A cap R w0 w k f t v now j hn hj hnow hB h hk h2
  have hf : k ≠ 3 → 0 ≤ f ∧ f < 6 := fun hk3 => by
    have : clientB f = true := by
      cases hc : clientB f
      · exact absurd (.inl ⟨hk3, hc⟩) h2
      · rfl
    unfold clientB at this; simp at this; exact this
  have ht : k ≠ 1 → 0 ≤ t ∧ t < n := fun hk1 => by
    have : copiedB n t = true := by
      cases hc : copiedB n t
      · exact absurd (.inr ⟨hk1, hc⟩) h2
      · rfl
    unfold copiedB at this; simp at this; exact this
  rcases (by omega : k = 1 ∨ k = 2 ∨ k = 3) with hk1 | hk1 | hk1
  · exact do_open g gl n s A cap R w0 w k f t v now j hn hj hnow hB h hk1 (hf (by omega))
  · exact do_reach g gl n s A cap R w0 w k f t v now j hn hj hnow hB h hk1 (hf (by omega)) (ht (by omega))
  · exact do_fail g gl n s A cap R w0 w k f t v now j hn hj hnow hB h hk1 (ht (by omega))
end Go.Proofs.Ytoakgoigamigjaa
