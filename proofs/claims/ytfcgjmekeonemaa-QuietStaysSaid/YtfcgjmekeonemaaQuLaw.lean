/- quiet.Play, for the laws. -/
import Derived.Test.YtfcgjmekeonemaaQu4
import Derived.Test.YtfcgjmekeonemaaPlayed
set_option linter.unusedVariables false
set_option linter.unusedSimpArgs false
namespace Go.Proofs.Ytfcgjmekeonemaa
open Go.RowKit

set_option maxRecDepth 100000 in
set_option maxHeartbeats 1600000 in
theorem qu_bad (n : Int) (m cap : Nat) (A : Option Addr) (w : World) (hm : m ≤ maxLen) (hb : playedB n m = false) :
    Calls Try.prog 8 #[.int .i64 n, .slice A m cap] w fun e w' => e = .returned (.tuple #[.agg #[.slice none 0 0, .bool false, .int .u32 0, .int .i64 0], .int .i64 1]) ∧ Below w.heap.size w w' := by
  unfold maxLen at hm
  have h' : n < 1 ∨ 6 < n ∨ 60 < (m : Int) := by
    have : ¬ (1 ≤ n ∧ n ≤ 6 ∧ (m : Int) ≤ 60) := fun h => by rw [playedB_iff.2 h] at hb; cases hb
    omega
  clear hb
  go_enter Try.func8, Try.ntmps8
  go_wp2
  all_goals first
    | (exfalso; omega)
    | ((try simp only [Exit.inBlock, Exit.then]); refine bodyPost_ret (v := .tuple #[.agg #[.slice none 0 0, .bool false, .int .u32 0, .int .i64 0], .int .i64 1]) (by simp [results, Try.results8, go_sem]) rfl ?_; exact ⟨rfl, (Below.refl _ _).alloc (Nat.le_refl _) _⟩)
/-- Done is told just if nobody works and nothing is on the way. -/
theorem qu_told {n : Nat} {M : Mv} {m : Nat} {Wy : Int} (h1 : 1 ≤ n) (h6 : n ≤ 6) (hW : 0 ≤ Wy ∧ (Wy = 0 ↔ ∀ f t, f < n → t < n → (quE n M m).way (f, t) = 0)) : quDone (quE n M m) = true ↔ (quE n M m).works = 0 ∧ Wy = 0 := by
  rw [(quE_J h1 h6 M m).safe h1, hW.2]
  rfl
end Go.Proofs.Ytfcgjmekeonemaa
