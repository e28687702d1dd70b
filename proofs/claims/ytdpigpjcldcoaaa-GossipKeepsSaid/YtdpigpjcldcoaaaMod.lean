/- 'int(k) % (len(l) + 1)'. -/
import Derived.Test.YtdpigpjcldcoaaaWords
set_option linter.unusedVariables false
set_option linter.unusedSimpArgs false
namespace Go.Proofs.Ytdpigpjcldcoaaa
open Go.RowKit

theorem mod_nat {k m i : Nat} (h : ((k : Int) % ((m : Int) + 1)) = (i : Int)) : k % (m + 1) = i := by
  have h2 : ((k % (m + 1) : Nat) : Int) = i := by push_cast; exact h
  omega
theorem mod_some (k len : Nat) : ∃ m : Nat, ((k : Int) % ((len : Int) + 1)) = (m : Int) ∧ m ≤ len ∧ m = k % (len + 1) := by
  refine ⟨k % (len + 1), by simp, ?_, rfl⟩
  have := Nat.mod_lt k (show 0 < len + 1 by omega)
  omega
end Go.Proofs.Ytdpigpjcldcoaaa
