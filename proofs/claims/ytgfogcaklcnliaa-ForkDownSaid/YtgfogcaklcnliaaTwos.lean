/- The walk of beaconryref.Twos at two lists that are the same. -/
import Derived.Test.YtgfogcaklcnliaaPair
import Derived.Test.YtgfogcaklcnliaaText
import Derived.Test.YtgfogcaklcnliaaRec2
import Derived.Test.YtgfogcaklcnliaaHeap
set_option linter.unusedVariables false
set_option linter.unusedSimpArgs false
namespace Go.Proofs.Ytgfogcaklcnliaa
open Go.RowKit

set_option maxHeartbeats 1000000 in
theorem twos_same (A A' : Option Addr) (n cap cap' B : Nat) (p q : Nat → Int) (w : World) (hn : n ≤ maxLen) (hB : B ≤ w.heap.size) (h : Rd w B A (n * 2) (recF2 p q)) (h' : Rd w B A' (n * 2) (recF2 p q)) :
    Calls Try.prog 13 #[.slice A n cap, .slice A' n cap'] w (Gives fun v w' => v = .bool true ∧ Below w.heap.size w w') := by
  unfold maxLen at hn
  have H := Lib.hid (h.more hB); clear h
  have H' := Lib.hid (h'.more hB); clear h'
  have hEq := fun w a b c d => pair_eq w a b c d
  go_enter Try.func13, Try.ntmps13
  go_wp2
  go_loopw [5] (fun i wr => ∃ k : Nat, k ≤ n ∧ i = .int .i64 k ∧ Hid (Below w.heap.size w wr)) (fun i _ => n - (intOf i).toNat)
  case atStart => exact ⟨0, by omega, rfl, Below.refl _ _⟩
  case round =>
    obtain ⟨k, hk, rfl, HB⟩ := hrel
    by_cases hlt : k < n
    · obtain ⟨ad, rfl, hbl, c0, c1⟩ := (H.out.below HB.out).rec2 hlt
      obtain ⟨ad', rfl, hbl', c0', c1'⟩ := (H'.out.below HB.out).rec2 hlt
      have hp : (p k == p k) = true := by simp
      have hq : (q k == q k) = true := by simp
      go_wp2
      refine wp_text_all (by kernel_rfl) (by kernel_rfl) (by kernel_rfl) (by repeat' (first | (with_reducible apply tame_then) | (with_reducible apply tame_block) | (with_reducible apply tame_scope) | exact tame_gives | exact tame_body (fun _ _ h => ⟨_, h.1⟩))) ?_
      go_wp2
      refine headed ?_
      go_wp2
      go_roundw
      case rel => exact ⟨k + 1, by omega, by go_num, Lib.hid HB.out.drew⟩
      case measure => simp [intOf]; omega
    · obtain rfl : k = n := by omega
      go_wp2
      go_ret
      exact ⟨_, rfl, rfl, HB.out⟩
end Go.Proofs.Ytgfogcaklcnliaa
