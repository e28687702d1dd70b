/- The walk of beaconryref.Size. -/
import Derived.Test.YtihkbkbbllmliaaBit
import Derived.Test.YtihkbkbbllmliaaPopM
set_option linter.unusedVariables false
set_option linter.unusedSimpArgs false
namespace Go.Proofs.Ytihkbkbbllmliaa
open Go.RowKit

set_option maxHeartbeats 400000 in
theorem size_any (a : Nat) (w : World) (ha : a < 4294967296) :
    Calls Try.prog 11 #[.int .u32 a] w fun e w' => e = .returned (.int .i64 (pop a : Nat)) ∧ w = w' := by
  have HA := Lib.hid ha; clear ha
  go_enter Try.func11, Try.ntmps11
  go_wp2
  go_loop [3, 4] (fun s i => ∃ k : Nat, k ≤ 32 ∧ i = .int .i64 k ∧ s = .int .i64 (popTo a k : Nat)) (fun _ i => 32 - (intOf i).toNat)
  case atStart => exact ⟨0, by omega, rfl, rfl⟩
  case round =>
    obtain ⟨k, hk, rfl, rfl⟩ := hrel
    have hle := popTo_le a k
    by_cases hlt : k < 32
    · have HS : Hid (popTo a (k + 1) = popTo a k + (a.testBit k).toNat) := rfl
      obtain ⟨b, hb⟩ : ∃ b, a.testBit k = b := ⟨_, rfl⟩
      rw [hb] at HS
      have HB : Hid (bitB a (k : Int) = b) := by show _ = _; rw [bitB_nat]; exact hb
      clear hb
      cases b
      all_goals
        go_wp2_with (go_at_call 17; refine (bit_is _ _ _ _ HA.out HB.out).mono ?_; rintro e w' ⟨rfl, rfl⟩)
        go_round
        case rel => exact ⟨k + 1, by omega, by go_num, by rw [HS.out]; first | rfl | (simp only [Bool.toNat_true]; go_num)⟩
        case measure => simp [intOf]; omega
    · obtain rfl : k = 32 := by omega
      go_wp2
      go_ret
      exact ⟨rfl, rfl⟩
theorem size_is (c a : Nat) (w : World) (ha : a < 4294967296) (hc : pop a = c) :
    Calls Try.prog 11 #[.int .u32 a] w fun e w' => e = .returned (.int .i64 (c : Nat)) ∧ w = w' := by rw [← hc]; exact size_any a w ha
end Go.Proofs.Ytihkbkbbllmliaa
