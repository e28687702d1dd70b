/- The walk of beaconryref.Bit. -/
import Derived.Test.YtcmbbioipbdonaaBits
set_option linter.unusedVariables false
set_option linter.unusedSimpArgs false
namespace Go.Proofs.Ytcmbbioipbdonaa
open Go.RowKit

def bitB (a : Nat) (i : Int) : Bool := decide (0 ≤ i) && a.testBit i.toNat
theorem bitB_nat (a i : Nat) : bitB a (i : Int) = a.testBit i := by simp [bitB]

set_option maxHeartbeats 400000 in
theorem bit_any (a : Nat) (i : Int) (w : World) (ha : a < 4294967296) :
    Calls Try.prog 10 #[.int .u32 a, .int .i64 i] w fun e w' => e = .returned (.bool (bitB a i)) ∧ w = w' := by
  have HA := Lib.hid ha; clear ha
  by_cases h0 : 0 ≤ i
  · by_cases h1 : i < 32
    · have HV := Lib.hid (and_pow_ne (m := i.toNat) HA.out (by omega))
      go_enter Try.func10, Try.ntmps10
      go_wp2
      go_ret
      exact ⟨ret_bool (by rw [HV.out]; simp [bitB, h0]), rfl⟩
    · have h1 : 32 ≤ i := by omega
      go_enter Try.func10, Try.ntmps10
      go_wp2
      go_ret
      exact ⟨ret_bool (by simp [bitB, h0, testBit_big HA.out (by omega : 32 ≤ i.toNat)]), rfl⟩
  · have h0' : i < 0 := by omega
    go_enter Try.func10, Try.ntmps10
    go_wp2
    go_ret
    exact ⟨ret_bool (by simp [bitB]; omega), rfl⟩
theorem bit_is (b : Bool) (a : Nat) (i : Int) (w : World) (ha : a < 4294967296) (hb : bitB a i = b) :
    Calls Try.prog 10 #[.int .u32 a, .int .i64 i] w fun e w' => e = .returned (.bool b) ∧ w = w' := by
  rw [← hb]; exact bit_any a i w ha
end Go.Proofs.Ytcmbbioipbdonaa
