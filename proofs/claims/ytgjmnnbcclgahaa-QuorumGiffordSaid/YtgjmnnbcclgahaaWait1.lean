/- The walks of the two checks of waits: both answer with the code 'waitCode'. -/
import Derived.Test.YtgjmnnbcclgahaaWords
set_option linter.unusedVariables false
set_option linter.unusedSimpArgs false
namespace Go.Proofs.Ytgjmnnbcclgahaa
open Go.RowKit

def waitBad (f : Nat → Nat) (n : Nat) : Bool := anyTo (fun j => decide (2 ^ n ≤ f j)) n
def waitCode (f : Nat → Nat) (n : Nat) : Int := if 1 ≤ n ∧ n ≤ 6 then (if waitBad f n then 4 else 0) else 1

theorem two_pow_small {n : Nat} (h : n ≤ 6) : (2 : Int) ^ n % 4294967296 = (2 ^ n : Nat) ∧ 2 ^ n ≤ 64 := by
  have : n = 0 ∨ n = 1 ∨ n = 2 ∨ n = 3 ∨ n = 4 ∨ n = 5 ∨ n = 6 := by omega
  rcases this with rfl | rfl | rfl | rfl | rfl | rfl | rfl <;> decide

theorem waitCode_bad {f : Nat → Nat} {n k : Nat} (h1 : 1 ≤ n) (h6 : n ≤ 6) (hk : k < n) (h : 2 ^ n ≤ f k) : waitCode f n = 4 := by
  have : waitBad f n = true := anyTo_iff.2 ⟨k, hk, by simpa using h⟩
  simp [waitCode, h1, h6, this]
theorem waitCode_good {f : Nat → Nat} {n : Nat} (h1 : 1 ≤ n) (h6 : n ≤ 6) (h : ∀ j, j < n → f j < 2 ^ n) : waitCode f n = 0 := by
  have : waitBad f n = false := anyTo_no.2 fun j hj => by simpa using h j hj
  simp [waitCode, h1, h6, this]
theorem waitCode_size {f : Nat → Nat} {n : Nat} (h : ¬ (1 ≤ n ∧ n ≤ 6)) : waitCode f n = 1 := by rw [waitCode, if_neg h]

set_option maxHeartbeats 400000 in
theorem waitCheck_any (A : Option Addr) (n cap B : Nat) (f : Nat → Nat) (w : World) (hm : n ≤ maxLen) (hr : Rd w B A n (fun j => .int .u32 (f j : Nat))) :
    Calls Try.prog 26 #[.slice A n cap] w fun e w' => e = .returned (.int .i64 (waitCode f n)) ∧ w = w' := by
  unfold maxLen at hm
  by_cases h1 : 1 ≤ n ∧ n ≤ 6
  · obtain ⟨h1, h6⟩ := h1
    obtain ⟨ad, rfl, hbl, hc⟩ := hr (by omega)
    have HC := Lib.hid hc; clear hc hr
    have HP := Lib.hid (two_pow_small h6)
    go_enter Try.func26, Try.ntmps26
    go_wp2
    go_loop [15] (fun i => ∃ k : Nat, k ≤ n ∧ i = .int .i64 k ∧ ∀ j, j < k → f j < 2 ^ n) (fun i => n - (intOf i).toNat)
    case atStart => exact ⟨0, by omega, rfl, fun j hj => absurd hj (by omega)⟩
    case round =>
      obtain ⟨k, hk, rfl, hall⟩ := hrel
      have HA := Lib.hid hall; clear hall
      by_cases hlt : k < n
      · have hck := HC.out k hlt
        go_wp2
        · have hge : 2 ^ n % 4294967296 ≤ (f k : Int) := by assumption
          rw [HP.out.1] at hge
          go_ret
          exact ⟨ret_int (waitCode_bad h1 h6 hlt (by omega)).symm, rfl⟩
        · have hge : (f k : Int) < 2 ^ n % 4294967296 := by assumption
          rw [HP.out.1] at hge
          go_round
          case rel => exact ⟨k + 1, by omega, by go_num, fun j hj => (Nat.lt_succ_iff_lt_or_eq.1 hj).elim (HA.out j) (fun e => by subst e; omega)⟩
          case measure => simp [intOf]; omega
      · go_wp2
        go_ret
        exact ⟨ret_int (waitCode_good h1 h6 fun j hj => HA.out j (by omega)).symm, rfl⟩
  · have HW := Lib.hid (waitCode_size (f := f) h1)
    go_enter Try.func26, Try.ntmps26
    go_wp2
    all_goals first | (go_ret; exact ⟨ret_int HW.out.symm, rfl⟩) | (exfalso; omega)

theorem div_pow_zero {a n : Nat} (h : ((a : Int) / 2 ^ n != 0) = false) : a < 2 ^ n := by
  have h : (a : Int) / 2 ^ n = 0 := by simpa using h
  have e : ((2 : Int) ^ n) = ((2 ^ n : Nat) : Int) := by simp
  rw [e] at h
  have h2 : a / 2 ^ n = 0 := by exact_mod_cast h
  exact (Nat.div_eq_zero_iff.1 h2).resolve_left (by have := Nat.two_pow_pos n; omega)
theorem div_pow_pos {a n : Nat} (h : ((a : Int) / 2 ^ n != 0) = true) : 2 ^ n ≤ a := by
  rcases Nat.lt_or_ge a (2 ^ n) with hlt | hge
  · have h2 : a / 2 ^ n = 0 := Nat.div_eq_of_lt hlt
    have : (a : Int) / 2 ^ n = 0 := by
      have e : ((2 : Int) ^ n) = ((2 ^ n : Nat) : Int) := by simp
      rw [e]; exact_mod_cast h2
    rw [this] at h; simp at h
  · exact hge
set_option maxHeartbeats 400000 in
theorem waitWrong_any (A : Option Addr) (n cap B : Nat) (f : Nat → Nat) (w : World) (hm : n ≤ maxLen) (hr : Rd w B A n (fun j => .int .u32 (f j : Nat))) :
    Calls Try.prog 28 #[.slice A n cap] w fun e w' => e = .returned (.int .i64 (waitCode f n)) ∧ w = w' := by
  unfold maxLen at hm
  by_cases h1 : 1 ≤ n ∧ n ≤ 6
  · obtain ⟨h1, h6⟩ := h1
    obtain ⟨ad, rfl, hbl, hc⟩ := hr (by omega)
    have HC := Lib.hid hc; clear hc hr
    go_enter Try.func28, Try.ntmps28
    go_wp2
    go_loop [15] (fun i => ∃ k : Nat, k ≤ n ∧ i = .int .i64 k ∧ ∀ j, j < k → f j < 2 ^ n) (fun i => n - (intOf i).toNat)
    case atStart => exact ⟨0, by omega, rfl, fun j hj => absurd hj (by omega)⟩
    case round =>
      obtain ⟨k, hk, rfl, hall⟩ := hrel
      have HA := Lib.hid hall; clear hall
      by_cases hlt : k < n
      · have hck := HC.out k hlt
        go_wp2
        · have hge : ((f k : Int) / 2 ^ n != 0) = true := by assumption
          go_ret
          exact ⟨ret_int (waitCode_bad h1 h6 hlt (div_pow_pos hge)).symm, rfl⟩
        · have hge : ((f k : Int) / 2 ^ n != 0) = false := by assumption
          have hlo := div_pow_zero hge
          go_round
          case rel => exact ⟨k + 1, by omega, by go_num, fun j hj => (Nat.lt_succ_iff_lt_or_eq.1 hj).elim (HA.out j) (fun e => by subst e; exact hlo)⟩
          case measure => simp [intOf]; omega
      · go_wp2
        go_ret
        exact ⟨ret_int (waitCode_good h1 h6 fun j hj => HA.out j (by omega)).symm, rfl⟩
  · have HW := Lib.hid (waitCode_size (f := f) h1)
    go_enter Try.func28, Try.ntmps28
    go_wp2
    all_goals first | (go_ret; exact ⟨ret_int HW.out.symm, rfl⟩) | (exfalso; omega)
end Go.Proofs.Ytgjmnnbcclgahaa
