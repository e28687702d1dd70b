/- Shifts to the right of words, as the walks spell them. -/
import Derived.Test.YthonnpimfidkdaaBits
set_option linter.unusedVariables false
set_option linter.unusedSimpArgs false
namespace Go.Proofs.Ythonnpimfidkdaa
open Go.RowKit

theorem bit_at {P i : Nat} (hP : P < 4294967296) : (bits .and .u32 ((P : Int) / 2 ^ i) 1 == 1) = P.testBit i := by
  have e : ((P : Int) / 2 ^ i) = ((P / 2 ^ i : Nat) : Int) := by simp
  have h1 : P / 2 ^ i < 4294967296 := Nat.lt_of_le_of_lt (Nat.div_le_self _ _) hP
  have h2 := u32_and_nat (P / 2 ^ i) 1 h1 (by omega)
  rw [e]
  have e1 : ((1 : Nat) : Int) = 1 := rfl
  rw [e1] at h2
  rw [h2, Nat.testBit_eq_decide_div_mod_eq, Nat.and_one_is_mod]
  rw [Bool.eq_iff_iff, beq_iff_eq, decide_eq_true_iff]
  omega
theorem bit_num {P i : Nat} (hP : P < 4294967296) : bits .and .u32 ((P : Int) / 2 ^ i) 1 = if P.testBit i then 1 else 0 := by
  have h := bit_at (i := i) hP
  have e : ((P : Int) / 2 ^ i) = ((P / 2 ^ i : Nat) : Int) := by simp
  have h1 : P / 2 ^ i < 4294967296 := Nat.lt_of_le_of_lt (Nat.div_le_self _ _) hP
  have h2 := u32_and_nat (P / 2 ^ i) 1 h1 (by omega)
  have e1 : ((1 : Nat) : Int) = 1 := rfl
  rw [e1, ← e] at h2
  rw [h2] at h ⊢
  have h3 : P / 2 ^ i &&& 1 ≤ 1 := Nat.and_le_right
  generalize P / 2 ^ i &&& 1 = x at h h3 ⊢
  cases ht : P.testBit i
  · rw [ht] at h
    simp at h ⊢
    omega
  · rw [ht] at h
    simp at h ⊢
    omega
theorem div_pow_zero {a n : Nat} (h : ((a : Int) / 2 ^ n != 0) = false) : a < 2 ^ n := by
  have h : (a : Int) / 2 ^ n = 0 := by simpa using h
  have e : ((2 : Int) ^ n) = ((2 ^ n : Nat) : Int) := by simp
  rw [e] at h
  have h2 : a / 2 ^ n = 0 := by exact_mod_cast h
  exact (Nat.div_eq_zero_iff.1 h2).resolve_left (by have := Nat.two_pow_pos n; omega)
theorem div_pow_pos {a n : Nat} (h : ((a : Int) / 2 ^ n != 0) = true) : 2 ^ n ≤ a := by
  rcases Nat.lt_or_ge a (2 ^ n) with hlt | hge
  · have h2 : a / 2 ^ n = 0 := Nat.div_eq_of_lt hlt
    have : (a : Int) / 2 ^ n = 0 := by
      have e : ((2 : Int) ^ n) = ((2 ^ n : Nat) : Int) := by simp
      rw [e]; exact_mod_cast h2
    rw [this] at h; simp at h
  · exact hge
theorem shr_eq (x n : Nat) : ((x : Int) / 2 ^ n != 0) = decide (2 ^ n ≤ x) := by
  rw [Bool.eq_iff_iff, decide_eq_true_iff]
  constructor
  · exact div_pow_pos
  · intro h
    cases hq : ((x : Int) / 2 ^ n != 0)
    · have := div_pow_zero hq; omega
    · rfl
end Go.Proofs.Ythonnpimfidkdaa
