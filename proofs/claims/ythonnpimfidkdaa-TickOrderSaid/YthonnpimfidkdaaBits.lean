/- Small laws on words of 32 bits, as the walks spell them. -/
import Derived.Test.YthonnpimfidkdaaWords
import Derived.Laws.BitsAll
set_option linter.unusedVariables false
set_option linter.unusedSimpArgs false
namespace Go.Proofs.Ythonnpimfidkdaa
open Go.RowKit

theorem pow_lt32 {m : Nat} (hm : m < 32) : 2 ^ m < 4294967296 := Nat.lt_of_lt_of_le (Nat.pow_lt_pow_right (by omega) hm) (by decide)
theorem pow_mod {m : Nat} (hm : m < 32) : ((2 : Int) ^ m % 4294967296) = ((2 ^ m : Nat) : Int) := by
  have h2 := pow_lt32 hm
  have : ((2 : Int) ^ m) = ((2 ^ m : Nat) : Int) := by simp
  rw [this]
  generalize 2 ^ m = p at h2 ⊢
  omega
theorem or_pow {a m : Nat} (ha : a < 4294967296) (hm : m < 32) : bits .or .u32 (a : Int) (2 ^ m % 4294967296) = ((a ||| 2 ^ m : Nat) : Int) := by
  rw [pow_mod hm, u32_or_nat a _ ha (pow_lt32 hm)]
theorem and_pow {a m : Nat} (ha : a < 4294967296) (hm : m < 32) : bits .and .u32 (a : Int) (2 ^ m % 4294967296) = ((a &&& 2 ^ m : Nat) : Int) := by
  rw [pow_mod hm, u32_and_nat a _ ha (pow_lt32 hm)]
theorem and_two_pow_ne (a m : Nat) : a &&& 2 ^ m ≠ 0 ↔ a.testBit m = true := by
  constructor
  · intro h
    cases ht : a.testBit m
    · refine absurd (Nat.eq_of_testBit_eq fun i => ?_) h
      rw [Nat.testBit_and, Nat.zero_testBit, Nat.testBit_two_pow]
      by_cases e : m = i
      · subst e; simp [ht]
      · simp [e]
    · rfl
  · intro h h0
    have := congrArg (fun x => x.testBit m) h0
    simp [Nat.testBit_and, h] at this
theorem and_pow_ne {a m : Nat} (ha : a < 4294967296) (hm : m < 32) : (bits .and .u32 (a : Int) (2 ^ m % 4294967296) != 0) = a.testBit m := by
  rw [and_pow ha hm, Bool.eq_iff_iff, ← and_two_pow_ne a m, bne_iff_ne]
  exact not_congr Int.natCast_eq_zero
theorem or_lt {a m n : Nat} (ha : a < 2 ^ n) (hm : m < n) : a ||| 2 ^ m < 2 ^ n := Nat.or_lt_two_pow ha (Nat.pow_lt_pow_right (by omega) hm)
theorem testBit_big {a i : Nat} (ha : a < 4294967296) (hi : 32 ≤ i) : a.testBit i = false :=
  Nat.testBit_lt_two_pow (Nat.lt_of_lt_of_le ha (Nat.le_trans (by decide : (4294967296 : Nat) ≤ 2 ^ 32) (Nat.pow_le_pow_right (by omega) hi)))
/-- w &^ free == 0: every bit of w is one of free. -/
theorem andNot_zero {a b : Nat} (ha : a < 4294967296) (hb : b < 4294967296) : (bits .andNot .u32 (a : Int) (b : Int) == 0) = true ↔ ∀ i, a.testBit i = true → b.testBit i = true := by
  rw [u32_andNot_nat a b ha hb]
  have e : (((a &&& (4294967295 - b) : Nat) : Int) == 0) = true ↔ a &&& (4294967295 - b) = 0 := by rw [beq_iff_eq]; exact Int.natCast_eq_zero
  rw [e]
  have hs : ∀ i, (4294967295 - b).testBit i = (decide (i < 32) && !b.testBit i) := by
    intro i
    have : 4294967295 - b = 2 ^ 32 - (b + 1) := by omega
    rw [this, Nat.testBit_two_pow_sub_succ hb]
  constructor
  · intro h i hi
    have := congrArg (fun x => x.testBit i) h
    simp only [Nat.testBit_and, Nat.zero_testBit, hi, hs, Bool.true_and] at this
    rcases Nat.lt_or_ge i 32 with h3 | h3
    · simpa [h3] using this
    · rw [testBit_big ha h3] at hi; cases hi
  · intro h
    apply Nat.eq_of_testBit_eq
    intro i
    rw [Nat.testBit_and, Nat.zero_testBit, hs]
    cases hi : a.testBit i
    · simp
    · simp [h i hi]
theorem and_zero {a b : Nat} (ha : a < 4294967296) (hb : b < 4294967296) : (bits .and .u32 (a : Int) (b : Int) == 0) = true ↔ ∀ i, a.testBit i = true → b.testBit i = false := by
  rw [u32_and_nat a b ha hb]
  have e : (((a &&& b : Nat) : Int) == 0) = true ↔ a &&& b = 0 := by rw [beq_iff_eq]; exact Int.natCast_eq_zero
  rw [e]
  constructor
  · intro h i hi
    have := congrArg (fun x => x.testBit i) h
    simpa only [Nat.testBit_and, Nat.zero_testBit, hi, Bool.true_and] using this
  · intro h
    apply Nat.eq_of_testBit_eq
    intro i
    rw [Nat.testBit_and, Nat.zero_testBit]
    cases hi : a.testBit i
    · simp
    · simp [h i hi]
theorem nat_lt_pow {a n : Nat} (h : ∀ i, a.testBit i = true → i < n) : a < 2 ^ n := Nat.lt_pow_two_of_testBit a fun i hi => by
  cases ht : a.testBit i
  · rfl
  · have := h i ht; omega
end Go.Proofs.Ythonnpimfidkdaa
