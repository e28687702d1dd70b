/- How many bits are set: plain facts. -/
import Derived.Test.YtoakgoigamigjaaBits
set_option linter.unusedVariables false
set_option linter.unusedSimpArgs false
namespace Go.Proofs.Ytoakgoigamigjaa
open Go.RowKit

theorem pow64 {n : Nat} (h : n ≤ 6) : 2 ^ n ≤ 64 := Nat.pow_le_pow_right (n := 2) (by omega) h
def popTo (a : Nat) : Nat → Nat
  | 0 => 0
  | m + 1 => popTo a m + (a.testBit m).toNat
def pop (a : Nat) : Nat := popTo a 32
theorem popTo_le (a m : Nat) : popTo a m ≤ m := by
  induction m with
  | zero => exact Nat.le_refl _
  | succ m ih => rw [popTo]; have := Bool.toNat_le (a.testBit m); omega
theorem popTo_mono {a m n : Nat} (h : m ≤ n) : popTo a m ≤ popTo a n := by
  induction n with
  | zero => obtain rfl : m = 0 := by omega
            exact Nat.le_refl _
  | succ n ih =>
    rcases Nat.lt_or_ge n m with hm | hm
    · obtain rfl : m = n + 1 := by omega
      exact Nat.le_refl _
    · rw [popTo]; have := ih hm; omega
/-- Behind the last bit nothing is counted. -/
theorem popTo_stop {a n : Nat} (ha : a < 2 ^ n) {m : Nat} (h : n ≤ m) : popTo a m = popTo a n := by
  induction m with
  | zero => obtain rfl : n = 0 := by omega
            rfl
  | succ m ih =>
    rcases Nat.lt_or_ge m n with hm | hm
    · obtain rfl : n = m + 1 := by omega
      rfl
    · rw [popTo, ih hm, Nat.testBit_lt_two_pow (Nat.lt_of_lt_of_le ha (Nat.pow_le_pow_right (by omega) hm))]; rfl
theorem pop_lt {a n : Nat} (ha : a < 2 ^ n) (hn : n ≤ 32) : pop a = popTo a n := popTo_stop ha hn
theorem pop_le {a n : Nat} (ha : a < 2 ^ n) (hn : n ≤ 32) : pop a ≤ n := by rw [pop_lt ha hn]; exact popTo_le a n
theorem popTo_or (a b m : Nat) (h : ∀ i, i < m → a.testBit i = true → b.testBit i = false) : popTo a m + popTo b m ≤ m := by
  induction m with
  | zero => exact Nat.le_refl _
  | succ m ih =>
    have h1 := ih fun i hi => h i (by omega)
    have h2 := h m (by omega)
    rw [popTo, popTo]
    cases ha : a.testBit m
    · have := Bool.toNat_le (b.testBit m); simp only [Bool.toNat_false]; omega
    · rw [h2 ha]; simp only [Bool.toNat_true, Bool.toNat_false]; omega
/-- Two sets of more than half meet. -/
theorem pop_meet {a b n : Nat} (hn : n ≤ 32) (ha : a < 2 ^ n) (hb : b < 2 ^ n) (h1 : n < 2 * pop a) (h2 : n < 2 * pop b) : ∃ i, i < n ∧ a.testBit i = true ∧ b.testBit i = true := by
  rw [pop_lt ha hn] at h1
  rw [pop_lt hb hn] at h2
  apply Classical.byContradiction
  intro hne
  have := popTo_or a b n fun i hi hai => by
    cases hbi : b.testBit i
    · rfl
    · exact absurd ⟨i, hi, hai, hbi⟩ hne
  omega
theorem popTo_sub {a b m : Nat} (h : ∀ i, i < m → a.testBit i = true → b.testBit i = true) : popTo a m ≤ popTo b m := by
  induction m with
  | zero => exact Nat.le_refl _
  | succ m ih =>
    have h1 := ih fun i hi => h i (by omega)
    have h2 := h m (by omega)
    rw [popTo, popTo]
    cases ha : a.testBit m
    · simp only [Bool.toNat_false]; omega
    · rw [h2 ha]; omega
theorem pop_sub {a b : Nat} (h : ∀ i, a.testBit i = true → b.testBit i = true) : pop a ≤ pop b := popTo_sub fun i _ => h i
theorem pop_zero : pop 0 = 0 := by decide
theorem popTo_two_pow (k m : Nat) : popTo (2 ^ k) m = if k < m then 1 else 0 := by
  induction m with
  | zero => simp [popTo]
  | succ m ih =>
    rw [popTo, ih, Nat.testBit_two_pow]
    by_cases h : k = m
    · subst h; simp
    · have : (decide (k = m)) = false := by simp [h]
      rw [this]
      by_cases h2 : k < m
      · rw [if_pos h2, if_pos (by omega)]; rfl
      · rw [if_neg h2, if_neg (by omega)]; rfl
theorem pop_two_pow {k : Nat} (h : k < 32) : pop (2 ^ k) = 1 := by rw [pop, popTo_two_pow, if_pos h]
theorem popTo_full (n m : Nat) (h : m ≤ n) : popTo (2 ^ n - 1) m = m := by
  induction m with
  | zero => rfl
  | succ m ih => rw [popTo, ih (by omega), Nat.testBit_two_pow_sub_one]; simp; omega
theorem pop_all {a n : Nat} (hn : n ≤ 32) (h : ∀ i, i < n → a.testBit i = true) : n ≤ pop a := by
  have : popTo a n = n := by
    have key : ∀ m, m ≤ n → popTo a m = m := by
      intro m
      induction m with
      | zero => intro _; rfl
      | succ m ih => intro hm; rw [popTo, ih (by omega), h m (by omega)]; rfl
    exact key n (Nat.le_refl _)
  rw [pop, ← this]
  exact Nat.le_trans (by rw [this]; exact Nat.le_refl _) (by have := popTo_mono (a := a) hn; omega)
end Go.Proofs.Ytoakgoigamigjaa
