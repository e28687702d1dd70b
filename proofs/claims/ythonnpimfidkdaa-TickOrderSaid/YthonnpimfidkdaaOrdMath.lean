/- Events by rising ticks and processes: plain. -/
import Derived.Test.YthonnpimfidkdaaTicks
import Derived.Test.YthonnpimfidkdaaAgain
import Derived.Test.YthonnpimfidkdaaShelfF
set_option linter.unusedVariables false
set_option linter.unusedSimpArgs false
namespace Go.Proofs.Ythonnpimfidkdaa
open Go.RowKit Go.Lib Go.Sort

theorem hb_below' {E : Ev} {a i : Nat} (h : Hb E a i) : a < i := by
  refine Classical.byContradiction fun hn => ?_
  have h1 := (words_lt E i).2.2
  have h2 : pastW E i < 2 ^ a := Nat.lt_of_lt_of_le h1 (Nat.pow_le_pow_right (by omega) (by omega))
  have h3 : (pastW E i).testBit a = true := h
  rw [Nat.testBit_lt_two_pow h2] at h3
  cases h3
/-- What 'Order' compares by. -/
def ordC (E : Ev) (a b : Nat) : Int := if compareInt (tickT E a : Nat) (tickT E b : Nat) ≠ 0 then compareInt (tickT E a : Nat) (tickT E b : Nat) else compareInt (E.p a) (E.p b)
theorem cmp_lt (x y : Int) : compareInt x y < 0 ↔ x < y := by
  unfold compareInt
  by_cases h1 : x < y
  · simp [h1]
  · by_cases h2 : y < x <;> simp [h1, h2]
theorem cmp_zero (x y : Int) : compareInt x y = 0 ↔ x = y := by
  unfold compareInt
  by_cases h1 : x < y
  · simp [h1]; omega
  · by_cases h2 : y < x
    · simp [h1, h2]; omega
    · simp [h1, h2]; omega
theorem ordC_lt (E : Ev) (a b : Nat) : ordC E a b < 0 ↔ tickT E a < tickT E b ∨ tickT E a = tickT E b ∧ E.p a < E.p b := by
  unfold ordC
  by_cases h : compareInt (tickT E a : Nat) (tickT E b : Nat) = 0
  · rw [if_neg (fun h2 => h2 h), cmp_lt]
    have := (cmp_zero _ _).1 h
    omega
  · rw [if_pos h, cmp_lt]
    have h2 : ¬ ((tickT E a : Nat) : Int) = (tickT E b : Nat) := fun e => h ((cmp_zero _ _).2 e)
    omega
theorem ordC_swo {len : Nat} (E : Ev) : SWO (ltOf fun a b : Fin len => ordC E a.val b.val) := by
  have key : ∀ a b : Fin len, ltOf (fun a b : Fin len => ordC E a.val b.val) a b = decide (tickT E a.val < tickT E b.val ∨ tickT E a.val = tickT E b.val ∧ E.p a.val < E.p b.val) := fun a b => by
    unfold ltOf
    rw [Bool.eq_iff_iff, decide_eq_true_iff, decide_eq_true_iff, ordC_lt]
  refine ⟨fun x => ?_, fun x y z h1 h2 => ?_, fun x y z h1 h2 => ?_⟩
  · rw [key, decide_eq_false_iff_not]; omega
  · rw [key, decide_eq_true_iff] at *; omega
  · rw [key, decide_eq_false_iff_not] at *; omega
/-- An order in which none that is less stands behind: it is a run with the same past. -/
theorem ord_again {n : Int} {E : Ev} {len : Nat} {u : Nat → Nat} (hg : runCode n E len = 0) (hu : ∀ t, t < len → u t < len) (hs : ∀ i, i < len → ∃ r, r < len ∧ u r = i) (ho : ∀ i j, i < j → j < len → ¬ ordC E (u j) (u i) < 0) : agOk E u len = true := by
  refine (agOk_iff hg hu (Nat.le_refl _)).2 fun s hsl i hi => ?_
  have h1 := hb_below' hi
  have h2 := hu s hsl
  obtain ⟨r, hr, rfl⟩ := hs i (by omega)
  refine ⟨r, ?_, rfl⟩
  refine Classical.byContradiction fun hn => ?_
  have hne : r ≠ s := fun e => by rw [e] at h1; omega
  refine ho s r (by omega) hr ?_
  rw [ordC_lt]
  exact .inl ((tick_rises E (u s)).2.2 _ hi)
end Go.Proofs.Ythonnpimfidkdaa
