/- The walks of run.Ahead and of ran. -/
import Derived.Test.YthonnpimfidkdaaPast
import Derived.Test.YthonnpimfidkdaaRun2

set_option linter.unusedVariables false
set_option linter.unusedSimpArgs false
namespace Go.Proofs.Ythonnpimfidkdaa
open Go.RowKit Go.Maps

theorem bit_at {P i : Nat} (hP : P < 4294967296) : (bits .and .u32 ((P : Int) / 2 ^ i) 1 == 1) = P.testBit i := by
  have e : ((P : Int) / 2 ^ i) = ((P / 2 ^ i : Nat) : Int) := by simp
  have h1 : P / 2 ^ i < 4294967296 := Nat.lt_of_le_of_lt (Nat.div_le_self _ _) hP
  have h2 := u32_and_nat (P / 2 ^ i) 1 h1 (by omega)
  rw [e]
  have e1 : ((1 : Nat) : Int) = 1 := rfl
  rw [e1] at h2
  rw [h2, Nat.testBit_eq_decide_div_mod_eq, Nat.and_one_is_mod]
  rw [Bool.eq_iff_iff, beq_iff_eq, decide_eq_true_iff]
  omega

theorem pastW_lt {n : Int} {E : Ev} {len j : Nat} (h : runCode n E len = 0) (hj : j < len) : pastW E j < 4294967296 := by
  have hl := (runCode_ok h).1.2.2
  have := (words_lt E j).2.2
  have h2 : 2 ^ j ≤ 2 ^ 30 := Nat.pow_le_pow_right (by omega) (by omega)
  omega

set_option maxHeartbeats 400000 in
theorem ran_any (n : Int) (A : Option Addr) (len cap B : Nat) (E : Ev) (w : World) (hlc : len ≤ cap) (hm : len ≤ maxLen) (hB : B ≤ w.heap.size) (hr : Rd w B A (len * 3) (evF E)) :
    Calls Try.prog 6 #[.int .i64 n, .slice A len cap] w fun e w' => e = .returned (.bool (runCode n E len == 0)) ∧ Below w.heap.size w w' := by
  have HR := Lib.hid hr; clear hr
  have HM := Lib.hid hm; clear hm
  go_enter Try.func6, Try.ntmps6
  go_wp2_with fail
  refine (refCheck_any n A len cap B E w hlc HM.out hB HR.out).mono ?_
  rintro e w1 ⟨rfl, hb1⟩
  have HB1 := Lib.hid hb1; clear hb1
  go_wp2
  go_ret
  exact ⟨rfl, HB1.out⟩

theorem runCode_less {n : Int} {E : Ev} {len m : Nat} (h : runCode n E len = 0) (hm : m ≤ len) : runCode n E m = 0 := by
  obtain ⟨⟨h1, h6, hl⟩, ha⟩ := runCode_ok h
  exact runCode_good ⟨h1, h6, by omega⟩ fun i hi => ha i (by omega)
end Go.Proofs.Ythonnpimfidkdaa
