/- The walks of run.Ahead and of ran. -/
import Derived.Test.YtkdookhblbjddaaPast
import Derived.Test.YtkdookhblbjddaaRun2
import Derived.Test.YtkdookhblbjddaaInside
set_option linter.unusedVariables false
set_option linter.unusedSimpArgs false
namespace Go.Proofs.Ytkdookhblbjddaa
open Go.RowKit Go.Maps

theorem bit_at {P i : Nat} (hP : P < 4294967296) : (bits .and .u32 ((P : Int) / 2 ^ i) 1 == 1) = P.testBit i := by
  have e : ((P : Int) / 2 ^ i) = ((P / 2 ^ i : Nat) : Int) := by simp
  have h1 : P / 2 ^ i < 4294967296 := Nat.lt_of_le_of_lt (Nat.div_le_self _ _) hP
  have h2 := u32_and_nat (P / 2 ^ i) 1 h1 (by omega)
  rw [e]
  have e1 : ((1 : Nat) : Int) = 1 := rfl
  rw [e1] at h2
  rw [h2, Nat.testBit_eq_decide_div_mod_eq, Nat.and_one_is_mod]
  rw [Bool.eq_iff_iff, beq_iff_eq, decide_eq_true_iff]
  omega

theorem pastW_lt {n : Int} {E : Ev} {len j : Nat} (h : runCode n E len = 0) (hj : j < len) : pastW E j < 4294967296 := by
  have hl := (runCode_ok h).1.2.2
  have := (words_lt E j).2.2
  have h2 : 2 ^ j ≤ 2 ^ 30 := Nat.pow_le_pow_right (by omega) (by omega)
  omega

set_option maxHeartbeats 400000 in
theorem ran_any (n : Int) (A : Option Addr) (len cap B : Nat) (E : Ev) (w : World) (hlc : len ≤ cap) (hm : len ≤ maxLen) (hB : B ≤ w.heap.size) (hr : Rd w B A (len * 3) (evF E)) :
    Calls Try.prog 16 #[.int .i64 n, .slice A len cap] w fun e w' => e = .returned (.bool (runCode n E len == 0)) ∧ Below w.heap.size w w' := by
  have HR := Lib.hid hr; clear hr
  have HM := Lib.hid hm; clear hm
  go_enter Try.func16, Try.ntmps16
  go_wp2_with fail
  refine (refCheck_any n A len cap B E w hlc HM.out hB HR.out).mono ?_
  rintro e w1 ⟨rfl, hb1⟩
  have HB1 := Lib.hid hb1; clear hb1
  go_wp2
  go_ret
  exact ⟨rfl, HB1.out⟩

set_option maxHeartbeats 400000 in
theorem ahead_bad (n i j : Int) (A : Option Addr) (len cap B : Nat) (E : Ev) (w : World) (hm : len ≤ maxLen) (hB : B ≤ w.heap.size) (hr : Rd w B A (len * 3) (evF E)) (hbad : runCode n E len ≠ 0) :
    Calls Try.prog 15 #[.int .i64 n, .slice A len cap, .int .i64 i, .int .i64 j] w fun e w' => e = .returned (.tuple #[.bool false, .int .i64 (runCode n E len)]) ∧ Below w.heap.size w w' := by
  have HR := Lib.hid hr; clear hr
  have HM := Lib.hid hm; clear hm
  have hb' : (runCode n E len == 0) = false := beq_eq_false_iff_ne.2 hbad
  clear hbad
  go_enter Try.func15, Try.ntmps15
  go_wp2_with fail
  refine (check_any n A len cap B E w HM.out hB HR.out).mono ?_
  rintro e w1 ⟨rfl, hb1⟩
  have HB1 := Lib.hid hb1; clear hb1
  go_wp2
  go_ret2
  exact ⟨rfl, HB1.out⟩
set_option maxHeartbeats 400000 in
theorem ahead_out (n i j : Int) (A : Option Addr) (len cap B : Nat) (E : Ev) (w : World) (hm : len ≤ maxLen) (hB : B ≤ w.heap.size) (hr : Rd w B A (len * 3) (evF E)) (hgood : runCode n E len = 0)
    (hout : ¬ ((0 ≤ i ∧ i < len) ∧ 0 ≤ j ∧ j < len)) :
    Calls Try.prog 15 #[.int .i64 n, .slice A len cap, .int .i64 i, .int .i64 j] w fun e w' => e = .returned (.tuple #[.bool false, .int .i64 4]) ∧ Below w.heap.size w w' := by
  have HR := Lib.hid hr; clear hr
  have HM := Lib.hid hm; clear hm
  have HG := Lib.hid hgood; clear hgood
  have hl : len ≤ 30 := (runCode_ok HG.out).1.2.2
  have HO := Lib.hid hout; clear hout
  rcases Int.lt_trichotomy i j with hij | rfl | hij
  all_goals
    go_enter Try.func15, Try.ntmps15
    go_wp2_with fail
    refine (int_is_b (check_any n A len cap B E w HM.out hB HR.out) HG.out).mono ?_
    rintro e w1 ⟨rfl, hb1⟩
    have HB1 := Lib.hid hb1; clear hb1
    go_wp2_with fail
    all_goals first | (go_ret2; exact ⟨rfl, HB1.out⟩) | (exfalso; have := HO.out; omega)
set_option maxHeartbeats 400000 in
theorem ahead_good (n : Int) (i j : Nat) (A : Option Addr) (len cap B : Nat) (E : Ev) (w : World) (hm : len ≤ maxLen) (hB : B ≤ w.heap.size) (hr : Rd w B A (len * 3) (evF E)) (hgood : runCode n E len = 0)
    (hi : i < len) (hj : j < len) :
    Calls Try.prog 15 #[.int .i64 n, .slice A len cap, .int .i64 i, .int .i64 j] w fun e w' => e = .returned (.tuple #[.bool ((pastW E j).testBit i), .int .i64 0]) ∧ Below w.heap.size w w' := by
  have HR := Lib.hid hr; clear hr
  have HM := Lib.hid hm; clear hm
  have HG := Lib.hid hgood; clear hgood
  have hl : len ≤ 30 := (runCode_ok HG.out).1.2.2
  obtain ⟨n, rfl⟩ := Int.eq_ofNat_of_zero_le (by have := (runCode_ok HG.out).1.1; omega : 0 ≤ n)
  have HV := Lib.hid (bit_at (P := pastW E j) (i := i) (pastW_lt HG.out hj))
  rcases Nat.lt_trichotomy i j with hij | rfl | hij
  all_goals
    go_enter Try.func15, Try.ntmps15
    go_wp2_with fail
    refine (int_is_b (check_any n A len cap B E w HM.out hB HR.out) HG.out).mono ?_
    rintro e w1 ⟨rfl, hb1⟩
    have HB1 := Lib.hid hb1; clear hb1
    go_wp2_with fail
    refine (past_any n A len cap w.heap.size E w1 HG.out HB1.out.size ((HR.out.more hB).below HB1.out)).mono ?_
    rintro e w2 ⟨rfl, ho2, hb2⟩
    have HB2 := Lib.hid (HB1.out.trans (hb2.mono HB1.out.size)); clear hb2
    have hc := (ho2.at1 hj).1
    simp only [pastF, hj, if_true] at hc
    clear ho2
    go_wp2
    go_ret2
    exact ⟨by rw [← HV.out]; rfl, HB2.out⟩
theorem ahead_is (b : Bool) (n : Int) (i j : Nat) (A : Option Addr) (len cap B : Nat) (E : Ev) (w : World) (hm : len ≤ maxLen) (hB : B ≤ w.heap.size) (hr : Rd w B A (len * 3) (evF E)) (hgood : runCode n E len = 0)
    (hi : i < len) (hj : j < len) (hb : (pastW E j).testBit i = b) :
    Calls Try.prog 15 #[.int .i64 n, .slice A len cap, .int .i64 i, .int .i64 j] w fun e w' => e = .returned (.tuple #[.bool b, .int .i64 0]) ∧ Below w.heap.size w w' := by
  rw [← hb]; exact ahead_good n i j A len cap B E w hm hB hr hgood hi hj
/-- Whatever is asked where the run or the places are wrong: false, and a code that is not 0. -/
theorem ahead_no (n i j : Int) (A : Option Addr) (len cap B : Nat) (E : Ev) (w : World) (hm : len ≤ maxLen) (hB : B ≤ w.heap.size) (hr : Rd w B A (len * 3) (evF E))
    (hno : runCode n E len ≠ 0 ∨ ¬ ((0 ≤ i ∧ i < len) ∧ 0 ≤ j ∧ j < len)) :
    ∃ c : Int, c ≠ 0 ∧ Calls Try.prog 15 #[.int .i64 n, .slice A len cap, .int .i64 i, .int .i64 j] w fun e w' => e = .returned (.tuple #[.bool false, .int .i64 c]) ∧ Below w.heap.size w w' := by
  by_cases hc : runCode n E len = 0
  · exact ⟨4, by omega, ahead_out n i j A len cap B E w hm hB hr hc (hno.resolve_left (fun h => h hc))⟩
  · exact ⟨_, hc, ahead_bad n i j A len cap B E w hm hB hr hc⟩
/-- Whatever is asked: some answer, some code. -/
theorem ahead_some (n i j : Int) (A : Option Addr) (len cap B : Nat) (E : Ev) (w : World) (hm : len ≤ maxLen) (hB : B ≤ w.heap.size) (hr : Rd w B A (len * 3) (evF E)) :
    ∃ (b : Bool) (c : Int), Calls Try.prog 15 #[.int .i64 n, .slice A len cap, .int .i64 i, .int .i64 j] w fun e w' => e = .returned (.tuple #[.bool b, .int .i64 c]) ∧ Below w.heap.size w w' := by
  by_cases hno : runCode n E len ≠ 0 ∨ ¬ ((0 ≤ i ∧ i < len) ∧ 0 ≤ j ∧ j < len)
  · obtain ⟨c, _, h⟩ := ahead_no n i j A len cap B E w hm hB hr hno
    exact ⟨_, _, h⟩
  · have h1 : runCode n E len = 0 := Classical.byContradiction fun h => hno (.inl h)
    have h2 : (0 ≤ i ∧ i < len) ∧ 0 ≤ j ∧ j < len := Classical.byContradiction fun h => hno (.inr h)
    obtain ⟨i, rfl⟩ := Int.eq_ofNat_of_zero_le h2.1.1
    obtain ⟨j, rfl⟩ := Int.eq_ofNat_of_zero_le h2.2.1
    exact ⟨_, _, ahead_good n i j A len cap B E w hm hB hr h1 (by omega) (by omega)⟩
theorem runCode_less {n : Int} {E : Ev} {len m : Nat} (h : runCode n E len = 0) (hm : m ≤ len) : runCode n E m = 0 := by
  obtain ⟨⟨h1, h6, hl⟩, ha⟩ := runCode_ok h
  exact runCode_good ⟨h1, h6, by omega⟩ fun i hi => ha i (by omega)
end Go.Proofs.Ytkdookhblbjddaa
