/- The walks of tick.Ticks and of the law TickRises. -/
import Derived.Test.YtkdookhblbjddaaTicks
import Derived.Test.YtkdookhblbjddaaAhead
import Derived.Deep.QuietTactic
import Derived.BigQuiet
set_option linter.unusedVariables false
set_option linter.unusedSimpArgs false
namespace Go.Proofs.Ytkdookhblbjddaa
open Go.RowKit Go.Maps

set_option maxHeartbeats 800000 in
theorem tickCall_bad (n : Int) (A : Option Addr) (len cap B : Nat) (E : Ev) (w : World) (hm : len ≤ maxLen) (hB : B ≤ w.heap.size) (hr : Rd w B A (len * 3) (evF E)) (hbad : runCode n E len ≠ 0) :
    Calls Try.prog 20 #[.int .i64 n, .slice A len cap] w fun e w' => e = .returned (.tuple #[.slice none 0 0, .int .i64 (runCode n E len)]) ∧ Below w.heap.size w w' := by
  have HR := Lib.hid hr; clear hr
  have HM := Lib.hid hm; clear hm
  have hb' : (runCode n E len == 0) = false := beq_eq_false_iff_ne.2 hbad
  clear hbad
  go_enter Try.func20, Try.ntmps20
  go_wp2_with fail
  refine (check_any n A len cap B E w HM.out hB HR.out).mono ?_
  rintro e w1 ⟨rfl, hb1⟩
  have HB1 := Lib.hid hb1; clear hb1
  go_wp2
  go_ret2
  exact ⟨rfl, HB1.out⟩
set_option maxHeartbeats 800000 in
theorem tickCall_good (n : Int) (A : Option Addr) (len cap B : Nat) (E : Ev) (w : World) (hm : len ≤ maxLen) (hB : B ≤ w.heap.size) (hr : Rd w B A (len * 3) (evF E)) (hgood : runCode n E len = 0) :
    Calls Try.prog 20 #[.int .i64 n, .slice A len cap] w fun e w' => ∃ g, e = .returned (.tuple #[.slice (some ⟨g, 0, none⟩) len len, .int .i64 0]) ∧ w.heap.size ≤ g ∧ g < w'.heap.size ∧ Own w' w.heap.size 3 1 (some ⟨g, 0, none⟩) len len (outF E len) ∧ Below w.heap.size w w' := by
  have HR := Lib.hid hr; clear hr
  have HM := Lib.hid hm; clear hm
  have HG := Lib.hid hgood; clear hgood
  obtain ⟨n, rfl⟩ := Int.eq_ofNat_of_zero_le (by have := (runCode_ok HG.out).1.1; omega : 0 ≤ n)
  go_enter Try.func20, Try.ntmps20
  go_wp2_with fail
  refine (int_is_b (check_any n A len cap B E w HM.out hB HR.out) HG.out).mono ?_
  rintro e w1 ⟨rfl, hb1⟩
  have HB1 := Lib.hid hb1; clear hb1
  go_wp2_with fail
  refine (ticks_any n A len cap w.heap.size E w1 HG.out HB1.out.size ((HR.out.more hB).below HB1.out)).mono ?_
  rintro e w2 ⟨rfl, ho2, hb2⟩
  have HB2 := Lib.hid (HB1.out.trans (hb2.mono HB1.out.size)); clear hb2
  have HO := Lib.hid ho2; clear ho2
  go_wp2
  go_ret2
  refine ⟨_, rfl, ?_, ?_, HO.out.base_le HB1.out.size, HB2.out⟩
  · have := HB1.out.size; omega
  · have := HO.out.lt (w1.heap.size + 2) (by simp [ablock]); omega

set_option maxHeartbeats 800000 in
theorem tickRises_bad (n i j : Int) (A : Option Addr) (len cap : Nat) (E : Ev) (w : World) (hlc : len ≤ cap) (hm : len ≤ maxLen) (hr : Rd w w.heap.size A (len * 3) (evF E)) (hbad : runCode n E len ≠ 0) :
    Calls Try.prog 7 #[.int .i64 n, .slice A len cap, .int .i64 i, .int .i64 j] w fun e w' => e = .returned (.bool true) ∧ Below w.heap.size w w' := by
  have HR := Lib.hid hr; clear hr
  have HM := Lib.hid hm; clear hm
  have HBAD := Lib.hid hbad
  have hb2 : (runCode n E len != 0) = true := bne_iff_ne.2 hbad
  have HQ : Hid ((runCode n E len == 0) = false) := beq_eq_false_iff_ne.2 hbad
  clear hbad
  go_enter Try.func7, Try.ntmps7
  go_wp2_with fail
  refine (tickCall_bad n A len cap w.heap.size E w HM.out (Nat.le_refl _) HR.out HBAD.out).mono ?_
  rintro e w1 ⟨rfl, hb1⟩
  have HB1 := Lib.hid hb1; clear hb1
  go_wp2_with fail
  refine (bool_is_b (ran_any n A len cap w.heap.size E w1 hlc HM.out HB1.out.size (HR.out.below HB1.out)) HQ.out).mono ?_
  rintro e w2 ⟨rfl, hb2⟩
  have HB2 := Lib.hid (HB1.out.trans (hb2.mono HB1.out.size)); clear hb2
  go_wp2
  go_ret
  exact ⟨rfl, HB2.out⟩

set_option maxRecDepth 100000 in
set_option maxHeartbeats 1600000 in
theorem tickRises_good (n i j : Int) (A : Option Addr) (len cap : Nat) (E : Ev) (w : World) (hlc : len ≤ cap) (hm : len ≤ maxLen) (hr : Rd w w.heap.size A (len * 3) (evF E)) (hgood : runCode n E len = 0) :
    Calls Try.prog 7 #[.int .i64 n, .slice A len cap, .int .i64 i, .int .i64 j] w fun e w' => e = .returned (.bool true) ∧ Below w.heap.size w w' := by
  have HR := Lib.hid hr; clear hr
  have HM := Lib.hid hm; clear hm
  have HG := Lib.hid hgood
  have hl30 : len ≤ 30 := (runCode_ok hgood).1.2.2
  have HQ : Hid ((runCode n E len == 0) = true) := by show _ = true; simp [hgood]
  clear hgood
  have hnn : ((len : Int) != (len : Int)) = false := by simp
  go_enter Try.func7, Try.ntmps7
  go_wp2_with fail
  refine (tickCall_good n A len cap w.heap.size E w HM.out (Nat.le_refl _) HR.out HG.out).mono ?_
  rintro e w1 ⟨g, rfl, hg0, hg1, ho1, hb1⟩
  have HB1 := Lib.hid hb1; clear hb1
  have HO1 := Lib.hid ho1; clear ho1
  go_wp2_with fail
  refine (bool_is_b (ran_any n A len cap w1.heap.size E w1 hlc HM.out (Nat.le_refl _) ((HR.out.below HB1.out).more HB1.out.size)) HQ.out).mono ?_
  rintro e w2 ⟨rfl, hb2⟩
  have HB2 := Lib.hid (HB1.out.trans (hb2.mono HB1.out.size))
  have HO2 := Lib.hid (HO1.out.below hb2 (by intro k hk; simp [ablock] at hk; omega))
  have hg2 : g < w2.heap.size := Nat.lt_of_lt_of_le hg1 hb2.size
  clear hb2
  go_wp2
  go_loop [11] (fun k => ∃ t : Nat, t ≤ len ∧ k = .int .i64 t) (fun k => len - (intOf k).toNat)
  case atStart => exact ⟨0, by omega, rfl⟩
  case round =>
    obtain ⟨t, ht, rfl⟩ := hrel
    by_cases hlt : t < len
    · have hc := (HO2.out.at1 hlt).1
      simp only [outF, hlt, if_true] at hc
      obtain ⟨_, _, h1, h2⟩ := ticks_le E t
      go_wp2
      go_round
      case rel => exact ⟨t + 1, by omega, by go_num⟩
      case measure => simp [intOf]; omega
    · obtain rfl : t = len := by omega
      by_cases hij : (0 ≤ i ∧ i < t) ∧ (0 ≤ j ∧ j < t)
      · obtain ⟨i, rfl⟩ := Int.eq_ofNat_of_zero_le hij.1.1
        obtain ⟨j, rfl⟩ := Int.eq_ofNat_of_zero_le hij.2.1
        have hi : i < t := by omega
        have hj : j < t := by omega
        clear hij
        have HI : Hid ((decide (0 ≤ (i : Int)) && decide ((i : Int) < t) && (decide (0 ≤ (j : Int)) && decide ((j : Int) < t))) = true) := by show _ = true; simp; omega
        obtain ⟨a, ha⟩ : ∃ a, (pastW E j).testBit i = a := ⟨_, rfl⟩
        have HA := Lib.hid ha
        have HT : Hid (a = true → tickT E i < tickT E j) := fun h => (tick_rises E j).2.2 i (ha.trans h)
        clear ha
        go_wp2_with fail
        refine (ahead_is a n i j A t cap w2.heap.size E w2 HM.out (Nat.le_refl _) ((HR.out.below HB2.out).more HB2.out.size) HG.out hi hj HA.out).mono ?_
        rintro e w3 ⟨rfl, hb3⟩
        have HB3 := Lib.hid (HB2.out.trans (hb3.mono HB2.out.size))
        have HO3 := Lib.hid (HO2.out.below hb3 (by intro k hk; simp [ablock] at hk; omega))
        have hg3 : g < w3.heap.size := Nat.lt_of_lt_of_le hg2 hb3.size
        clear hb3
        go_wp2_with fail
        refine (inside2 true t i j _ _ _ (by simp) HI.out).mono ?_
        rintro e w4 ⟨rfl, rfl⟩
        have hb4 := HB3.out.alloc HB3.out.size (.cells #[.int .i64 i, .int .i64 j] 3)
        have ho4 := HO3.out.alloc (.cells #[.int .i64 i, .int .i64 j] 3)
        generalize w3.alloc (.cells #[.int .i64 i, .int .i64 j] 3) = w4 at hb4 ho4 ⊢
        have HB4 := Lib.hid hb4; clear hb4
        have hc1 := (ho4.at1 hi).1
        have hc2 := (ho4.at1 hj).1
        simp only [outF, hi, hj, if_true] at hc1 hc2
        clear ho4
        cases a
        · go_wp2
          go_quiet (fail)
          go_wp2
          go_ret
          exact ⟨rfl, HB4.out.trans ⟨rfl, rfl, rfl, Nat.le_refl _, fun _ _ => rfl⟩⟩
        · have hlt2 := HT.out rfl
          have hd : decide ((tickT E i : Int) < (tickT E j : Int)) = true := by simp; omega
          go_wp2
          go_quiet (fail)
          go_wp2
          go_ret
          exact ⟨rfl, HB4.out.trans ⟨rfl, rfl, rfl, Nat.le_refl _, fun _ _ => rfl⟩⟩
      · have HI : Hid ((decide (0 ≤ i) && decide (i < t) && (decide (0 ≤ j) && decide (j < t))) = false) := by
          show _ = false
          rw [← Bool.not_eq_true]
          simp only [Bool.and_eq_true, decide_eq_true_iff]
          exact hij
        obtain ⟨c, hc, HC⟩ := ahead_no n i j A t cap w2.heap.size E w2 HM.out (Nat.le_refl _) ((HR.out.below HB2.out).more HB2.out.size) (.inr hij)
        have HC := Lib.hid HC
        have hc2 : (c != 0) = true := bne_iff_ne.2 hc
        clear hc hij
        go_wp2_with fail
        refine HC.out.mono ?_
        rintro e w3 ⟨rfl, hb3⟩
        have HB3 := Lib.hid (HB2.out.trans (hb3.mono HB2.out.size)); clear hb3
        go_wp2_with fail
        refine (inside2 false t i j _ _ _ (by simp) HI.out).mono ?_
        rintro e w4 ⟨rfl, rfl⟩
        go_wp2
        go_ret
        exact ⟨rfl, HB3.out.alloc HB3.out.size _⟩
theorem tickRises_all (n : Int) (A : Option Addr) (len cap : Nat) (E : Ev) (i j : Int) (w : World) (_ : (Lit.int .i64 n).wf = true) (hmc : len ≤ cap ∧ cap ≤ maxLen) (hr : Rd w w.heap.size A (len * 3) (evF E))
    (_ : (Lit.int .i64 i).wf = true) (_ : (Lit.int .i64 j).wf = true) :
    Calls Try.prog 7 #[.int .i64 n, .slice A len cap, .int .i64 i, .int .i64 j] w fun e w' => e = .returned (.bool true) ∧ Below w.heap.size w w' := by
  have hm := Nat.le_trans hmc.1 hmc.2
  by_cases hc : runCode n E len = 0
  · exact tickRises_good n i j A len cap E w hmc.1 hm hr hc
  · exact tickRises_bad n i j A len cap E w hmc.1 hm hr hc
end Go.Proofs.Ytkdookhblbjddaa
