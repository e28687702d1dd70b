/- The law RunTrans, walked. -/
import Derived.Test.YtkdookhblbjddaaAhead
import Derived.Deep.QuietTactic
import Derived.BigQuiet
namespace Go.Proofs.Ytkdookhblbjddaa
open Go.RowKit Go.Maps

set_option maxRecDepth 100000 in
set_option maxHeartbeats 800000 in
theorem runTrans_bad (n i j k : Int) (A : Option Addr) (len cap : Nat) (E : Ev) (w : World) (hlc : len ≤ cap) (hm : len ≤ maxLen) (hr : Rd w w.heap.size A (len * 3) (evF E)) (hbad : runCode n E len ≠ 0 ∨ ¬ (0 ≤ i ∧ i < len)) :
    Calls Try.prog 3 #[.int .i64 n, .slice A len cap, .int .i64 i, .int .i64 j, .int .i64 k] w fun e w' => e = .returned (.bool true) ∧ Below w.heap.size w w' := by
  have HR := Lib.hid hr; clear hr
  have HM := Lib.hid hm; clear hm
  have HBAD := Lib.hid hbad
  obtain ⟨c, hc, HC⟩ := ahead_no n i i A len cap w.heap.size E w HM.out (Nat.le_refl _) HR.out (hbad.imp id (fun h hh => h hh.1))
  have HC := Lib.hid HC
  have hc2 : (c != 0) = true := bne_iff_ne.2 hc
  clear hc hbad
  cases hq : (runCode n E len == 0)
  · have HQ := Lib.hid hq; clear hq
    go_enter Try.func3, Try.ntmps3
    go_wp2_with fail
    refine HC.out.mono ?_
    rintro e w1 ⟨rfl, hb1⟩
    have HB1 := Lib.hid hb1; clear hb1
    go_wp2_with fail
    refine (bool_is_b (ran_any n A len cap w.heap.size E w1 hlc HM.out HB1.out.size (HR.out.below HB1.out)) HQ.out).mono ?_
    rintro e w2 ⟨rfl, hb2⟩
    have HB2 := Lib.hid (HB1.out.trans (hb2.mono HB1.out.size)); clear hb2
    go_wp2
    go_ret
    exact ⟨rfl, HB2.out⟩
  · have HQ := Lib.hid hq; clear hq
    have HI : Hid ((decide (0 ≤ i) && decide (i < len)) = false) := by
      show _ = false
      have : ¬ (0 ≤ i ∧ i < len) := HBAD.out.resolve_left (fun h => h (by simpa using HQ.out))
      rw [← Bool.not_eq_true, Bool.and_eq_true, decide_eq_true_iff, decide_eq_true_iff]
      exact this
    go_enter Try.func3, Try.ntmps3
    go_wp2_with fail
    refine HC.out.mono ?_
    rintro e w1 ⟨rfl, hb1⟩
    have HB1 := Lib.hid hb1; clear hb1
    go_wp2_with fail
    refine (bool_is_b (ran_any n A len cap w.heap.size E w1 hlc HM.out HB1.out.size (HR.out.below HB1.out)) HQ.out).mono ?_
    rintro e w2 ⟨rfl, hb2⟩
    have HB2 := Lib.hid (HB1.out.trans (hb2.mono HB1.out.size)); clear hb2
    go_wp2_with fail
    refine (inside1 false len i w2 _ _ rfl HI.out).mono ?_
    rintro e w3 ⟨rfl, rfl⟩
    go_wp2
    go_ret
    exact ⟨rfl, HB2.out.alloc HB2.out.size _⟩

set_option maxRecDepth 100000 in
set_option maxHeartbeats 1600000 in
theorem runTrans_out (n j k : Int) (i : Nat) (A : Option Addr) (len cap : Nat) (E : Ev) (w : World) (hlc : len ≤ cap) (hm : len ≤ maxLen) (hr : Rd w w.heap.size A (len * 3) (evF E)) (hgood : runCode n E len = 0) (hi : i < len)
    (hout : (decide (0 ≤ j) && decide (j < len) && (decide (0 ≤ k) && decide (k < len))) = false) :
    Calls Try.prog 3 #[.int .i64 n, .slice A len cap, .int .i64 i, .int .i64 j, .int .i64 k] w fun e w' => e = .returned (.bool true) ∧ Below w.heap.size w w' := by
  have HR := Lib.hid hr; clear hr
  have HM := Lib.hid hm; clear hm
  have HG := Lib.hid hgood
  have HO := Lib.hid hout; clear hout
  have HQ : Hid ((runCode n E len == 0) = true) := by show _ = true; simp [hgood]
  clear hgood
  have HI : Hid ((decide (0 ≤ (i : Int)) && decide ((i : Int) < len)) = true) := by show _ = true; simp; omega
  have HII : Hid ((pastW E i).testBit i = false) := by
    show _ = false
    rw [← Bool.not_eq_true]; exact Hb.irrefl
  go_enter Try.func3, Try.ntmps3
  go_wp2_with fail
  refine (ahead_is false n i i A len cap w.heap.size E w HM.out (Nat.le_refl _) HR.out HG.out hi hi HII.out).mono ?_
  rintro e w1 ⟨rfl, hb1⟩
  have HB1 := Lib.hid hb1; clear hb1
  go_wp2_with fail
  refine (bool_is_b (ran_any n A len cap w.heap.size E w1 hlc HM.out HB1.out.size (HR.out.below HB1.out)) HQ.out).mono ?_
  rintro e w2 ⟨rfl, hb2⟩
  have HB2 := Lib.hid (HB1.out.trans (hb2.mono HB1.out.size)); clear hb2
  go_wp2_with fail
  refine (inside1 true len i w2 _ _ rfl HI.out).mono ?_
  rintro e w3 ⟨rfl, rfl⟩
  go_wp2_with fail
  refine (inside2 false len j k _ _ _ (by simp) HO.out).mono ?_
  rintro e w3 ⟨rfl, rfl⟩
  go_wp2
  go_ret
  exact ⟨rfl, (HB2.out.alloc HB2.out.size _).alloc (by have := HB2.out.size; simp; omega) _⟩

set_option maxRecDepth 100000 in
set_option maxHeartbeats 3200000 in
theorem runTrans_good (n : Int) (i j k : Nat) (A : Option Addr) (len cap : Nat) (E : Ev) (w : World) (hlc : len ≤ cap) (hm : len ≤ maxLen) (hr : Rd w w.heap.size A (len * 3) (evF E)) (hgood : runCode n E len = 0) (hi : i < len) (hj : j < len) (hk : k < len) :
    Calls Try.prog 3 #[.int .i64 n, .slice A len cap, .int .i64 i, .int .i64 j, .int .i64 k] w fun e w' => e = .returned (.bool true) ∧ Below w.heap.size w w' := by
  have HR := Lib.hid hr; clear hr
  have HM := Lib.hid hm; clear hm
  have HG := Lib.hid hgood
  have hl30 : len ≤ 30 := (runCode_ok hgood).1.2.2
  have HQ : Hid ((runCode n E len == 0) = true) := by show _ = true; simp [hgood]
  clear hgood
  have HI : Hid ((decide (0 ≤ (i : Int)) && decide ((i : Int) < len)) = true) := by show _ = true; simp; omega
  have HO : Hid ((decide (0 ≤ (j : Int)) && decide ((j : Int) < len) && (decide (0 ≤ (k : Int)) && decide ((k : Int) < len))) = true) := by show _ = true; simp; omega
  have HII : Hid ((pastW E i).testBit i = false) := by
    show _ = false
    rw [← Bool.not_eq_true]; exact Hb.irrefl
  obtain ⟨a, ha⟩ : ∃ a, (pastW E j).testBit i = a := ⟨_, rfl⟩
  obtain ⟨b, hb⟩ : ∃ b, (pastW E k).testBit j = b := ⟨_, rfl⟩
  obtain ⟨c, hc⟩ : ∃ c, (pastW E k).testBit i = c := ⟨_, rfl⟩
  obtain ⟨d, hd⟩ : ∃ d, (pastW E i).testBit j = d := ⟨_, rfl⟩
  obtain ⟨s, hs⟩ : ∃ s, (E.p i == E.p j) = s := ⟨_, rfl⟩
  have hcase : (a = false ∧ s = false) ∨ (a = false ∧ s = true ∧ j ≤ i) ∨ (a = true ∧ d = false ∧ b = false ∧ i < j) ∨ (a = true ∧ d = false ∧ b = true ∧ c = true ∧ i < j) := by
    cases ha2 : a
    · cases hs2 : s
      · exact .inl ⟨rfl, rfl⟩
      · refine .inr (.inl ⟨rfl, rfl, ?_⟩)
        rcases Nat.lt_or_ge i j with h | h
        · have := Hb.same (E := E) h (by rw [hs2] at hs; simpa using hs)
          unfold Hb at this
          rw [ha, ha2] at this; cases this
        · exact h
    · have h1 : Hb E i j := ha.trans ha2
      have hd0 : d = false := by
        cases hd2 : d
        · rfl
        · have h2 : Hb E j i := hd.trans hd2
          exact absurd (h1.trans h2) Hb.irrefl
      cases hb2 : b
      · exact .inr (.inr (.inl ⟨rfl, hd0, rfl, h1.lt⟩))
      · have h2 : Hb E j k := hb.trans hb2
        exact .inr (.inr (.inr ⟨rfl, hd0, rfl, hc.symm.trans (h1.trans h2), h1.lt⟩))
  have HA := Lib.hid ha; clear ha
  have HB := Lib.hid hb; clear hb
  have HC := Lib.hid hc; clear hc
  have HD := Lib.hid hd; clear hd
  obtain ⟨ad, rfl, _⟩ := HR.out (by omega)
  go_enter Try.func3, Try.ntmps3
  go_wp2_with fail
  refine (ahead_is false n i i _ len cap w.heap.size E w HM.out (Nat.le_refl _) HR.out HG.out hi hi HII.out).mono ?_
  rintro e w1 ⟨rfl, hb1⟩
  have HB1 := Lib.hid hb1; clear hb1
  go_wp2_with fail
  refine (bool_is_b (ran_any n _ len cap w.heap.size E w1 hlc HM.out HB1.out.size (HR.out.below HB1.out)) HQ.out).mono ?_
  rintro e w2 ⟨rfl, hb2⟩
  have HB2 := Lib.hid (HB1.out.trans (hb2.mono HB1.out.size)); clear hb2
  go_wp2_with fail
  refine (inside1 true len i w2 _ _ rfl HI.out).mono ?_
  rintro e w3 ⟨rfl, rfl⟩
  go_wp2_with fail
  refine (inside2 true len j k _ _ _ (by simp) HO.out).mono ?_
  rintro e w3 ⟨rfl, rfl⟩
  have hb3 := (HB2.out.alloc HB2.out.size (.cells #[.int .i64 i] 3)).alloc (by have := HB2.out.size; simp; omega) (.cells #[.int .i64 j, .int .i64 k] 3)
  generalize (w2.alloc (.cells #[.int .i64 i] 3)).alloc (.cells #[.int .i64 j, .int .i64 k] 3) = w3 at hb3 ⊢
  have HB3 := Lib.hid hb3; clear hb3
  go_wp2_with fail
  refine (ahead_is a n i j _ len cap w.heap.size E w3 HM.out HB3.out.size (HR.out.below HB3.out) HG.out hi hj HA.out).mono ?_
  rintro e w4 ⟨rfl, hb4⟩
  have HB4 := Lib.hid (HB3.out.trans (hb4.mono HB3.out.size)); clear hb4
  go_wp2_with fail
  refine (ahead_is b n j k _ len cap w.heap.size E w4 HM.out HB4.out.size (HR.out.below HB4.out) HG.out hj hk HB.out).mono ?_
  rintro e w5 ⟨rfl, hb5⟩
  have HB5 := Lib.hid (HB4.out.trans (hb5.mono HB4.out.size)); clear hb5
  go_wp2_with fail
  refine (ahead_is c n i k _ len cap w.heap.size E w5 HM.out HB5.out.size (HR.out.below HB5.out) HG.out hi hk HC.out).mono ?_
  rintro e w6 ⟨rfl, hb6⟩
  have HB6 := Lib.hid (HB5.out.trans (hb6.mono HB5.out.size)); clear hb6
  go_wp2_with fail
  refine (ahead_is d n j i _ len cap w.heap.size E w6 HM.out HB6.out.size (HR.out.below HB6.out) HG.out hj hi HD.out).mono ?_
  rintro e w7 ⟨rfl, hb7⟩
  have HB7 := Lib.hid (HB6.out.trans (hb7.mono HB6.out.size)); clear hb7
  go_wp2
  obtain ⟨ad', hA, _, ci, _⟩ := (HR.out.below HB7.out).rec3 hi
  injection hA with hA
  subst hA
  obtain ⟨ad', hA, _, cj, _⟩ := (HR.out.below HB7.out).rec3 hj
  injection hA with hA
  subst hA
  rcases hcase with ⟨rfl, rfl⟩ | ⟨rfl, rfl, hle⟩ | ⟨rfl, rfl, rfl, hle⟩ | ⟨rfl, rfl, rfl, rfl, hle⟩
  · go_quiet (fail)
    go_wp2
    go_ret
    exact ⟨rfl, HB7.out.trans ⟨rfl, rfl, rfl, Nat.le_refl _, fun _ _ => rfl⟩⟩
  · go_quiet (fail)
    go_wp2
    go_ret
    exact ⟨rfl, HB7.out.trans ⟨rfl, rfl, rfl, Nat.le_refl _, fun _ _ => rfl⟩⟩
  · cases s
    all_goals
      go_quiet (fail)
      go_wp2
      go_ret
      exact ⟨rfl, HB7.out.trans ⟨rfl, rfl, rfl, Nat.le_refl _, fun _ _ => rfl⟩⟩
  · cases s
    all_goals
      go_quiet (fail)
      go_wp2
      go_ret
      exact ⟨rfl, HB7.out.trans ⟨rfl, rfl, rfl, Nat.le_refl _, fun _ _ => rfl⟩⟩

theorem runTrans_all (n : Int) (A : Option Addr) (len cap : Nat) (E : Ev) (i j k : Int) (w : World) (_ : (Lit.int .i64 n).wf = true) (hmc : len ≤ cap ∧ cap ≤ maxLen) (hr : Rd w w.heap.size A (len * 3) (evF E))
    (_ : (Lit.int .i64 i).wf = true) (_ : (Lit.int .i64 j).wf = true) (_ : (Lit.int .i64 k).wf = true) :
    Calls Try.prog 3 #[.int .i64 n, .slice A len cap, .int .i64 i, .int .i64 j, .int .i64 k] w fun e w' => e = .returned (.bool true) ∧ Below w.heap.size w w' := by
  have hm := Nat.le_trans hmc.1 hmc.2
  by_cases hc : runCode n E len = 0
  · by_cases hi : 0 ≤ i ∧ i < len
    · obtain ⟨i', rfl⟩ := Int.eq_ofNat_of_zero_le hi.1
      by_cases hjk : (0 ≤ j ∧ j < len) ∧ (0 ≤ k ∧ k < len)
      · obtain ⟨j', rfl⟩ := Int.eq_ofNat_of_zero_le hjk.1.1
        obtain ⟨k', rfl⟩ := Int.eq_ofNat_of_zero_le hjk.2.1
        exact runTrans_good n i' j' k' A len cap E w hmc.1 hm hr hc (by omega) (by omega) (by omega)
      · refine runTrans_out n j k i' A len cap E w hmc.1 hm hr hc (by omega) ?_
        rw [← Bool.not_eq_true]
        simp only [Bool.and_eq_true, decide_eq_true_iff]
        exact hjk
    · exact runTrans_bad n i j k A len cap E w hmc.1 hm hr (.inr hi)
  · exact runTrans_bad n i j k A len cap E w hmc.1 hm hr (.inl hc)
end Go.Proofs.Ytkdookhblbjddaa
