/- The law RunFirst, walked. -/
import Derived.Test.YtkdookhblbjddaaAhead
import Derived.Deep.QuietTactic
import Derived.BigQuiet
namespace Go.Proofs.Ytkdookhblbjddaa
open Go.RowKit Go.Maps

theorem mod_some (k len : Nat) : ∃ m : Nat, ((k : Int) % ((len : Int) + 1)) = (m : Int) ∧ m ≤ len ∧ m = k % (len + 1) := by
  refine ⟨k % (len + 1), by simp, ?_, rfl⟩
  have := Nat.mod_lt k (show 0 < len + 1 by omega)
  omega

set_option maxRecDepth 100000 in
set_option maxHeartbeats 800000 in
theorem runFirst_bad (n i j : Int) (k m : Nat) (A : Option Addr) (len cap : Nat) (E : Ev) (w : World) (hk : k < 256) (hlc : len ≤ cap) (hm : cap * 24 ≤ 140737488351232) (hr : Rd w w.heap.size A (len * 3) (evF E))
    (hkm : ((k : Int) % ((len : Int) + 1)) = (m : Int)) (hml : m ≤ len)
    (hbad : runCode n E len ≠ 0 ∨ (decide (0 ≤ i) && decide (i < (m : Int)) && (decide (0 ≤ j) && decide (j < (m : Int)))) = false) :
    Calls Try.prog 4 #[.int .i64 n, .slice A len cap, .int .u8 k, .int .i64 i, .int .i64 j] w fun e w' => e = .returned (.bool true) ∧ Below w.heap.size w w' := by
  have HR := Lib.hid hr; clear hr
  have HM : Hid (len ≤ maxLen) := by show len ≤ maxLen; unfold maxLen; omega
  have HM2 : Hid (m ≤ maxLen) := by show m ≤ maxLen; unfold maxLen; omega
  have HK := Lib.hid hkm; clear hkm
  have HRM : Hid (Rd w w.heap.size A (m * 3) (evF E)) := HR.out.less (by omega)
  have HS := Lib.hid fun (w1 : World) (hb : Below w.heap.size w w1) => ahead_some n i j A m cap w.heap.size E w1 HM2.out hb.size (HRM.out.below hb)
  cases hq : (runCode n E len == 0)
  · have HQ := Lib.hid hq; clear hq
    have hne : runCode n E len ≠ 0 := by simpa using HQ.out
    obtain ⟨c, hc, HC⟩ := ahead_no n i j A len cap w.heap.size E w HM.out (Nat.le_refl _) HR.out (.inl hne)
    have HC := Lib.hid HC
    have hc2 : (c != 0) = true := bne_iff_ne.2 hc
    clear hc hbad hne
    go_enter Try.func4, Try.ntmps4
    go_wp2_with fail
    rw [HK.out]
    refine HC.out.mono ?_
    rintro e w1 ⟨rfl, hb1⟩
    have HB1 := Lib.hid hb1; clear hb1
    go_wp2_with fail
    obtain ⟨b2, c2, h2⟩ := HS.out w1 HB1.out
    refine h2.mono ?_
    clear h2
    rintro e w2 ⟨rfl, hb2⟩
    have HB2 := Lib.hid (HB1.out.trans (hb2.mono HB1.out.size)); clear hb2
    go_wp2_with fail
    refine (bool_is_b (ran_any n A len cap w.heap.size E w2 hlc HM.out HB2.out.size (HR.out.below HB2.out)) HQ.out).mono ?_
    rintro e w3 ⟨rfl, hb3⟩
    have HB3 := Lib.hid (HB2.out.trans (hb3.mono HB2.out.size)); clear hb3
    go_wp2
    go_ret
    exact ⟨rfl, HB3.out⟩
  · have HQ := Lib.hid hq; clear hq
    have HI : Hid ((decide (0 ≤ i) && decide (i < (m : Int)) && (decide (0 ≤ j) && decide (j < (m : Int)))) = false) := hbad.resolve_left (fun h => h (by simpa using HQ.out))
    have hnin : ¬ ((0 ≤ i ∧ i < m) ∧ 0 ≤ j ∧ j < m) := by
      have := HI.out
      rw [← Bool.not_eq_true] at this
      simpa only [Bool.and_eq_true, decide_eq_true_iff] using this
    have HN := Lib.hid hnin
    clear hbad hnin
    obtain ⟨b1, c1, HC⟩ := ahead_some n i j A len cap w.heap.size E w HM.out (Nat.le_refl _) HR.out
    have HC := Lib.hid HC
    go_enter Try.func4, Try.ntmps4
    go_wp2_with fail
    rw [HK.out]
    refine HC.out.mono ?_
    rintro e w1 ⟨rfl, hb1⟩
    have HB1 := Lib.hid hb1; clear hb1
    go_wp2_with fail
    obtain ⟨c2, hc2, h2⟩ := ahead_no n i j A m cap w.heap.size E w1 HM2.out HB1.out.size (HRM.out.below HB1.out) (.inr HN.out)
    refine h2.mono ?_
    clear h2
    have hc3 : (c2 != 0) = true := bne_iff_ne.2 hc2
    clear hc2
    rintro e w2 ⟨rfl, hb2⟩
    have HB2 := Lib.hid (HB1.out.trans (hb2.mono HB1.out.size)); clear hb2
    go_wp2_with fail
    refine (bool_is_b (ran_any n A len cap w.heap.size E w2 hlc HM.out HB2.out.size (HR.out.below HB2.out)) HQ.out).mono ?_
    rintro e w3 ⟨rfl, hb3⟩
    have HB3 := Lib.hid (HB2.out.trans (hb3.mono HB2.out.size)); clear hb3
    go_wp2_with fail
    refine (inside2 false m i j _ _ _ (by simp) HI.out).mono ?_
    rintro e w4 ⟨rfl, rfl⟩
    go_wp2
    all_goals (go_ret; exact ⟨rfl, HB3.out.alloc HB3.out.size _⟩)

set_option maxRecDepth 100000 in
set_option maxHeartbeats 1600000 in
theorem runFirst_good (n : Int) (i j k m : Nat) (A : Option Addr) (len cap : Nat) (E : Ev) (w : World) (hk : k < 256) (hlc : len ≤ cap) (hm : cap * 24 ≤ 140737488351232) (hr : Rd w w.heap.size A (len * 3) (evF E))
    (hkm : ((k : Int) % ((len : Int) + 1)) = (m : Int)) (hml : m ≤ len) (hgood : runCode n E len = 0) (hi : i < m) (hj : j < m) :
    Calls Try.prog 4 #[.int .i64 n, .slice A len cap, .int .u8 k, .int .i64 i, .int .i64 j] w fun e w' => e = .returned (.bool true) ∧ Below w.heap.size w w' := by
  have HR := Lib.hid hr; clear hr
  have HM : Hid (len ≤ maxLen) := by show len ≤ maxLen; unfold maxLen; omega
  have HM2 : Hid (m ≤ maxLen) := by show m ≤ maxLen; unfold maxLen; omega
  have HK := Lib.hid hkm; clear hkm
  have HRM : Hid (Rd w w.heap.size A (m * 3) (evF E)) := HR.out.less (by omega)
  have HG := Lib.hid hgood
  have HG2 := Lib.hid (runCode_less hgood hml)
  have hl30 : len ≤ 30 := (runCode_ok hgood).1.2.2
  have HQ : Hid ((runCode n E len == 0) = true) := by show _ = true; simp [hgood]
  clear hgood
  have HO : Hid ((decide (0 ≤ (i : Int)) && decide ((i : Int) < m) && (decide (0 ≤ (j : Int)) && decide ((j : Int) < m))) = true) := by show _ = true; simp; omega
  have HII : Hid ((pastW E j).testBit j = false) := by
    show _ = false
    rw [← Bool.not_eq_true]; exact Hb.irrefl
  obtain ⟨a, ha⟩ : ∃ a, (pastW E j).testBit i = a := ⟨_, rfl⟩
  obtain ⟨s, hs⟩ : ∃ s, (E.p i != E.p j) = s := ⟨_, rfl⟩
  have hcase : (a = true ∧ i < j) ∨ (a = false ∧ s = true) ∨ (a = false ∧ s = false ∧ j ≤ i) := by
    cases ha2 : a
    · cases hs2 : s
      · refine .inr (.inr ⟨rfl, rfl, ?_⟩)
        rcases Nat.lt_or_ge i j with h | h
        · have := Hb.same (E := E) h (by rw [hs2] at hs; simpa using hs)
          unfold Hb at this
          rw [ha, ha2] at this; cases this
        · exact h
      · exact .inr (.inl ⟨rfl, rfl⟩)
    · exact .inl ⟨rfl, Hb.lt (ha.trans ha2)⟩
  have HA := Lib.hid ha; clear ha
  obtain ⟨ad, rfl, _⟩ := HR.out (by omega)
  go_enter Try.func4, Try.ntmps4
  go_wp2_with fail
  rw [HK.out]
  refine (ahead_is a n i j _ len cap w.heap.size E w HM.out (Nat.le_refl _) HR.out HG.out (by omega) (by omega) HA.out).mono ?_
  rintro e w1 ⟨rfl, hb1⟩
  have HB1 := Lib.hid hb1; clear hb1
  go_wp2_with fail
  refine (ahead_is a n i j _ m cap w.heap.size E w1 HM2.out HB1.out.size (HRM.out.below HB1.out) HG2.out (by omega) (by omega) HA.out).mono ?_
  rintro e w2 ⟨rfl, hb2⟩
  have HB2 := Lib.hid (HB1.out.trans (hb2.mono HB1.out.size)); clear hb2
  go_wp2_with fail
  refine (bool_is_b (ran_any n _ len cap w.heap.size E w2 hlc HM.out HB2.out.size (HR.out.below HB2.out)) HQ.out).mono ?_
  rintro e w3 ⟨rfl, hb3⟩
  have HB3 := Lib.hid (HB2.out.trans (hb3.mono HB2.out.size)); clear hb3
  go_wp2_with fail
  refine (inside2 true m i j _ _ _ (by simp) HO.out).mono ?_
  rintro e w4 ⟨rfl, rfl⟩
  have hb4 := HB3.out.alloc HB3.out.size (.cells #[.int .i64 i, .int .i64 j] 3)
  generalize w3.alloc (.cells #[.int .i64 i, .int .i64 j] 3) = w4 at hb4 ⊢
  have HB4 := Lib.hid hb4; clear hb4
  go_wp2_with fail
  refine (ahead_is false n j j _ len cap w.heap.size E w4 HM.out HB4.out.size (HR.out.below HB4.out) HG.out (by omega) (by omega) HII.out).mono ?_
  rintro e w5 ⟨rfl, hb5⟩
  have HB5 := Lib.hid (HB4.out.trans (hb5.mono HB4.out.size)); clear hb5
  obtain ⟨ad', hA, _, ci, _⟩ := (HR.out.below HB5.out).rec3 (j := i) (by omega)
  injection hA with hA
  subst hA
  obtain ⟨ad', hA, _, cj, _⟩ := (HR.out.below HB5.out).rec3 (j := j) (by omega)
  injection hA with hA
  subst hA
  rcases hcase with ⟨rfl, hle⟩ | ⟨rfl, rfl⟩ | ⟨rfl, rfl, hle⟩
  · have hd : decide ((i : Int) < (j : Int)) = true := by simp; omega
    have hd2 : (i : Int) < (j : Int) := by omega
    cases s
    all_goals
      go_wp2
      go_quiet (fail)
      go_wp2
      go_ret
      exact ⟨rfl, HB5.out.trans ⟨rfl, rfl, rfl, Nat.le_refl _, fun _ _ => rfl⟩⟩
  · go_wp2
    go_quiet (fail)
    go_wp2
    go_ret
    exact ⟨rfl, HB5.out.trans ⟨rfl, rfl, rfl, Nat.le_refl _, fun _ _ => rfl⟩⟩
  · have hd : decide ((i : Int) < (j : Int)) = false := by simp; omega
    go_wp2
    go_quiet (fail)
    go_wp2
    go_ret
    exact ⟨ret_bool (by simp; omega), HB5.out.trans ⟨rfl, rfl, rfl, Nat.le_refl _, fun _ _ => rfl⟩⟩

theorem runFirst_all (n : Int) (A : Option Addr) (len cap : Nat) (E : Ev) (k i j : Int) (w : World) (_ : (Lit.int .i64 n).wf = true) (hmc : len ≤ cap ∧ cap * 24 ≤ 140737488351232) (hr : Rd w w.heap.size A (len * 3) (evF E))
    (hk : (Lit.int .u8 k).wf = true) (_ : (Lit.int .i64 i).wf = true) (_ : (Lit.int .i64 j).wf = true) :
    Calls Try.prog 4 #[.int .i64 n, .slice A len cap, .int .u8 k, .int .i64 i, .int .i64 j] w fun e w' => e = .returned (.bool true) ∧ Below w.heap.size w w' := by
  obtain ⟨k, rfl, hk2⟩ := u8_nat hk
  obtain ⟨m, hm1, hm2, _⟩ := mod_some k len
  by_cases hc : runCode n E len = 0
  · by_cases hjk : (0 ≤ i ∧ i < m) ∧ (0 ≤ j ∧ j < m)
    · obtain ⟨i', rfl⟩ := Int.eq_ofNat_of_zero_le hjk.1.1
      obtain ⟨j', rfl⟩ := Int.eq_ofNat_of_zero_le hjk.2.1
      exact runFirst_good n i' j' k m A len cap E w hk2 hmc.1 hmc.2 hr hm1 hm2 hc (by omega) (by omega)
    · refine runFirst_bad n i j k m A len cap E w hk2 hmc.1 hmc.2 hr hm1 hm2 (.inr ?_)
      rw [← Bool.not_eq_true]
      simp only [Bool.and_eq_true, decide_eq_true_iff]
      exact hjk
  · exact runFirst_bad n i j k m A len cap E w hk2 hmc.1 hmc.2 hr hm1 hm2 (.inl hc)
end Go.Proofs.Ytkdookhblbjddaa
