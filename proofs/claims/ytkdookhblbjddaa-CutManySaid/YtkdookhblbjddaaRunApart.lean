/- The walks of run.Apart and of the law RunApart. -/
import Derived.Test.YtkdookhblbjddaaAhead
set_option linter.unusedVariables false
set_option linter.unusedSimpArgs false
namespace Go.Proofs.Ytkdookhblbjddaa
open Go.RowKit Go.Maps

/-- Of the first i events: how many are not ahead of event j. -/
def apIn (E : Ev) (j : Nat) : Nat → Nat
  | 0 => 0
  | i + 1 => apIn E j i + (if (pastW E j).testBit i then 0 else 1)
def apAll (E : Ev) : Nat → Nat
  | 0 => 0
  | j + 1 => apAll E j + apIn E j j
theorem apIn_le (E : Ev) (j i : Nat) : apIn E j i ≤ i := by
  induction i with
  | zero => exact Nat.le_refl _
  | succ i ih => rw [apIn]; split <;> omega
theorem apAll_le (E : Ev) {j : Nat} (hj : j ≤ 30) : apAll E j ≤ j * 30 := by
  induction j with
  | zero => exact Nat.le_refl _
  | succ j ih => rw [apAll]; have := ih (by omega); have := apIn_le E j j; omega
theorem bit_num {P i : Nat} (hP : P < 4294967296) : bits .and .u32 ((P : Int) / 2 ^ i) 1 = if P.testBit i then 1 else 0 := by
  have h := bit_at (i := i) hP
  have e : ((P : Int) / 2 ^ i) = ((P / 2 ^ i : Nat) : Int) := by simp
  have h1 : P / 2 ^ i < 4294967296 := Nat.lt_of_le_of_lt (Nat.div_le_self _ _) hP
  have h2 := u32_and_nat (P / 2 ^ i) 1 h1 (by omega)
  have e1 : ((1 : Nat) : Int) = 1 := rfl
  rw [e1, ← e] at h2
  rw [h2] at h ⊢
  have h3 : P / 2 ^ i &&& 1 ≤ 1 := Nat.and_le_right
  generalize P / 2 ^ i &&& 1 = x at h h3 ⊢
  cases ht : P.testBit i
  · rw [ht] at h
    simp at h ⊢
    omega
  · rw [ht] at h
    simp at h ⊢
    omega

set_option maxHeartbeats 800000 in
theorem apart_bad (n : Int) (A : Option Addr) (len cap B : Nat) (E : Ev) (w : World) (hm : len ≤ maxLen) (hB : B ≤ w.heap.size) (hr : Rd w B A (len * 3) (evF E)) (hbad : runCode n E len ≠ 0) :
    Calls Try.prog 18 #[.int .i64 n, .slice A len cap] w fun e w' => e = .returned (.tuple #[.int .i64 0, .int .i64 (runCode n E len)]) ∧ Below w.heap.size w w' := by
  have HR := Lib.hid hr; clear hr
  have HM := Lib.hid hm; clear hm
  have hb' : (runCode n E len == 0) = false := beq_eq_false_iff_ne.2 hbad
  clear hbad
  go_enter Try.func18, Try.ntmps18
  go_wp2_with fail
  refine (check_any n A len cap B E w HM.out hB HR.out).mono ?_
  rintro e w1 ⟨rfl, hb1⟩
  have HB1 := Lib.hid hb1; clear hb1
  go_wp2
  go_ret2
  exact ⟨rfl, HB1.out⟩

set_option maxHeartbeats 1600000 in
theorem apart_good (n : Int) (A : Option Addr) (len cap B : Nat) (E : Ev) (w : World) (hm : len ≤ maxLen) (hB : B ≤ w.heap.size) (hr : Rd w B A (len * 3) (evF E)) (hgood : runCode n E len = 0) :
    Calls Try.prog 18 #[.int .i64 n, .slice A len cap] w fun e w' => e = .returned (.tuple #[.int .i64 (apAll E len : Nat), .int .i64 0]) ∧ Below w.heap.size w w' := by
  have HR := Lib.hid hr; clear hr
  have HM := Lib.hid hm; clear hm
  have HG := Lib.hid hgood; clear hgood
  have hl : len ≤ 30 := (runCode_ok HG.out).1.2.2
  obtain ⟨n, rfl⟩ := Int.eq_ofNat_of_zero_le (by have := (runCode_ok HG.out).1.1; omega : 0 ≤ n)
  go_enter Try.func18, Try.ntmps18
  go_wp2_with fail
  refine (int_is_b (check_any n A len cap B E w HM.out hB HR.out) HG.out).mono ?_
  rintro e w1 ⟨rfl, hb1⟩
  have HB1 := Lib.hid hb1; clear hb1
  go_wp2_with fail
  refine (past_any n A len cap w.heap.size E w1 HG.out HB1.out.size ((HR.out.more hB).below HB1.out)).mono ?_
  rintro e w2 ⟨rfl, ho2, hb2⟩
  have HB2 := Lib.hid (HB1.out.trans (hb2.mono HB1.out.size)); clear hb2
  have HO := Lib.hid ho2; clear ho2
  go_wp2
  go_loop [7, 21] (fun s i => ∃ j : Nat, j ≤ len ∧ i = .int .i64 j ∧ s = .int .i64 (apAll E j : Nat)) (fun _ i => len - (intOf i).toNat)
  case atStart => exact ⟨0, by omega, rfl, rfl⟩
  case round =>
    obtain ⟨j, hj, rfl, rfl⟩ := hrel
    by_cases hlt : j < len
    · have hc := (HO.out.at1 hlt).1
      simp only [pastF, hlt, if_true] at hc
      have HP := Lib.hid (pastW_lt HG.out hlt)
      have hap := apAll_le E (j := j) (by omega)
      go_wp2
      clear hc
      go_loop [7, 27] (fun s i => ∃ l : Nat, l ≤ j ∧ i = .int .i64 l ∧ s = .int .i64 ((apAll E j + apIn E j l : Nat))) (fun _ i => j - (intOf i).toNat)
      case atStart => exact ⟨0, by omega, rfl, rfl⟩
      case round =>
        obtain ⟨l, hlj, rfl, rfl⟩ := hrel
        have hal := apIn_le E j l
        have HN : Hid (apIn E j (l + 1) = apIn E j l + (if (pastW E j).testBit l then 0 else 1)) := rfl
        by_cases hlt2 : l < j
        · have hv := bit_num (i := l) HP.out
          cases hb : (pastW E j).testBit l
          all_goals
            rw [hb] at hv
            have HB := Lib.hid hb; clear hb
            simp only [if_true, Bool.false_eq_true, if_false] at hv
            go_wp2
            go_round
            case rel => exact ⟨l + 1, by omega, by go_num, by rw [HN.out, HB.out]; go_num⟩
            case measure => simp [intOf]; omega
        · obtain rfl : l = j := by omega
          go_wp2
          go_round
          case rel => exact ⟨l + 1, by omega, by go_num, rfl⟩
          case measure => simp [intOf]; omega
    · obtain rfl : j = len := by omega
      go_wp2
      go_ret2
      exact ⟨rfl, HB2.out⟩

theorem apAll_one {E : Ev} {len : Nat} (h : runCode 1 E len = 0) : apAll E len = 0 := by
  obtain ⟨_, ha⟩ := runCode_ok h
  have hp : ∀ i, i < len → E.p i = 0 := fun i hi => by have := (evCode_ok (ha i hi)).1; omega
  have key : ∀ j, j ≤ len → apAll E j = 0 := by
    intro j hj
    induction j with
    | zero => rfl
    | succ j ih =>
      rw [apAll, ih (by omega)]
      have : ∀ i, i ≤ j → apIn E j i = 0 := by
        intro i hi
        induction i with
        | zero => rfl
        | succ i ih2 =>
          have hb : (pastW E j).testBit i = true := Hb.same (E := E) (by omega) (by rw [hp i (by omega), hp j (by omega)])
          rw [apIn, ih2 (by omega), hb]; rfl
      rw [this j (Nat.le_refl _)]
  exact key len (Nat.le_refl _)

set_option maxHeartbeats 800000 in
theorem runApart_bad (n : Int) (A : Option Addr) (len cap : Nat) (E : Ev) (w : World) (hlc : len ≤ cap) (hm : len ≤ maxLen) (hr : Rd w w.heap.size A (len * 3) (evF E)) (hbad : runCode n E len ≠ 0) :
    Calls Try.prog 5 #[.int .i64 n, .slice A len cap] w fun e w' => e = .returned (.bool true) ∧ Below w.heap.size w w' := by
  have HR := Lib.hid hr; clear hr
  have HM := Lib.hid hm; clear hm
  have HBAD := Lib.hid hbad
  have hb2 : (runCode n E len != 0) = true := bne_iff_ne.2 hbad
  have HQ : Hid ((runCode n E len == 0) = false) := beq_eq_false_iff_ne.2 hbad
  clear hbad
  go_enter Try.func5, Try.ntmps5
  go_wp2_with fail
  refine (apart_bad n A len cap w.heap.size E w HM.out (Nat.le_refl _) HR.out HBAD.out).mono ?_
  rintro e w1 ⟨rfl, hb1⟩
  have HB1 := Lib.hid hb1; clear hb1
  go_wp2_with fail
  refine (bool_is_b (ran_any n A len cap w.heap.size E w1 hlc HM.out HB1.out.size (HR.out.below HB1.out)) HQ.out).mono ?_
  rintro e w2 ⟨rfl, hb2⟩
  have HB2 := Lib.hid (HB1.out.trans (hb2.mono HB1.out.size)); clear hb2
  go_wp2
  go_ret
  exact ⟨rfl, HB2.out⟩

set_option maxHeartbeats 1600000 in
theorem runApart_good (n : Int) (A : Option Addr) (len cap : Nat) (E : Ev) (w : World) (hlc : len ≤ cap) (hm : len ≤ maxLen) (hr : Rd w w.heap.size A (len * 3) (evF E)) (hgood : runCode n E len = 0) :
    Calls Try.prog 5 #[.int .i64 n, .slice A len cap] w fun e w' => e = .returned (.bool true) ∧ Below w.heap.size w w' := by
  have HR := Lib.hid hr; clear hr
  have HM := Lib.hid hm; clear hm
  have HG := Lib.hid hgood
  have hl : len ≤ 30 := (runCode_ok hgood).1.2.2
  have hn1 : 1 ≤ n := (runCode_ok hgood).1.1
  have HQ : Hid ((runCode n E len == 0) = true) := by show _ = true; simp [hgood]
  have HONE : Hid (n ≤ 1 → apAll E len = 0) := fun h => apAll_one (E := E) ((show (1 : Int) = n by omega) ▸ hgood)
  clear hgood
  go_enter Try.func5, Try.ntmps5
  go_wp2_with fail
  refine (apart_good n A len cap w.heap.size E w HM.out (Nat.le_refl _) HR.out HG.out).mono ?_
  rintro e w1 ⟨rfl, hb1⟩
  have HB1 := Lib.hid hb1; clear hb1
  go_wp2_with fail
  refine (bool_is_b (ran_any n A len cap w.heap.size E w1 hlc HM.out HB1.out.size (HR.out.below HB1.out)) HQ.out).mono ?_
  rintro e w2 ⟨rfl, hb2⟩
  have HB2 := Lib.hid (HB1.out.trans (hb2.mono HB1.out.size)); clear hb2
  go_wp2
  go_loopw [7, 8] (fun s i wr => ∃ j : Nat, j ≤ len ∧ i = .int .i64 j ∧ s = .int .i64 (apAll E j : Nat) ∧ Hid (Below w.heap.size w wr)) (fun _ i _ => len - (intOf i).toNat)
  case atStart => exact ⟨0, by omega, rfl, rfl, HB2⟩
  case round =>
    obtain ⟨j, hj, rfl, rfl, HBr⟩ := hrel
    have hap := apAll_le E (j := j) (by omega)
    by_cases hlt : j < len
    · go_wp2
      obtain ⟨wo, rfl⟩ : ∃ wo : World, wo = wr := ⟨_, rfl⟩
      go_loopw [7, 9] (fun s i wr => ∃ l : Nat, l ≤ j ∧ i = .int .i64 l ∧ s = .int .i64 ((apAll E j + apIn E j l : Nat)) ∧ Hid (Below w.heap.size w wr)) (fun _ i _ => j - (intOf i).toNat)
      case atStart => exact ⟨0, by omega, rfl, rfl, HBr⟩
      case round =>
        obtain ⟨l, hlj, rfl, rfl, HBi⟩ := hrel
        have hal := apIn_le E j l
        have HN : Hid (apIn E j (l + 1) = apIn E j l + (if (pastW E j).testBit l then 0 else 1)) := rfl
        by_cases hlt2 : l < j
        · cases hb : (pastW E j).testBit l
          all_goals
            have HB := Lib.hid hb; clear hb
            go_wp2_with fail
            refine (ahead_is _ n l j A len cap w.heap.size E wr HM.out HBi.out.size (HR.out.below HBi.out) HG.out (by omega) hlt HB.out).mono ?_
            rintro e w3 ⟨rfl, hb3⟩
            have HB3 := Lib.hid (HBi.out.trans (hb3.mono HBi.out.size)); clear hb3
            go_wp2
            go_roundw
            case rel => exact ⟨l + 1, by omega, by go_num, by rw [HN.out, HB.out]; go_num, HB3⟩
            case measure => simp [intOf]; omega
        · obtain rfl : l = j := by omega
          go_wp2
          go_roundw
          case rel => exact ⟨l + 1, by omega, by go_num, rfl, HBi⟩
          case measure => simp [intOf]; omega
    · obtain rfl : j = len := by omega
      by_cases hn : n ≤ 1
      · have h0 : ((apAll E j : Nat) : Int) = 0 := by rw [HONE.out hn]; rfl
        go_wp2
        go_ret
        exact ⟨rfl, HBr.out⟩
      · go_wp2
        go_ret
        exact ⟨rfl, HBr.out⟩
theorem runApart_all (n : Int) (A : Option Addr) (len cap : Nat) (E : Ev) (w : World) (_ : (Lit.int .i64 n).wf = true) (hmc : len ≤ cap ∧ cap ≤ maxLen) (hr : Rd w w.heap.size A (len * 3) (evF E)) :
    Calls Try.prog 5 #[.int .i64 n, .slice A len cap] w fun e w' => e = .returned (.bool true) ∧ Below w.heap.size w w' := by
  have hm := Nat.le_trans hmc.1 hmc.2
  by_cases hc : runCode n E len = 0
  · exact runApart_good n A len cap E w hmc.1 hm hr hc
  · exact runApart_bad n A len cap E w hmc.1 hm hr hc
end Go.Proofs.Ytkdookhblbjddaa
