/- The walks of loser, Full, Meet, met. -/
import Derived.Test.YtgjmnnbcclgahaaQuorum2
import Derived.Test.YtgjmnnbcclgahaaWaitMath
set_option linter.unusedVariables false
set_option linter.unusedSimpArgs false
namespace Go.Proofs.Ytgjmnnbcclgahaa
open Go.RowKit

def loseB (f : Nat → Nat) (m n s : Nat) : Bool := !winsB f m s && !winsB f m (2 ^ n - 1 - s)
def loserIs (f : Nat → Nat) (m n : Nat) : Bool := anyTo (loseB f m n) (2 ^ n)
def loserS (f : Nat → Nat) (m n : Nat) : Nat := ((List.range (2 ^ n)).find? (loseB f m n)).getD 0
theorem loser_hit {f : Nat → Nat} {m n k : Nat} (hk : k < 2 ^ n) (h : loseB f m n k = true) (hb : ∀ j, j < k → loseB f m n j = false) : loserIs f m n = true ∧ loserS f m n = k := by
  refine ⟨anyTo_iff.2 ⟨k, hk, h⟩, ?_⟩
  have : (List.range (2 ^ n)).find? (loseB f m n) = some k := by
    rw [List.find?_range_eq_some]
    exact ⟨h, by simpa using hk, fun j hj => by simp [hb j hj]⟩
  rw [loserS, this]; rfl
theorem loser_miss {f : Nat → Nat} {m n : Nat} (hb : ∀ j, j < 2 ^ n → loseB f m n j = false) : loserIs f m n = false ∧ loserS f m n = 0 := by
  refine ⟨anyTo_no.2 hb, ?_⟩
  have : (List.range (2 ^ n)).find? (loseB f m n) = none := by
    rw [List.find?_range_eq_none]
    intro i hi; simp [hb i hi]
  rw [loserS, this]; rfl
theorem comp_bits {n s : Nat} (h6 : n ≤ 6) (hs : s < 2 ^ n) : bits .andNot .u32 ((2 ^ n - 1 : Nat) : Int) (s : Int) = ((2 ^ n - 1 - s : Nat) : Int) := by
  have hp := pow_small h6
  rw [u32_andNot_nat _ _ (by omega) (by omega)]
  congr 1
  apply Nat.eq_of_testBit_eq
  intro i
  rw [stuck_bit hs]
  have : 4294967295 - s = 2 ^ 32 - (s + 1) := by omega
  rw [Nat.testBit_and, Nat.testBit_two_pow_sub_one, this, Nat.testBit_two_pow_sub_succ (by omega : s < 2 ^ 32)]
  by_cases hi : i < n
  · simp [hi, (by omega : i < 32)]
  · simp [hi]

set_option maxHeartbeats 800000 in
theorem loser_any (n : Nat) (A : Option Addr) (m cap B : Nat) (f : Nat → Nat) (w : World) (h1 : 1 ≤ n) (h6 : n ≤ 6) (hB : B ≤ w.heap.size) (hm : m ≤ maxLen) (hr : Rd w B A m (fun j => .int .u32 (f j : Nat))) :
    Calls Try.prog 33 #[.int .i64 n, .slice A m cap] w fun e w' => e = .returned (.tuple #[.int .u32 (loserS f m n : Nat), .bool (loserIs f m n)]) ∧ Below w.heap.size w w' := by
  have HM := Lib.hid hm; clear hm
  have HR := Lib.hid hr; clear hr
  obtain ⟨p, hp⟩ : ∃ p : Nat, p = 2 ^ n := ⟨_, rfl⟩
  have hE : (2 : Int) ^ n = (p : Int) := by rw [hp]; simp
  have hp1 : 1 ≤ p := by rw [hp]; exact Nat.two_pow_pos n
  have hp64 : p ≤ 64 := by rw [hp]; exact pow_small h6
  have HC : Hid (∀ s, s < p → bits .andNot .u32 ((p : Int) - 1) (s : Int) = ((2 ^ n - 1 - s : Nat) : Int)) := by
    intro s hs
    rw [← comp_bits h6 (by omega)]
    congr 1
    rw [← hp]; omega
  have HP := Lib.hid hp; clear hp
  go_enter Try.func33, Try.ntmps33
  go_wp2
  go_loopw [13] (fun i wr => ∃ k : Nat, k ≤ p ∧ i = .int .u32 k ∧ Hid (Below w.heap.size w wr) ∧ Hid (∀ j, j < k → loseB f m n j = false)) (fun i _ => p - (intOf i).toNat)
  case atStart => exact ⟨0, by omega, rfl, Below.refl _ _, fun j hj => absurd hj (by omega)⟩
  case round =>
    obtain ⟨k, hk, rfl, HBr, HA⟩ := hrel
    by_cases hlt : k < p
    · cases h1 : winsB f m k
      · have H1 := Lib.hid h1; clear h1
        go_wp2_with fail
        refine (winsIn_is false A m cap w.heap.size f k wr HBr.out.size HM.out ((HR.out.more hB).below HBr.out) H1.out).mono ?_
        rintro e w1 ⟨rfl, hb1⟩
        have HB1 := Lib.hid (HBr.out.trans (hb1.mono HBr.out.size)); clear hb1
        cases h2 : winsB f m (2 ^ n - 1 - k)
        all_goals
          have H2 := Lib.hid h2; clear h2
          go_wp2_with fail
          rw [HC.out k hlt]
          refine (winsIn_is _ A m cap w.heap.size f _ w1 HB1.out.size HM.out ((HR.out.more hB).below HB1.out) H2.out).mono ?_
          rintro e w2 ⟨rfl, hb2⟩
          have HB2 := Lib.hid (HB1.out.trans (hb2.mono HB1.out.size)); clear hb2
          go_wp2
          first
            | (have HH := Lib.hid (loser_hit (by have := HP.out; omega) (by simp [loseB, H1.out, H2.out]) HA.out)
               go_ret2
               refine ⟨?_, HB2.out⟩
               rw [HH.out.1, HH.out.2]
               rfl)
            | (go_roundw
               case rel => exact ⟨k + 1, by omega, by go_num, HB2, fun j hj => (Nat.lt_succ_iff_lt_or_eq.1 hj).elim (HA.out j) (fun e => by subst e; simp [loseB, H2.out])⟩
               case measure => simp [intOf]; omega)
      · have H1 := Lib.hid h1; clear h1
        go_wp2_with fail
        refine (winsIn_is true A m cap w.heap.size f k wr HBr.out.size HM.out ((HR.out.more hB).below HBr.out) H1.out).mono ?_
        rintro e w1 ⟨rfl, hb1⟩
        have HB1 := Lib.hid (HBr.out.trans (hb1.mono HBr.out.size)); clear hb1
        go_wp2
        go_roundw
        case rel => exact ⟨k + 1, by omega, by go_num, HB1, fun j hj => (Nat.lt_succ_iff_lt_or_eq.1 hj).elim (HA.out j) (fun e => by subst e; simp [loseB, H1.out])⟩
        case measure => simp [intOf]; omega
    · obtain rfl : k = p := by omega
      have HH := Lib.hid (loser_miss (f := f) (m := m) (n := n) (by rw [← HP.out]; exact HA.out))
      go_wp2
      go_ret2
      refine ⟨?_, HBr.out⟩
      rw [HH.out.1, HH.out.2]
      rfl
theorem loser_is (b : Bool) (s n : Nat) (A : Option Addr) (m cap B : Nat) (f : Nat → Nat) (w : World) (h1 : 1 ≤ n) (h6 : n ≤ 6) (hB : B ≤ w.heap.size) (hm : m ≤ maxLen) (hr : Rd w B A m (fun j => .int .u32 (f j : Nat))) (hs : loserS f m n = s) (hb : loserIs f m n = b) :
    Calls Try.prog 33 #[.int .i64 n, .slice A m cap] w fun e w' => e = .returned (.tuple #[.int .u32 (s : Nat), .bool b]) ∧ Below w.heap.size w w' := by
  rw [← hs, ← hb]; exact loser_any n A m cap B f w h1 h6 hB hm hr
theorem quWrong_is (c : Int) (n : Int) (A : Option Addr) (m cap B : Nat) (f : Nat → Nat) (s : Nat) (w : World) (hB : B ≤ w.heap.size) (hm : m ≤ maxLen) (hr : Rd w B A m (fun j => .int .u32 (f j : Nat))) (hc : quCode n f m s = c) :
    Calls Try.prog 30 #[.int .i64 n, .slice A m cap, .int .u32 s] w fun e w' => e = .returned (.int .i64 c) ∧ Below w.heap.size w w' := by
  rw [← hc]; exact quWrong_any n A m cap B f s w hB hm hr

/-- The code of Full and Better. -/
def fullCode (n : Int) (f : Nat → Nat) (m : Nat) : Int := if quCode n f m 0 = 0 then (if meetB f m then 0 else 3) else quCode n f m 0

set_option maxHeartbeats 800000 in
theorem full_good (n : Nat) (A : Option Addr) (m cap B : Nat) (f : Nat → Nat) (w : World) (hmc : m ≤ cap) (hB : B ≤ w.heap.size) (hm : m ≤ maxLen) (hr : Rd w B A m (fun j => .int .u32 (f j : Nat))) (hg : quCode n f m 0 = 0) (hmeet : meetB f m = true) :
    Calls Try.prog 19 #[.int .i64 n, .slice A m cap] w fun e w' => e = .returned (.tuple #[.bool (!loserIs f m n), .int .i64 0]) ∧ Below w.heap.size w w' := by
  have HM := Lib.hid hm; clear hm
  have HR := Lib.hid hr; clear hr
  have HG := Lib.hid hg
  have HT := Lib.hid hmeet; clear hmeet
  obtain ⟨⟨h1, h6, h20⟩, _, _⟩ := quCode_ok hg
  clear hg
  go_enter Try.func19, Try.ntmps19
  go_wp2_with fail
  refine (quWrong_is 0 n A m cap B f 0 w hB HM.out HR.out HG.out).mono ?_
  rintro e w1 ⟨rfl, hb1⟩
  have HB1 := Lib.hid hb1; clear hb1
  go_wp2_with fail
  refine (bool_is (meet_any A m cap w.heap.size f w1 HM.out hmc ((HR.out.more hB).below HB1.out)) HT.out).mono ?_
  rintro e w1 ⟨rfl, rfl⟩
  go_wp2_with fail
  refine (loser_any n A m cap w.heap.size f w1 (by omega) (by omega) HB1.out.size HM.out ((HR.out.more hB).below HB1.out)).mono ?_
  rintro e w2 ⟨rfl, hb2⟩
  have HB2 := Lib.hid (HB1.out.trans (hb2.mono HB1.out.size)); clear hb2
  go_wp2
  go_ret2
  exact ⟨rfl, HB2.out⟩
set_option maxHeartbeats 800000 in
theorem full_bad (n : Int) (A : Option Addr) (m cap B : Nat) (f : Nat → Nat) (w : World) (hmc : m ≤ cap) (hB : B ≤ w.heap.size) (hm : m ≤ maxLen) (hr : Rd w B A m (fun j => .int .u32 (f j : Nat))) (hg : fullCode n f m ≠ 0) :
    Calls Try.prog 19 #[.int .i64 n, .slice A m cap] w fun e w' => e = .returned (.tuple #[.bool false, .int .i64 (fullCode n f m)]) ∧ Below w.heap.size w w' := by
  have HM := Lib.hid hm; clear hm
  have HR := Lib.hid hr; clear hr
  by_cases hc : quCode n f m 0 = 0
  · have HT : Hid (meetB f m = false) := by
      cases hq : meetB f m
      · rfl
      · exact absurd (by rw [fullCode, if_pos hc, hq]; rfl) hg
    have HV : Hid (fullCode n f m = 3) := by show fullCode n f m = 3; rw [fullCode, if_pos hc, HT.out]; rfl
    have HG := Lib.hid hc
    clear hc hg
    go_enter Try.func19, Try.ntmps19
    go_wp2_with fail
    refine (quWrong_is 0 n A m cap B f 0 w hB HM.out HR.out HG.out).mono ?_
    rintro e w1 ⟨rfl, hb1⟩
    have HB1 := Lib.hid hb1; clear hb1
    go_wp2_with fail
    refine (bool_is (meet_any A m cap w.heap.size f w1 HM.out hmc ((HR.out.more hB).below HB1.out)) HT.out).mono ?_
    rintro e w1 ⟨rfl, rfl⟩
    go_wp2
    go_ret2
    exact ⟨by rw [HV.out]; rfl, HB1.out⟩
  · have HV : Hid (quCode n f m 0 = fullCode n f m) := by show _ = fullCode n f m; rw [fullCode, if_neg hc]
    have hg2 : (fullCode n f m == 0) = false := beq_eq_false_iff_ne.2 hg
    clear hc hg
    go_enter Try.func19, Try.ntmps19
    go_wp2_with fail
    refine (quWrong_is _ n A m cap B f 0 w hB HM.out HR.out HV.out).mono ?_
    rintro e w1 ⟨rfl, hb1⟩
    have HB1 := Lib.hid hb1; clear hb1
    go_wp2
    go_ret2
    exact ⟨rfl, HB1.out⟩
set_option maxHeartbeats 800000 in
theorem qmeet_good (n : Int) (A : Option Addr) (m cap B : Nat) (f : Nat → Nat) (w : World) (hmc : m ≤ cap) (hB : B ≤ w.heap.size) (hm : m ≤ maxLen) (hr : Rd w B A m (fun j => .int .u32 (f j : Nat))) (hg : quCode n f m 0 = 0) :
    Calls Try.prog 21 #[.int .i64 n, .slice A m cap] w fun e w' => e = .returned (.tuple #[.bool (meetB f m), .int .i64 0]) ∧ Below w.heap.size w w' := by
  have HM := Lib.hid hm; clear hm
  have HR := Lib.hid hr; clear hr
  have HG := Lib.hid hg; clear hg
  go_enter Try.func21, Try.ntmps21
  go_wp2_with fail
  refine (quWrong_is 0 n A m cap B f 0 w hB HM.out HR.out HG.out).mono ?_
  rintro e w1 ⟨rfl, hb1⟩
  have HB1 := Lib.hid hb1; clear hb1
  go_wp2_with fail
  refine (meet_any A m cap w.heap.size f w1 HM.out hmc ((HR.out.more hB).below HB1.out)).mono ?_
  rintro e w1 ⟨rfl, rfl⟩
  go_wp2
  go_ret2
  exact ⟨rfl, HB1.out⟩
theorem qmeet_is (b : Bool) (n : Int) (A : Option Addr) (m cap B : Nat) (f : Nat → Nat) (w : World) (hmc : m ≤ cap) (hB : B ≤ w.heap.size) (hm : m ≤ maxLen) (hr : Rd w B A m (fun j => .int .u32 (f j : Nat))) (hg : quCode n f m 0 = 0) (hb : meetB f m = b) :
    Calls Try.prog 21 #[.int .i64 n, .slice A m cap] w fun e w' => e = .returned (.tuple #[.bool b, .int .i64 0]) ∧ Below w.heap.size w w' := by
  rw [← hb]; exact qmeet_good n A m cap B f w hmc hB hm hr hg

set_option maxHeartbeats 800000 in
theorem met_any (n : Int) (A : Option Addr) (m cap B : Nat) (f : Nat → Nat) (w : World) (hB : B ≤ w.heap.size) (hm : m ≤ maxLen) (hr : Rd w B A m (fun j => .int .u32 (f j : Nat))) :
    Calls Try.prog 20 #[.int .i64 n, .slice A m cap] w fun e w' => e = .returned (.bool (quCode n f m 0 == 0 && refMeetB f m)) ∧ Below w.heap.size w w' := by
  have HM := Lib.hid hm; clear hm
  have HR := Lib.hid hr; clear hr
  by_cases hc : quCode n f m 0 = 0
  · have HG := Lib.hid hc
    clear hc
    go_enter Try.func20, Try.ntmps20
    go_wp2_with fail
    refine (int_is (setsCheck_any n A m cap B f 0 w HM.out HR.out) HG.out).mono ?_
    rintro e w1 ⟨rfl, rfl⟩
    go_wp2_with fail
    refine (refMeet_any A m cap B f w hB HM.out HR.out).mono ?_
    rintro e w1 ⟨rfl, hb1⟩
    have HB1 := Lib.hid hb1; clear hb1
    go_wp2
    go_ret
    exact ⟨ret_bool (by rw [HG.out]; rfl), HB1.out⟩
  · have hg2 : (quCode n f m 0 == 0) = false := beq_eq_false_iff_ne.2 hc
    clear hc
    go_enter Try.func20, Try.ntmps20
    go_wp2_with fail
    refine (setsCheck_any n A m cap B f 0 w HM.out HR.out).mono ?_
    rintro e w1 ⟨rfl, rfl⟩
    have HG := Lib.hid hg2
    go_wp2
    go_ret
    exact ⟨ret_bool (by rw [HG.out]; rfl), Below.refl _ _⟩

theorem orEq_iff {a b : Nat} (ha : a < 4294967296) (hb : b < 4294967296) : orEq a b = sub32 a b := by
  rw [Bool.eq_iff_iff, sub32_iff ha hb, orEq, u32_or_nat a b ha hb, beq_iff_eq, Int.natCast_inj]
  constructor
  · intro h i hi
    rw [← h]; simp [hi]
  · intro h
    apply Nat.eq_of_testBit_eq
    intro i
    rw [Nat.testBit_or]
    cases ha : a.testBit i
    · simp
    · simp [h i ha]
theorem andZ_comm (a b : Nat) : andZ a b = andZ b a := by
  by_cases ha : a < 4294967296 ∧ b < 4294967296
  · unfold andZ; rw [u32_and_nat a b ha.1 ha.2, u32_and_nat b a ha.2 ha.1, Nat.and_comm]
  · unfold andZ bits; simp [BitVec.and_comm]
/-- The program's test of a coterie and the document's are one. -/
theorem meet_ref {f : Nat → Nat} {m : Nat} (hf : ∀ j, j < m → f j < 4294967296) : refMeetB f m = meetB f m := by
  unfold refMeetB meetB
  congr 1
  rw [Bool.eq_iff_iff, anyTo_iff, anyTo_iff]
  constructor
  · rintro ⟨i, hi, h⟩
    obtain ⟨j, hj, h⟩ := anyTo_iff.1 h
    simp only [refBad, Bool.and_eq_true, bne_iff_ne] at h
    rw [orEq_iff (hf i hi) (hf j hj)] at h
    rcases Nat.lt_or_ge j i with hlt | hge
    · refine ⟨i, hi, anyTo_iff.2 ⟨j, hlt, ?_⟩⟩
      simp only [pairBad, Bool.or_eq_true] at h ⊢
      exact .inl h.2
    · refine ⟨j, hj, anyTo_iff.2 ⟨i, by have := h.1; omega, ?_⟩⟩
      rw [andZ_comm] at h
      simp only [pairBad, Bool.or_eq_true] at h ⊢
      exact h.2.elim (fun h => .inl (.inl h)) .inr
  · rintro ⟨i, hi, h⟩
    obtain ⟨j, hj, h⟩ := anyTo_iff.1 h
    simp only [pairBad, Bool.or_eq_true] at h
    rcases h with (h | h) | h
    · exact ⟨i, hi, anyTo_iff.2 ⟨j, by omega, by simp [refBad, h]; omega⟩⟩
    · exact ⟨i, hi, anyTo_iff.2 ⟨j, by omega, by simp [refBad, orEq_iff (hf i hi) (hf j (by omega)), h]; omega⟩⟩
    · exact ⟨j, by omega, anyTo_iff.2 ⟨i, hi, by simp [refBad, orEq_iff (hf j (by omega)) (hf i hi), h]; omega⟩⟩
end Go.Proofs.Ytgjmnnbcclgahaa
