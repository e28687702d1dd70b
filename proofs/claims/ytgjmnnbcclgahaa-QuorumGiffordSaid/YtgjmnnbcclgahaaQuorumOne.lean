/- The law QuorumOne, walked. -/
import Derived.Test.YtgjmnnbcclgahaaQuorum3
set_option linter.unusedVariables false
set_option linter.unusedSimpArgs false
namespace Go.Proofs.Ytgjmnnbcclgahaa
open Go.RowKit

theorem fullCode_zero {n : Int} {f : Nat → Nat} {m : Nat} : fullCode n f m = 0 ↔ quCode n f m 0 = 0 ∧ meetB f m = true := by
  unfold fullCode
  by_cases h : quCode n f m 0 = 0
  · rw [if_pos h]
    cases hq : meetB f m <;> simp [h]
  · rw [if_neg h]; simp [h]
theorem qu_small {n : Int} {f : Nat → Nat} {m s : Nat} (h : quCode n f m s = 0) : ∀ j, j < m → f j < 4294967296 := by
  obtain ⟨⟨h1, h6, _⟩, hf, _⟩ := quCode_ok h
  intro j hj
  have hp := pow_small (n := n.toNat) (by omega)
  have := (hf j hj).2
  omega
theorem disjoint_win {f : Nat → Nat} {m n s : Nat} (h6 : n ≤ 6) (hf : ∀ j, j < m → f j ≠ 0 ∧ f j < 2 ^ n) (hm : meetB f m = true) (hs : s < 2 ^ n) : ¬ (winsB f m s = true ∧ winsB f m (2 ^ n - 1 - s) = true) := by
  have hp := pow_small h6
  have h32 : ∀ j, j < m → f j < 4294967296 := fun j hj => by have := (hf j hj).2; omega
  rintro ⟨ha, hb⟩
  obtain ⟨i, hi, h1⟩ := anyTo_iff.1 ha
  obtain ⟨j, hj, h2⟩ := anyTo_iff.1 hb
  rw [sub32_iff (h32 i hi) (by omega)] at h1
  rw [sub32_iff (h32 j hj) (by omega)] at h2
  have hno : ∀ b, (f i).testBit b = true → (f j).testBit b = true → False := by
    intro b hb1 hb2
    have e1 := h1 b hb1
    have e2 := h2 b hb2
    rw [stuck_bit hs, e1] at e2
    simp at e2
  have hz : ∀ a b, a < m → b < m → (∀ c, (f a).testBit c = true → (f b).testBit c = true → False) → andZ (f a) (f b) = true := by
    intro a b ha hb h
    exact (and_zero (h32 a ha) (h32 b hb)).2 fun c hc => by
      cases hq : (f b).testBit c
      · rfl
      · exact (h c hc hq).elim
  have hpair : ∀ a b, a < m → b < a → pairBad (f a) (f b) = false := by
    intro a b ha hb
    cases hq : pairBad (f a) (f b)
    · rfl
    · rw [meetB_no ha hb hq] at hm; cases hm
  rcases Nat.lt_trichotomy i j with h | h | h
  · have := hpair j i hj h
    rw [pairBad, hz j i hj hi (fun c c1 c2 => hno c c2 c1)] at this; simp at this
  · subst h
    obtain ⟨b, hb⟩ := Nat.exists_testBit_of_ne_zero (hf i hi).1
    exact hno b hb hb
  · have := hpair i j hi h
    rw [pairBad, hz i j hi hj hno] at this; simp at this

set_option maxHeartbeats 800000 in
theorem quorumOne_bad (n : Int) (A : Option Addr) (m cap : Nat) (f : Nat → Nat) (s : Nat) (w : World) (hmc : m ≤ cap) (hm : m ≤ maxLen) (hr : Rd w w.heap.size A m (fun j => .int .u32 (f j : Nat))) (hbad : fullCode n f m ≠ 0) :
    Calls Try.prog 7 #[.int .i64 n, .slice A m cap, .int .u32 s] w fun e w' => e = .returned (.bool true) ∧ Below w.heap.size w w' := by
  have HM := Lib.hid hm; clear hm
  have HR := Lib.hid hr; clear hr
  have HMET : Hid ((quCode n f m 0 == 0 && refMeetB f m) = false) := by
    show (quCode n f m 0 == 0 && refMeetB f m) = false
    rw [← Bool.not_eq_true, Bool.and_eq_true]
    rintro ⟨h1, h2⟩
    have h1 : quCode n f m 0 = 0 := by simpa using h1
    rw [meet_ref (qu_small h1)] at h2
    exact hbad (fullCode_zero.2 ⟨h1, h2⟩)
  have hb2 : (fullCode n f m != 0) = true := by simpa using hbad
  have HG := Lib.hid hbad; clear hbad
  go_enter Try.func7, Try.ntmps7
  go_wp2_with fail
  refine (full_bad n A m cap w.heap.size f w hmc (Nat.le_refl _) HM.out HR.out HG.out).mono ?_
  rintro e w1 ⟨rfl, hb1⟩
  have HB1 := Lib.hid hb1; clear hb1
  go_wp2_with fail
  have HC := met_any n A m cap w.heap.size f w1 HB1.out.size HM.out (HR.out.below HB1.out)
  rw [HMET.out] at HC
  refine HC.mono ?_
  clear HC
  rintro e w2 ⟨rfl, hb2⟩
  have HB2 := Lib.hid (HB1.out.trans (hb2.mono HB1.out.size)); clear hb2
  go_wp2
  go_ret
  exact ⟨rfl, HB2.out⟩

set_option maxHeartbeats 1600000 in
theorem quorumOne_good (n : Nat) (A : Option Addr) (m cap : Nat) (f : Nat → Nat) (s : Nat) (w : World) (hmc : m ≤ cap) (hm : m ≤ maxLen) (hr : Rd w w.heap.size A m (fun j => .int .u32 (f j : Nat))) (hg : fullCode n f m = 0) :
    Calls Try.prog 7 #[.int .i64 n, .slice A m cap, .int .u32 s] w fun e w' => e = .returned (.bool true) ∧ Below w.heap.size w w' := by
  have HM := Lib.hid hm; clear hm
  have HR := Lib.hid hr; clear hr
  obtain ⟨hq, hmeet⟩ := fullCode_zero.1 hg
  clear hg
  have HMET : Hid ((quCode n f m 0 == 0 && refMeetB f m) = true) := by
    show (quCode n f m 0 == 0 && refMeetB f m) = true
    rw [hq, meet_ref (qu_small hq), hmeet]; rfl
  have HQ := Lib.hid hq
  have HT := Lib.hid hmeet
  obtain ⟨⟨h1, h6, h20⟩, hf, _⟩ := quCode_ok hq
  have h6' : n ≤ 6 := by omega
  have HF : Hid (∀ j, j < m → f j ≠ 0 ∧ f j < 2 ^ n) := hf
  have HZ : Hid (quSize n 0) := ⟨h1, h6, by omega⟩
  have HSZ : Hid (quSize n m) := ⟨h1, h6, h20⟩
  clear hq hf hmeet
  obtain ⟨p, hp⟩ : ∃ p : Nat, p = 2 ^ n := ⟨_, rfl⟩
  have hE : (2 : Int) ^ n = (p : Int) := by rw [hp]; simp
  have hp1 : 1 ≤ p := by rw [hp]; exact Nat.two_pow_pos n
  have hp64 : p ≤ 64 := by rw [hp]; exact pow_small h6'
  have HP := Lib.hid hp; clear hp
  by_cases hs : s < p
  · have HS : Hid (quCode n f m s = 0) := quCode_mk HSZ.out HF.out (by rw [← HP.out]; exact hs)
    have HS2 : Hid (quCode n f m (p - 1 - s) = 0) := quCode_mk HSZ.out HF.out (by rw [← HP.out]; omega)
    have HS0 : Hid (quCode n (fun _ => 0) 0 s = 0) := quCode_mk HZ.out (fun j hj => absurd hj (by omega)) (by rw [← HP.out]; exact hs)
    have HD : Hid (¬ (winsB f m s = true ∧ winsB f m (p - 1 - s) = true)) := by
      show ¬ _
      rw [HP.out]; exact disjoint_win h6' HF.out HT.out (by rw [← HP.out]; exact hs)
    have HN : Hid (loserIs f m n = false → winsB f m s = false → winsB f m (p - 1 - s) = false → False) := by
      intro hl ha hb
      have := anyTo_no.1 hl s (by rw [← HP.out]; exact hs)
      rw [loseB, ha, ← HP.out, hb] at this
      simp at this
    have HE2 : Hid ((p : Int) - 1 - s = ((p - 1 - s : Nat) : Int)) := by show (p : Int) - 1 - s = _; omega
    cases ha : winsB f m s
    all_goals cases hb : winsB f m (p - 1 - s)
    all_goals cases hl : loserIs f m n
    all_goals
      have HA := Lib.hid ha; clear ha
      have HB := Lib.hid hb; clear hb
      have HL := Lib.hid hl; clear hl
      first
        | (exfalso; exact HD.out ⟨HA.out, HB.out⟩)
        | (exfalso; exact HN.out HL.out HA.out HB.out)
        | skip
    all_goals
      go_enter Try.func7, Try.ntmps7
      go_wp2_with fail
      have HC := full_good n A m cap w.heap.size f w hmc (Nat.le_refl _) HM.out HR.out HQ.out HT.out
      rw [HL.out] at HC
      refine HC.mono ?_
      clear HC
      rintro e w1 ⟨rfl, hb1⟩
      have HB1 := Lib.hid hb1; clear hb1
      go_wp2_with fail
      have HC := met_any n A m cap w.heap.size f w1 HB1.out.size HM.out (HR.out.below HB1.out)
      rw [HMET.out] at HC
      refine HC.mono ?_
      clear HC
      rintro e w2 ⟨rfl, hb2⟩
      have HB2 := Lib.hid (HB1.out.trans (hb2.mono HB1.out.size)); clear hb2
      go_wp2_with fail
      refine (int_is (setsCheck_any n none 0 0 w.heap.size (fun _ => 0) s w2 (by unfold maxLen; omega) (Rd.zero _ _ _ _)) HS0.out).mono ?_
      rintro e w2 ⟨rfl, rfl⟩
      go_wp2_with fail
      refine (quWins_is _ n A m cap w.heap.size f s w2 HB2.out.size HM.out (HR.out.below HB2.out) HS.out HA.out).mono ?_
      rintro e w3 ⟨rfl, hb3⟩
      have HB3 := Lib.hid (HB2.out.trans (hb3.mono HB2.out.size)); clear hb3
      go_wp2_with fail
      rw [HE2.out]
      refine (quWins_is _ n A m cap w.heap.size f _ w3 HB3.out.size HM.out (HR.out.below HB3.out) HS2.out HB.out).mono ?_
      rintro e w4 ⟨rfl, hb4⟩
      have HB4 := Lib.hid (HB3.out.trans (hb4.mono HB3.out.size)); clear hb4
      go_wp2_with fail
      refine (qmeet_is true n A m cap w.heap.size f w4 hmc HB4.out.size HM.out (HR.out.below HB4.out) HQ.out HT.out).mono ?_
      rintro e w5 ⟨rfl, hb5⟩
      have HB5 := Lib.hid (HB4.out.trans (hb5.mono HB4.out.size)); clear hb5
      go_wp2
      go_ret
      exact ⟨rfl, HB5.out⟩
  · have HS0 : Hid (quCode n (fun _ => 0) 0 s = 4) := quCode_great HZ.out (by rw [← HP.out]; omega)
    go_enter Try.func7, Try.ntmps7
    go_wp2_with fail
    refine (full_good n A m cap w.heap.size f w hmc (Nat.le_refl _) HM.out HR.out HQ.out HT.out).mono ?_
    rintro e w1 ⟨rfl, hb1⟩
    have HB1 := Lib.hid hb1; clear hb1
    go_wp2_with fail
    have HC := met_any n A m cap w.heap.size f w1 HB1.out.size HM.out (HR.out.below HB1.out)
    rw [HMET.out] at HC
    refine HC.mono ?_
    clear HC
    rintro e w2 ⟨rfl, hb2⟩
    have HB2 := Lib.hid (HB1.out.trans (hb2.mono HB1.out.size)); clear hb2
    go_wp2_with fail
    refine (int_is (setsCheck_any n none 0 0 w.heap.size (fun _ => 0) s w2 (by unfold maxLen; omega) (Rd.zero _ _ _ _)) HS0.out).mono ?_
    rintro e w2 ⟨rfl, rfl⟩
    go_wp2
    go_ret
    exact ⟨rfl, HB2.out⟩
theorem quorumOne_all (n : Int) (A : Option Addr) (m cap : Nat) (f : Nat → Nat) (s : Int) (w : World) (_ : (Lit.int .i64 n).wf = true) (hmc : m ≤ cap ∧ cap ≤ maxLen) (_ : ∀ j, j < m → f j < 4294967296) (hr : Rd w w.heap.size A m (fun j => .int .u32 (f j : Nat)))
    (hs : (Lit.int .u32 s).wf = true) :
    Calls Try.prog 7 #[.int .i64 n, .slice A m cap, .int .u32 s] w fun e w' => e = .returned (.bool true) ∧ Below w.heap.size w w' := by
  obtain ⟨s, rfl, _⟩ := u32_nat hs
  have hm : m ≤ maxLen := Nat.le_trans hmc.1 hmc.2
  by_cases hc : fullCode n f m = 0
  · obtain ⟨n, rfl⟩ := Int.eq_ofNat_of_zero_le (by have := (quCode_ok (fullCode_zero.1 hc).1).1.1; omega : 0 ≤ n)
    exact quorumOne_good n A m cap f s w hmc.1 hm hr hc
  · exact quorumOne_bad n A m cap f s w hmc.1 hm hr hc
end Go.Proofs.Ytgjmnnbcclgahaa
