/- The law WaitProbe, walked. -/
import Derived.Test.YtgjmnnbcclgahaaProbe
import Derived.Test.YtgjmnnbcclgahaaPop
import Derived.Test.YtgjmnnbcclgahaaWaitMore
set_option linter.unusedVariables false
set_option linter.unusedSimpArgs false
namespace Go.Proofs.Ytgjmnnbcclgahaa
open Go.RowKit Relation

set_option maxHeartbeats 400000 in
theorem waitProbe_bad (A : Option Addr) (n cap B : Nat) (f : Nat → Nat) (i : Int) (w : World) (hm : n ≤ maxLen) (hr : Rd w B A n (fun j => .int .u32 (f j : Nat))) (hbad : waitCode f n ≠ 0) :
    Calls Try.prog 5 #[.slice A n cap, .int .i64 i] w fun e w' => e = .returned (.bool true) ∧ Below w.heap.size w w' := by
  have HR := Lib.hid hr; clear hr
  have HM := Lib.hid hm; clear hm
  have HB := Lib.hid hbad
  have hb' : (waitCode f n == 0) = false := beq_eq_false_iff_ne.2 hbad
  have hb2 : (waitCode f n != 0) = true := by simpa using hbad
  clear hbad
  go_enter Try.func5, Try.ntmps5
  go_wp2_with (first
    | (go_at_call 15; refine (probe_bad A n cap B f _ _ HM.out HR.out HB.out).mono ?_; rintro e w' ⟨rfl, rfl⟩)
    | (go_at_call 10; refine (allAll_bad A n cap B f _ HM.out HR.out HB.out).mono ?_; rintro e w' ⟨rfl, rfl⟩)
    | (go_at_call 11; refine (waited_any A n cap B f _ HM.out HR.out).mono ?_; rintro e w' ⟨rfl, rfl⟩))
  go_ret
  exact ⟨rfl, Below.refl _ _⟩

set_option maxHeartbeats 400000 in
theorem waitProbe_out (A : Option Addr) (n cap B : Nat) (f : Nat → Nat) (i : Int) (w : World) (hm : n ≤ maxLen) (hr : Rd w B A n (fun j => .int .u32 (f j : Nat))) (hgood : waitCode f n = 0) (hi : ¬ (0 ≤ i ∧ i < n)) :
    Calls Try.prog 5 #[.slice A n cap, .int .i64 i] w fun e w' => e = .returned (.bool true) ∧ Below w.heap.size w w' := by
  have HR := Lib.hid hr; clear hr
  have HM := Lib.hid hm; clear hm
  have HB := Lib.hid hgood
  have HI := Lib.hid hi; clear hi
  have HO : Hid ((decide (0 ≤ i) && decide (i < n)) = false) := Lib.hid (by
    have := HI.out
    by_cases h : 0 ≤ i
    · have : ¬ i < n := fun h2 => HI.out ⟨h, h2⟩
      simp [this]
    · simp [h])
  have hgb : (waitCode f n == 0) = true := by rw [hgood]; rfl
  clear hgood
  go_enter Try.func5, Try.ntmps5
  go_wp2_with (first
    | (go_at_call 15; refine (probe_out A n cap B f _ _ HM.out HR.out HB.out HI.out).mono ?_; rintro e w' ⟨rfl, rfl⟩)
    | (go_at_call 10; refine (allAll_any A n cap B f _ HM.out HR.out HB.out).mono ?_; rintro e w' ⟨rfl, rfl⟩)
    | (go_at_call 11; refine (waited_any A n cap B f _ HM.out HR.out).mono ?_; rintro e w' ⟨rfl, rfl⟩)
    | (go_at_call 12; refine (inside1 false _ _ _ _ _ rfl HO.out).mono ?_; rintro e w' ⟨rfl, rfl⟩))
  go_ret
  exact ⟨rfl, (Below.refl _ _).alloc (Nat.le_refl _) _⟩

set_option maxHeartbeats 800000 in
theorem waitProbe_good (A : Option Addr) (n cap B : Nat) (f : Nat → Nat) (i : Nat) (w : World) (hm : n ≤ maxLen) (hr : Rd w B A n (fun j => .int .u32 (f j : Nat))) (hB : B ≤ w.heap.size) (hgood : waitCode f n = 0) (hi : i < n) :
    Calls Try.prog 5 #[.slice A n cap, .int .i64 (i : Nat)] w fun e w' => e = .returned (.bool true) ∧ Below w.heap.size w w' := by
  have HR := Lib.hid (hr.more hB); clear hr
  have HM := Lib.hid hm; clear hm
  have HB := Lib.hid hgood
  obtain ⟨h1, h6⟩ := waitCode_ok hgood
  have HF := Lib.hid (waitCode_lt hgood)
  have hgb : (waitCode f n == 0) = true := by rw [hgood]; rfl
  clear hgood
  obtain ⟨a, ha⟩ : ∃ a, stuckAll f n = a := ⟨_, rfl⟩
  have HSA := Lib.hid (stuck_way h6 HF.out)
  rw [ha] at HSA
  have HAL := Lib.hid (allAll_any A n cap w.heap.size f)
  rw [ha] at HAL
  have HAW := Lib.hid fun h => way_stuck h6 HF.out hi h
  rw [ha] at HAW
  have HLA := Lib.hid (ha ▸ small_of h6 (stuckAll_lt f n))
  clear ha
  have HO : Hid ((decide (0 ≤ (i : Int)) && decide ((i : Int) < n)) = true) := Lib.hid (by simp; omega)
  go_enter Try.func5, Try.ntmps5
  go_wp2_with fail
  refine (probe_good A n cap _ f i _ HM.out HR.out (Nat.le_refl _) HB.out hi).mono ?_
  rintro e w1 ⟨v, rfl, is, k, rfl, hk, hb1⟩
  have HB1 := Lib.hid hb1
  have HK := Lib.hid hk
  clear hb1 hk
  have hz1 := HB1.out.size
  go_wp2_with (first
    | (go_at_call 10; refine (HAL.out _ HM.out (HR.out.below HB1.out) HB.out).mono ?_; rintro e w' ⟨rfl, rfl⟩)
    | (go_at_call 11; refine (waited_any A n cap _ f _ HM.out (HR.out.below HB1.out)).mono ?_; rintro e w' ⟨rfl, rfl⟩)
    | (go_at_call 12; refine (inside1 true _ _ _ _ _ rfl HO.out).mono ?_; rintro e w' ⟨rfl, rfl⟩))
  have HB2 := Lib.hid (HB1.out.alloc hz1 (.cells #[.int .i64 (i : Nat)] 3))
  go_loopw [10, 11] (fun s j wr => ∃ (t : Nat), j = .int .i64 (t : Nat) ∧ t ≤ n ∧ Hid (∃ b : Bool, s = .bool b ∧ (b = true ↔ ∃ x, x < t ∧ TransGen (Edge f) x x)) ∧ Hid (Below w.heap.size w wr)) (fun _ j _ => n - (intOf j).toNat)
  case atStart => exact ⟨0, rfl, by omega, Lib.hid ⟨false, rfl, by simp⟩, HB2⟩
  case round =>
    clear HB2 HB1 hz1
    obtain ⟨t, rfl, ht, HS, HBR⟩ := hrel
    obtain ⟨b, rfl, hs⟩ := HS.out
    have HSS := Lib.hid hs
    clear hs HS
    have hz := HBR.out.size
    by_cases htn : t < n
    · go_wp2_with fail
      refine (probe_good A n cap _ f t _ HM.out (HR.out.below HBR.out) hz HB.out htn).mono ?_
      rintro e w2 ⟨v, rfl, bk, k2, rfl, hk2, hb2⟩
      have HB3 := Lib.hid (HBR.out.trans (hb2.mono hz))
      have HK2 := Lib.hid hk2.1
      clear hb2 hk2
      have HN : Hid ((b || bk) = true ↔ ∃ x, x < t + 1 ∧ TransGen (Edge f) x x) := Lib.hid (by
        rw [Bool.or_eq_true, HSS.out, HK2.out]
        constructor
        · rintro (⟨x, h, h2⟩ | h)
          · exact ⟨x, by omega, h2⟩
          · exact ⟨t, by omega, h⟩
        · rintro ⟨x, h, h2⟩
          rcases Nat.lt_succ_iff_lt_or_eq.1 h with h | rfl
          · exact .inl ⟨x, h, h2⟩
          · exact .inr h2)
      clear HSS
      cases b <;> cases bk
      all_goals
        go_wp2
        go_roundw
        case rel => exact ⟨t + 1, by go_num, by omega, Lib.hid ⟨_, rfl, HN.out⟩, HB3⟩
        case measure => simp [intOf]; omega
    · obtain rfl : t = n := by omega
      obtain ⟨hk1, hk2, hk3⟩ := HK.out
      have hkn : k ≤ 36 := Nat.le_trans hk3 (Nat.mul_le_mul h6 h6)
      have hnn : (t : Int) * t = ((t * t : Nat) : Int) := by simp
      obtain ⟨q, hq⟩ : ∃ q, t * t = q := ⟨_, rfl⟩
      have hq6 : q ≤ 36 := by rw [← hq]; exact Nat.mul_le_mul h6 h6
      rw [hq] at hnn hk3
      obtain ⟨ad, rfl, _, hc⟩ := (HR.out.below HBR.out) (by omega)
      have hfi := hc i hi
      have HFI := Lib.hid (small_of h6 (HF.out i hi))
      have hpk : (pop (f i) : Int) ≤ k := by omega
      have hsa : b = (a != 0) := by
        rw [Bool.eq_iff_iff, HSS.out, ← HSA.out]; simp
      have hai : ((a : Int) != 0) = (a != 0) := by
        rw [Bool.eq_iff_iff]; simp
      have HAW2 : Hid (is = true → a.testBit i = true) := Lib.hid fun h => HAW.out (hk1.1 h)
      clear hk1 hc HSS HSA HK
      cases h0 : (a != 0)
      all_goals
        rw [h0] at hsa hai
        subst hsa
        cases is
        · go_wp2_with (first
            | (go_at_call 16; refine (size_any _ _ HFI.out).mono ?_; rintro e w' ⟨rfl, rfl⟩))
          go_ret
          exact ⟨ret_bool (by simp; first | done | omega), HBR.out⟩
        · go_wp2_with (first
            | (go_at_call 13; refine (bit_is true _ _ _ HLA.out ((bitB_nat _ _).trans (HAW2.out rfl))).mono ?_; rintro e w' ⟨rfl, rfl⟩)
            | (go_at_call 16; refine (size_any _ _ HFI.out).mono ?_; rintro e w' ⟨rfl, rfl⟩))
          go_ret
          exact ⟨ret_bool (by simp; first | done | omega), HBR.out⟩
theorem waitProbe_all (A : Option Addr) (n cap : Nat) (f : Nat → Nat) (i : Int) (w : World) (hmc : n ≤ cap ∧ cap ≤ maxLen) (_ : ∀ j, j < n → f j < 4294967296) (hr : Rd w w.heap.size A n (fun j => .int .u32 (f j : Nat))) (_ : (Lit.int .i64 i).wf = true) :
    Calls Try.prog 5 #[.slice A n cap, .int .i64 i] w fun e w' => e = .returned (.bool true) ∧ Below w.heap.size w w' := by
  have hm := Nat.le_trans hmc.1 hmc.2
  by_cases hc : waitCode f n = 0
  · by_cases hi : 0 ≤ i ∧ i < n
    · obtain ⟨i', rfl⟩ := Int.eq_ofNat_of_zero_le hi.1
      exact waitProbe_good A n cap _ f i' w hm hr (Nat.le_refl _) hc (by omega)
    · exact waitProbe_out A n cap _ f i w hm hr hc hi
  · exact waitProbe_bad A n cap _ f i w hm hr hc
end Go.Proofs.Ytgjmnnbcclgahaa
