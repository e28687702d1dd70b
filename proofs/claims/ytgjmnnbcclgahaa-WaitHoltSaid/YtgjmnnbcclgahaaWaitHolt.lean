/- The law WaitHolt, walked. -/
import Derived.Test.YtgjmnnbcclgahaaWaitFix
import Derived.Test.YtgjmnnbcclgahaaBit
namespace Go.Proofs.Ytgjmnnbcclgahaa
open Go.RowKit

set_option maxHeartbeats 400000 in
theorem waitHolt_bad (A : Option Addr) (n cap B : Nat) (f : Nat → Nat) (w : World) (hm : n ≤ maxLen) (hr : Rd w B A n (fun j => .int .u32 (f j : Nat))) (hbad : waitCode f n ≠ 0) :
    Calls Try.prog 4 #[.slice A n cap] w fun e w' => e = .returned (.bool true) ∧ w = w' := by
  have HR := Lib.hid hr; clear hr
  have HM := Lib.hid hm; clear hm
  have HB := Lib.hid hbad
  have hb' : (waitCode f n == 0) = false := beq_eq_false_iff_ne.2 hbad
  have hb2 : (waitCode f n != 0) = true := by simpa using hbad
  clear hbad
  go_enter Try.func4, Try.ntmps4
  go_wp2_with (first | (go_at_call 10; refine (allAll_bad A n cap B f _ HM.out HR.out HB.out).mono ?_; rintro e w' ⟨rfl, rfl⟩) | (go_at_call 14; refine (allAny_bad A n cap B f _ HM.out HR.out HB.out).mono ?_; rintro e w' ⟨rfl, rfl⟩) | (go_at_call 11; refine (waited_any A n cap B f _ HM.out HR.out).mono ?_; rintro e w' ⟨rfl, rfl⟩))
  go_ret
  exact ⟨rfl, rfl⟩

theorem any_all_law {f : Nat → Nat} {n : Nat} (h6 : n ≤ 6) (h : ∀ k, k < n → f k < 2 ^ n) : (bits .andNot .u32 (stuckAny f n : Int) (stuckAll f n : Int) != 0) = false := by
  have := (andNot_zero (small_of h6 (stuckAny_lt f n)) (small_of h6 (stuckAll_lt f n))).2 (any_sub_all h6 h)
  simpa [bne] using this

theorem holt_and {f : Nat → Nat} {n k : Nat} (h6 : n ≤ 6) (h : ∀ k, k < n → f k < 2 ^ n) (hk : k < n) : (bits .and .u32 (f k : Int) (stuckAll f n : Int) != 0) = (stuckAll f n).testBit k := by
  rw [Bool.eq_iff_iff, stuckAll_iff h6 h hk]
  exact goAny_iff (small_of h6 (h k hk)) (small_of h6 (stuckAll_lt f n))
theorem holt_all {f : Nat → Nat} {n k : Nat} (h6 : n ≤ 6) (h : ∀ k, k < n → f k < 2 ^ n) (hk : k < n) (h0 : f k = 0) : (stuckAll f n).testBit k = false := by
  rw [← Bool.not_eq_true, stuckAll_iff h6 h hk, h0]
  simp
theorem holt_any {f : Nat → Nat} {n k : Nat} (h6 : n ≤ 6) (h : ∀ k, k < n → f k < 2 ^ n) (hk : k < n) :
    ∃ X, (stuckAny f n).testBit k = X ∧ ((((f k : Int) != 0) = false ∧ X = false) ∨ (((f k : Int) != 0) = true ∧ (bits .andNot .u32 (f k : Int) (stuckAny f n : Int) == 0) = X)) := by
  refine ⟨_, rfl, ?_⟩
  have hi := stuckAny_iff h6 h hk
  by_cases h0 : f k = 0
  · refine .inl ⟨by simp [h0], ?_⟩
    rw [← Bool.not_eq_true, hi]
    exact fun hh => hh.1 h0
  · refine .inr ⟨by simpa using h0, ?_⟩
    rw [Bool.eq_iff_iff, hi, andNot_zero (small_of h6 (h k hk)) (small_of h6 (stuckAny_lt f n))]
    exact ⟨fun hh => ⟨h0, hh⟩, fun hh => hh.2⟩

set_option maxHeartbeats 800000 in
theorem waitHolt_good (A : Option Addr) (n cap B : Nat) (f : Nat → Nat) (w : World) (hm : n ≤ maxLen) (hr : Rd w B A n (fun j => .int .u32 (f j : Nat))) (hgood : waitCode f n = 0) :
    Calls Try.prog 4 #[.slice A n cap] w fun e w' => e = .returned (.bool true) ∧ w = w' := by
  have HR := Lib.hid hr; clear hr
  have HM := Lib.hid hm; clear hm
  have HB := Lib.hid hgood
  obtain ⟨h1, h6⟩ := waitCode_ok hgood
  have HF := Lib.hid (waitCode_lt hgood)
  have hlaw := any_all_law h6 HF.out
  go_enter Try.func4, Try.ntmps4
  go_wp2_with (first | (go_at_call 10; refine (allAll_any A n cap B f _ HM.out HR.out HB.out).mono ?_; rintro e w' ⟨rfl, rfl⟩) | (go_at_call 14; refine (allAny_any A n cap B f _ HM.out HR.out HB.out).mono ?_; rintro e w' ⟨rfl, rfl⟩) | (go_at_call 11; refine (waited_any A n cap B f _ HM.out HR.out).mono ?_; rintro e w' ⟨rfl, rfl⟩))
  obtain ⟨ad, rfl, _, hc⟩ := HR.out (by omega)
  have HC := Lib.hid hc; clear hc HR HB hgood hlaw
  have hm' := HM.out
  unfold maxLen at hm'
  go_loop [42] (fun i => ∃ k : Nat, k ≤ n ∧ i = .int .i64 k) (fun i => n - (intOf i).toNat)
  case atStart => exact ⟨0, by omega, rfl⟩
  case round =>
    obtain ⟨k, hk, rfl⟩ := hrel
    by_cases hlt : k < n
    · have hck := HC.out k hlt
      have HA := Lib.hid (holt_all h6 HF.out hlt)
      have hY := holt_and h6 HF.out hlt
      have HLA := Lib.hid (small_of h6 (stuckAll_lt f n))
      have HLB := Lib.hid (small_of h6 (stuckAny_lt f n))
      obtain ⟨X, HX, hX⟩ := holt_any h6 HF.out hlt
      cases hq : (stuckAll f n).testBit k
      all_goals
        rw [hq] at hY
        have HQ := Lib.hid hq; clear hq
        rcases hX with ⟨h0, rfl⟩ | ⟨h0, hX⟩
        · first
            | (exfalso; have := HA.out (by simpa using h0); rw [HQ.out] at this; cases this; done)
            | (go_wp2_with fail
               refine (bit_is false _ _ _ HLB.out ((bitB_nat _ _).trans HX)).mono ?_
               rintro e w' ⟨rfl, rfl⟩
               go_wp2_with fail
               refine (bit_is _ _ _ _ HLA.out ((bitB_nat _ _).trans HQ.out)).mono ?_
               rintro e w' ⟨rfl, rfl⟩
               go_wp2
               go_round
               case rel => exact ⟨k + 1, by omega, by go_num⟩
               case measure => simp [intOf]; omega)
        · cases X
          all_goals
            go_wp2_with fail
            refine (bit_is _ _ _ _ HLB.out ((bitB_nat _ _).trans HX)).mono ?_
            rintro e w' ⟨rfl, rfl⟩
            go_wp2_with fail
            refine (bit_is _ _ _ _ HLA.out ((bitB_nat _ _).trans HQ.out)).mono ?_
            rintro e w' ⟨rfl, rfl⟩
            go_wp2
            go_round
            case rel => exact ⟨k + 1, by omega, by go_num⟩
            case measure => simp [intOf]; omega
    · go_wp2
      go_ret
      exact ⟨rfl, rfl⟩
theorem waitHolt_all (A : Option Addr) (n cap : Nat) (f : Nat → Nat) (w : World) (hm : n ≤ maxLen) (_ : ∀ j, j < n → f j < 4294967296) (hr : Rd w w.heap.size A n (fun j => .int .u32 (f j : Nat))) :
    Calls Try.prog 4 #[.slice A n cap] w fun e w' => e = .returned (.bool true) ∧ Below w.heap.size w w' := by
  by_cases hc : waitCode f n = 0
  · exact (waitHolt_good A n cap _ f w hm hr hc).mono fun e w' ⟨he, hw⟩ => ⟨he, hw ▸ Below.refl _ _⟩
  · exact (waitHolt_bad A n cap _ f w hm hr hc).mono fun e w' ⟨he, hw⟩ => ⟨he, hw ▸ Below.refl _ _⟩
end Go.Proofs.Ytgjmnnbcclgahaa
