/- The walks of wait.stuck, All, Any. -/
import Derived.Test.YtgjmnnbcclgahaaWait1
import Derived.Test.YtgjmnnbcclgahaaBits
set_option linter.unusedVariables false
set_option linter.unusedSimpArgs false
namespace Go.Proofs.Ytgjmnnbcclgahaa
open Go.RowKit

/-- One round over the first m waits. -/
def inner (g : Nat → Nat → Bool) (f : Nat → Nat) : Nat → Nat → Nat
  | 0, free => free
  | m + 1, free => if f m == 0 || g (f m) (inner g f m free) then inner g f m free ||| 2 ^ m else inner g f m free
def outer (g : Nat → Nat → Bool) (f : Nat → Nat) (n : Nat) : Nat → Nat
  | 0 => 0
  | r + 1 => inner g f n (outer g f n r)

theorem inner_step (g : Nat → Nat → Bool) (f : Nat → Nat) (m s : Nat) : inner g f (m + 1) s = if f m == 0 || g (f m) (inner g f m s) then inner g f m s ||| 2 ^ m else inner g f m s := rfl
theorem waitCode_ok {f : Nat → Nat} {n : Nat} (h : waitCode f n = 0) : 1 ≤ n ∧ n ≤ 6 := by
  by_cases hn : 1 ≤ n ∧ n ≤ 6
  · exact hn
  · rw [waitCode_size hn] at h; cases h
def goAll (w free : Nat) : Bool := bits .andNot .u32 (w : Int) (free : Int) == 0
def goAny (w free : Nat) : Bool := bits .and .u32 (w : Int) (free : Int) != 0

set_option maxHeartbeats 400000 in
theorem goAll_any (a b : Nat) (w : World) : Calls Try.prog 25 #[.int .u32 a, .int .u32 b] w fun e w' => e = .returned (.bool (goAll a b)) ∧ w = w' := by
  go_enter Try.func25, Try.ntmps25
  go_wp2
  go_ret
  exact ⟨rfl, rfl⟩
set_option maxHeartbeats 400000 in
theorem goAny_any (a b : Nat) (w : World) : Calls Try.prog 27 #[.int .u32 a, .int .u32 b] w fun e w' => e = .returned (.bool (goAny a b)) ∧ w = w' := by
  go_enter Try.func27, Try.ntmps27
  go_wp2
  go_ret
  exact ⟨rfl, rfl⟩

theorem inner_lt (g : Nat → Nat → Bool) (f : Nat → Nat) {m n s : Nat} (hm : m ≤ n) (hs : s < 2 ^ n) : inner g f m s < 2 ^ n := by
  induction m with
  | zero => exact hs
  | succ m ih =>
    rw [inner]
    split
    · exact or_lt (ih (by omega)) (by omega)
    · exact ih (by omega)
theorem outer_lt (g : Nat → Nat → Bool) (f : Nat → Nat) (n r : Nat) : outer g f n r < 2 ^ n := by
  induction r with
  | zero => exact Nat.two_pow_pos n
  | succ r ih => exact inner_lt g f (Nat.le_refl _) ih
theorem pow_small {n : Nat} (h : n ≤ 6) : 2 ^ n ≤ 64 := (two_pow_small h).2
theorem stuck_val {n a : Nat} (h6 : n ≤ 6) (ha : a < 2 ^ n) : ((2 : Int) ^ n - 1 - a) % 4294967296 = ((2 ^ n - 1 - a : Nat) : Int) ∧ (2 ^ n - 1 - a : Nat) < 64 := by
  have h := two_pow_small h6
  have e : ((2 : Int) ^ n) = ((2 ^ n : Nat) : Int) := by simp
  rw [e]
  have h2 := h.2
  generalize 2 ^ n = p at h2 ha ⊢
  omega

set_option maxHeartbeats 400000 in
theorem stuckAll_any (A : Option Addr) (n cap B : Nat) (f : Nat → Nat) (w : World) (hm : n ≤ maxLen) (hr : Rd w B A n (fun j => .int .u32 (f j : Nat))) (hgood : waitCode f n = 0) :
    Calls Try.prog 24 #[.slice A n cap, .func (.func 25) #[] #[]] w fun e w' => e = .returned (.tuple #[.int .u32 ((2 ^ n - 1 - outer goAll f n n : Nat)), .int .i64 0]) ∧ w = w' := by
  have hm' := hm
  unfold maxLen at hm'
  have HR := Lib.hid hr; clear hr
  have HM := Lib.hid hm; clear hm
  go_enter Try.func24, Try.ntmps24
  go_wp2_with (go_at_call 28; refine (waitWrong_any A n cap B f _ HM.out HR.out).mono ?_; rintro e w' ⟨rfl, rfl⟩)
  have h1 : 1 ≤ n ∧ n ≤ 6 := waitCode_ok hgood
  obtain ⟨h1, h6⟩ := h1
  obtain ⟨ad, rfl, hbl, hc⟩ := HR.out (by omega)
  have HC := Lib.hid hc; clear hc HR HM hm' hbl
  go_loop [7, 17] (fun fr i => ∃ r : Nat, r ≤ n ∧ i = .int .i64 r ∧ fr = .int .u32 (outer goAll f n r)) (fun _ i => n - (intOf i).toNat)
  case atStart => exact ⟨0, by omega, rfl, rfl⟩
  case round =>
    obtain ⟨r, hr, rfl, rfl⟩ := hrel
    by_cases hlt : r < n
    · go_wp2
      go_loop [7, 21] (fun fr i => ∃ m : Nat, m ≤ n ∧ i = .int .i64 m ∧ fr = .int .u32 (inner goAll f m (outer goAll f n r))) (fun _ i => n - (intOf i).toNat)
      case atStart => exact ⟨0, by omega, rfl, rfl⟩
      case round =>
        obtain ⟨m, hm, rfl, rfl⟩ := hrel
        have HN := Lib.hid (inner_step goAll f m (outer goAll f n r))
        have HL := Lib.hid (inner_lt goAll f hm (outer_lt goAll f n r))
        by_cases hlm : m < n
        · have hcm := HC.out m hlm
          have HO := Lib.hid (or_pow (a := inner goAll f m (outer goAll f n r)) (m := m) (by have := HL.out; have := pow_small h6; omega) (by omega))
          by_cases h0 : f m = 0
          · have h0' : ((f m : Int) == 0) = true := by simp [h0]
            have H0 := Lib.hid h0; clear h0
            go_wp2
            go_round
            case rel => exact ⟨m + 1, by omega, by go_num, by rw [HN.out, HO.out, if_pos (by simp [H0.out])]⟩
            case measure => simp [intOf]; omega
          · have h0' : ((f m : Int) == 0) = false := by simp [h0]
            have H0 := Lib.hid h0; clear h0
            cases hq : goAll (f m) (inner goAll f m (outer goAll f n r))
            all_goals
              go_wp2_with (go_at_call 25; refine (goAll_any _ _ _).mono ?_; rintro e w' ⟨rfl, rfl⟩)
              go_round
              case rel => exact ⟨m + 1, by omega, by go_num, by rw [HN.out]; first | rw [HO.out, if_pos (by simp [hq])] | rw [if_neg (by simp [hq]; simpa using H0.out)]⟩
              case measure => simp [intOf]; omega
        · obtain rfl : m = n := by omega
          go_wp2
          go_round
          case rel => exact ⟨r + 1, by omega, by go_num, rfl⟩
          case measure => simp [intOf]; omega
    · obtain rfl : r = n := by omega
      have HV := Lib.hid (stuck_val h6 (outer_lt goAll f r r))
      go_wp2
      go_ret2
      exact ⟨ret_ints HV.out.1 rfl, rfl⟩

set_option maxHeartbeats 400000 in
theorem stuckAll_bad (A : Option Addr) (n cap B : Nat) (f : Nat → Nat) (w : World) (hm : n ≤ maxLen) (hr : Rd w B A n (fun j => .int .u32 (f j : Nat))) (hbad : waitCode f n ≠ 0) :
    Calls Try.prog 24 #[.slice A n cap, .func (.func 25) #[] #[]] w fun e w' => e = .returned (.tuple #[.int .u32 0, .int .i64 (waitCode f n)]) ∧ w = w' := by
  have HR := Lib.hid hr; clear hr
  have HM := Lib.hid hm; clear hm
  have hb' : (waitCode f n == 0) = false := beq_eq_false_iff_ne.2 hbad
  clear hbad
  go_enter Try.func24, Try.ntmps24
  go_wp2_with (go_at_call 28; refine (waitWrong_any A n cap B f _ HM.out HR.out).mono ?_; rintro e w' ⟨rfl, rfl⟩)
  go_ret2
  exact ⟨rfl, rfl⟩
def stuckAll (f : Nat → Nat) (n : Nat) : Nat := 2 ^ n - 1 - outer goAll f n n
set_option maxHeartbeats 400000 in
theorem allAll_any (A : Option Addr) (n cap B : Nat) (f : Nat → Nat) (w : World) (hm : n ≤ maxLen) (hr : Rd w B A n (fun j => .int .u32 (f j : Nat))) (hgood : waitCode f n = 0) :
    Calls Try.prog 10 #[.slice A n cap] w fun e w' => e = .returned (.tuple #[.int .u32 (stuckAll f n : Nat), .int .i64 0]) ∧ w = w' := by
  have HR := Lib.hid hr; clear hr
  have HM := Lib.hid hm; clear hm
  have HG := Lib.hid hgood; clear hgood
  go_enter Try.func10, Try.ntmps10
  go_wp2_with (go_at_call 24; refine (stuckAll_any A n cap B f _ HM.out HR.out HG.out).mono ?_; rintro e w' ⟨rfl, rfl⟩)
  go_ret2
  exact ⟨rfl, rfl⟩
set_option maxHeartbeats 400000 in
theorem allAll_bad (A : Option Addr) (n cap B : Nat) (f : Nat → Nat) (w : World) (hm : n ≤ maxLen) (hr : Rd w B A n (fun j => .int .u32 (f j : Nat))) (hbad : waitCode f n ≠ 0) :
    Calls Try.prog 10 #[.slice A n cap] w fun e w' => e = .returned (.tuple #[.int .u32 0, .int .i64 (waitCode f n)]) ∧ w = w' := by
  have HR := Lib.hid hr; clear hr
  have HM := Lib.hid hm; clear hm
  have HG := Lib.hid hbad; clear hbad
  go_enter Try.func10, Try.ntmps10
  go_wp2_with (go_at_call 24; refine (stuckAll_bad A n cap B f _ HM.out HR.out HG.out).mono ?_; rintro e w' ⟨rfl, rfl⟩)
  go_ret2
  exact ⟨rfl, rfl⟩
set_option maxHeartbeats 400000 in
theorem stuckAny_any (A : Option Addr) (n cap B : Nat) (f : Nat → Nat) (w : World) (hm : n ≤ maxLen) (hr : Rd w B A n (fun j => .int .u32 (f j : Nat))) (hgood : waitCode f n = 0) :
    Calls Try.prog 24 #[.slice A n cap, .func (.func 27) #[] #[]] w fun e w' => e = .returned (.tuple #[.int .u32 ((2 ^ n - 1 - outer goAny f n n : Nat)), .int .i64 0]) ∧ w = w' := by
  have hm' := hm
  unfold maxLen at hm'
  have HR := Lib.hid hr; clear hr
  have HM := Lib.hid hm; clear hm
  go_enter Try.func24, Try.ntmps24
  go_wp2_with (go_at_call 28; refine (waitWrong_any A n cap B f _ HM.out HR.out).mono ?_; rintro e w' ⟨rfl, rfl⟩)
  have h1 : 1 ≤ n ∧ n ≤ 6 := waitCode_ok hgood
  obtain ⟨h1, h6⟩ := h1
  obtain ⟨ad, rfl, hbl, hc⟩ := HR.out (by omega)
  have HC := Lib.hid hc; clear hc HR HM hm' hbl
  go_loop [7, 17] (fun fr i => ∃ r : Nat, r ≤ n ∧ i = .int .i64 r ∧ fr = .int .u32 (outer goAny f n r)) (fun _ i => n - (intOf i).toNat)
  case atStart => exact ⟨0, by omega, rfl, rfl⟩
  case round =>
    obtain ⟨r, hr, rfl, rfl⟩ := hrel
    by_cases hlt : r < n
    · go_wp2
      go_loop [7, 21] (fun fr i => ∃ m : Nat, m ≤ n ∧ i = .int .i64 m ∧ fr = .int .u32 (inner goAny f m (outer goAny f n r))) (fun _ i => n - (intOf i).toNat)
      case atStart => exact ⟨0, by omega, rfl, rfl⟩
      case round =>
        obtain ⟨m, hm, rfl, rfl⟩ := hrel
        have HN := Lib.hid (inner_step goAny f m (outer goAny f n r))
        have HL := Lib.hid (inner_lt goAny f hm (outer_lt goAny f n r))
        by_cases hlm : m < n
        · have hcm := HC.out m hlm
          have HO := Lib.hid (or_pow (a := inner goAny f m (outer goAny f n r)) (m := m) (by have := HL.out; have := pow_small h6; omega) (by omega))
          by_cases h0 : f m = 0
          · have h0' : ((f m : Int) == 0) = true := by simp [h0]
            have H0 := Lib.hid h0; clear h0
            go_wp2
            go_round
            case rel => exact ⟨m + 1, by omega, by go_num, by rw [HN.out, HO.out, if_pos (by simp [H0.out])]⟩
            case measure => simp [intOf]; omega
          · have h0' : ((f m : Int) == 0) = false := by simp [h0]
            have H0 := Lib.hid h0; clear h0
            cases hq : goAny (f m) (inner goAny f m (outer goAny f n r))
            all_goals
              go_wp2_with (go_at_call 27; refine (goAny_any _ _ _).mono ?_; rintro e w' ⟨rfl, rfl⟩)
              go_round
              case rel => exact ⟨m + 1, by omega, by go_num, by rw [HN.out]; first | rw [HO.out, if_pos (by simp [hq])] | rw [if_neg (by simp [hq]; simpa using H0.out)]⟩
              case measure => simp [intOf]; omega
        · obtain rfl : m = n := by omega
          go_wp2
          go_round
          case rel => exact ⟨r + 1, by omega, by go_num, rfl⟩
          case measure => simp [intOf]; omega
    · obtain rfl : r = n := by omega
      have HV := Lib.hid (stuck_val h6 (outer_lt goAny f r r))
      go_wp2
      go_ret2
      exact ⟨ret_ints HV.out.1 rfl, rfl⟩

set_option maxHeartbeats 400000 in
theorem stuckAny_bad (A : Option Addr) (n cap B : Nat) (f : Nat → Nat) (w : World) (hm : n ≤ maxLen) (hr : Rd w B A n (fun j => .int .u32 (f j : Nat))) (hbad : waitCode f n ≠ 0) :
    Calls Try.prog 24 #[.slice A n cap, .func (.func 27) #[] #[]] w fun e w' => e = .returned (.tuple #[.int .u32 0, .int .i64 (waitCode f n)]) ∧ w = w' := by
  have HR := Lib.hid hr; clear hr
  have HM := Lib.hid hm; clear hm
  have hb' : (waitCode f n == 0) = false := beq_eq_false_iff_ne.2 hbad
  clear hbad
  go_enter Try.func24, Try.ntmps24
  go_wp2_with (go_at_call 28; refine (waitWrong_any A n cap B f _ HM.out HR.out).mono ?_; rintro e w' ⟨rfl, rfl⟩)
  go_ret2
  exact ⟨rfl, rfl⟩
def stuckAny (f : Nat → Nat) (n : Nat) : Nat := 2 ^ n - 1 - outer goAny f n n
set_option maxHeartbeats 400000 in
theorem allAny_any (A : Option Addr) (n cap B : Nat) (f : Nat → Nat) (w : World) (hm : n ≤ maxLen) (hr : Rd w B A n (fun j => .int .u32 (f j : Nat))) (hgood : waitCode f n = 0) :
    Calls Try.prog 14 #[.slice A n cap] w fun e w' => e = .returned (.tuple #[.int .u32 (stuckAny f n : Nat), .int .i64 0]) ∧ w = w' := by
  have HR := Lib.hid hr; clear hr
  have HM := Lib.hid hm; clear hm
  have HG := Lib.hid hgood; clear hgood
  go_enter Try.func14, Try.ntmps14
  go_wp2_with (go_at_call 24; refine (stuckAny_any A n cap B f _ HM.out HR.out HG.out).mono ?_; rintro e w' ⟨rfl, rfl⟩)
  go_ret2
  exact ⟨rfl, rfl⟩
set_option maxHeartbeats 400000 in
theorem allAny_bad (A : Option Addr) (n cap B : Nat) (f : Nat → Nat) (w : World) (hm : n ≤ maxLen) (hr : Rd w B A n (fun j => .int .u32 (f j : Nat))) (hbad : waitCode f n ≠ 0) :
    Calls Try.prog 14 #[.slice A n cap] w fun e w' => e = .returned (.tuple #[.int .u32 0, .int .i64 (waitCode f n)]) ∧ w = w' := by
  have HR := Lib.hid hr; clear hr
  have HM := Lib.hid hm; clear hm
  have HG := Lib.hid hbad; clear hbad
  go_enter Try.func14, Try.ntmps14
  go_wp2_with (go_at_call 24; refine (stuckAny_bad A n cap B f _ HM.out HR.out HG.out).mono ?_; rintro e w' ⟨rfl, rfl⟩)
  go_ret2
  exact ⟨rfl, rfl⟩
set_option maxHeartbeats 400000 in
theorem waited_any (A : Option Addr) (n cap B : Nat) (f : Nat → Nat) (w : World) (hm : n ≤ maxLen) (hr : Rd w B A n (fun j => .int .u32 (f j : Nat))) :
    Calls Try.prog 11 #[.slice A n cap] w fun e w' => e = .returned (.bool (waitCode f n == 0)) ∧ w = w' := by
  have HR := Lib.hid hr; clear hr
  have HM := Lib.hid hm; clear hm
  go_enter Try.func11, Try.ntmps11
  go_wp2_with (go_at_call 26; refine (waitCheck_any A n cap B f _ HM.out HR.out).mono ?_; rintro e w' ⟨rfl, rfl⟩)
  go_ret
  exact ⟨rfl, rfl⟩
end Go.Proofs.Ytgjmnnbcclgahaa
