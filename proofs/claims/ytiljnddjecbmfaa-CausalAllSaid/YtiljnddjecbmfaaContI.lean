/- The walks of slices.Index and slices.Contains at []int. -/
import Derived.Test.YtiljnddjecbmfaaOwn
set_option linter.unusedVariables false
set_option linter.unusedSimpArgs false
namespace Go.Proofs.Ytiljnddjecbmfaa
open Go.RowKit

def IdxOk (b : Bool) (k : Int) : Prop := if b then 0 ≤ k else k = -1
set_option maxHeartbeats 400000 in
theorem indexI_any (A : Option Addr) (n cap B : Nat) (f : Nat → Int) (x : Int) (w : World) (hm : n ≤ maxLen) (hr : Rd w B A n (fun j => .int .i64 (f j))) :
    Calls Try.prog 21 #[.slice A n cap, .int .i64 x] w fun e w' => ∃ k : Int, e = .returned (.int .i64 k) ∧ IdxOk (anyTo (fun j => x == f j) n) k ∧ w = w' := by
  unfold maxLen at hm
  have HR := Lib.hid hr; clear hr
  go_enter Try.func21, Try.ntmps21
  go_wp2
  go_loop [8] (fun i => ∃ k : Nat, k ≤ n ∧ i = .int .i64 k ∧ Hid (∀ j, j < k → (x == f j) = false)) (fun i => n - (intOf i).toNat)
  case atStart => exact ⟨0, by omega, rfl, fun j hj => absurd hj (by omega)⟩
  case round =>
    obtain ⟨k, hk, rfl, HA⟩ := hrel
    by_cases hlt : k < n
    · obtain ⟨ad, rfl, _, hc⟩ := HR.out (by omega)
      have hck := hc k hlt
      clear hc
      cases he : (x == f k)
      · have HE := Lib.hid he
        go_wp2
        go_round
        case rel => exact ⟨k + 1, by omega, by go_num, fun j hj => (Nat.lt_succ_iff_lt_or_eq.1 hj).elim (HA.out j) (fun e => by subst e; exact HE.out)⟩
        case measure => simp [intOf]; omega
      · have HE : Hid (anyTo (fun j => x == f j) n = true) := anyTo_iff.2 ⟨k, hlt, he⟩
        go_wp2
        go_ret
        exact ⟨_, rfl, by rw [IdxOk, if_pos HE.out]; omega, rfl⟩
    · obtain rfl : k = n := by omega
      have HE : Hid (anyTo (fun j => x == f j) k = false) := anyTo_no.2 HA.out
      go_wp2
      go_ret
      exact ⟨_, rfl, by rw [HE.out, IdxOk, if_neg (by simp)], rfl⟩
set_option maxHeartbeats 400000 in
theorem contI_any (A : Option Addr) (n cap B : Nat) (f : Nat → Int) (x : Int) (w : World) (hm : n ≤ maxLen) (hr : Rd w B A n (fun j => .int .i64 (f j))) :
    Calls Try.prog 19 #[.slice A n cap, .int .i64 x] w fun e w' => e = .returned (.bool (anyTo (fun j => x == f j) n)) ∧ w = w' := by
  have HR := Lib.hid hr; clear hr
  have HM := Lib.hid hm; clear hm
  cases hb : anyTo (fun j => x == f j) n
  all_goals
    have HB := Lib.hid hb
    clear hb
    go_enter Try.func19, Try.ntmps19
    go_wp2_with fail
    refine (indexI_any A n cap B f x w HM.out HR.out).mono ?_
    rintro e w1 ⟨k, rfl, hk, rfl⟩
    rw [HB.out, IdxOk] at hk
    simp only [if_true, Bool.false_eq_true, if_false] at hk
    try subst hk
    go_wp2
    go_ret
    exact ⟨rfl, rfl⟩
theorem contI_is (b : Bool) (A : Option Addr) (n cap B : Nat) (f : Nat → Int) (x : Int) (w : World) (hm : n ≤ maxLen) (hr : Rd w B A n (fun j => .int .i64 (f j))) (hb : anyTo (fun j => x == f j) n = b) :
    Calls Try.prog 19 #[.slice A n cap, .int .i64 x] w fun e w' => e = .returned (.bool b) ∧ w = w' := by
  rw [← hb]; exact contI_any A n cap B f x w hm hr
end Go.Proofs.Ytiljnddjecbmfaa
