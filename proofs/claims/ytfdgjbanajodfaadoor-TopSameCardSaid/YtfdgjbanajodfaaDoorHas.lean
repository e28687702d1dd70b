/- The walk of beaconryref.Has. -/
import Derived.Test.YtfdgjbanajodfaaDoorOwn
set_option linter.unusedVariables false
set_option linter.unusedSimpArgs false
namespace Go.Proofs.YtfdgjbanajodfaaDoor
open Go.RowKit

def hasB (f : Nat → Int) (n : Nat) (x : Int) : Bool := anyTo (fun j => x == f j) n
theorem hasB_iff {f : Nat → Int} {n : Nat} {x : Int} : hasB f n x = true ↔ ∃ j, j < n ∧ x = f j := by
  rw [hasB, anyTo_iff]
  simp
theorem hasB_no {f : Nat → Int} {n : Nat} {x : Int} : hasB f n x = false ↔ ∀ j, j < n → x ≠ f j := by
  rw [hasB, anyTo_no]
  simp
set_option maxHeartbeats 400000 in
theorem has_any (A : Option Addr) (n cap B : Nat) (f : Nat → Int) (x : Int) (w : World) (hm : n ≤ maxLen) (hr : Rd w B A n (fun j => .int .i64 (f j))) :
    Calls Tryd.prog 18 #[.slice A n cap, .int .i64 x] w fun e w' => e = .returned (.bool (hasB f n x)) ∧ w = w' := by
  unfold maxLen at hm
  have HR := Lib.hid hr; clear hr
  go_enter Tryd.func18, Tryd.ntmps18
  go_wp2
  go_loop [9] (fun i => ∃ k : Nat, k ≤ n ∧ i = .int .i64 k ∧ Hid (∀ j, j < k → x ≠ f j)) (fun i => n - (intOf i).toNat)
  case atStart => exact ⟨0, by omega, rfl, fun j hj => absurd hj (by omega)⟩
  case round =>
    obtain ⟨k, hk, rfl, HA⟩ := hrel
    by_cases hlt : k < n
    · obtain ⟨ad, rfl, _, hc⟩ := HR.out (by omega)
      have hck := hc k hlt
      clear hc
      by_cases he : x = f k
      · have he' : (x == f k) = true := beq_iff_eq.2 he
        have HE : Hid (hasB f n x = true) := hasB_iff.2 ⟨k, hlt, he⟩
        clear he
        go_wp2
        go_ret
        exact ⟨ret_bool HE.out.symm, rfl⟩
      · have he' : (x == f k) = false := beq_eq_false_iff_ne.2 he
        have HE := Lib.hid he
        clear he
        go_wp2
        go_round
        case rel => exact ⟨k + 1, by omega, by go_num, fun j hj => (Nat.lt_succ_iff_lt_or_eq.1 hj).elim (HA.out j) (fun e => by subst e; exact HE.out)⟩
        case measure => simp [intOf]; omega
    · obtain rfl : k = n := by omega
      go_wp2
      go_ret
      exact ⟨ret_bool (hasB_no.2 HA.out).symm, rfl⟩
theorem has_is (b : Bool) (A : Option Addr) (n cap B : Nat) (f : Nat → Int) (x : Int) (w : World) (hm : n ≤ maxLen) (hr : Rd w B A n (fun j => .int .i64 (f j))) (hb : hasB f n x = b) :
    Calls Tryd.prog 18 #[.slice A n cap, .int .i64 x] w fun e w' => e = .returned (.bool b) ∧ w = w' := by
  rw [← hb]; exact has_any A n cap B f x w hm hr
end Go.Proofs.YtfdgjbanajodfaaDoor
