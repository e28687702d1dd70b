/- The walk of vector.Under. -/
import Derived.Test.YtdpigpjcldcoaaaGoMath
import Derived.Test.YtdpigpjcldcoaaaLayV
set_option linter.unusedVariables false
set_option linter.unusedSimpArgs false
namespace Go.Proofs.Ytdpigpjcldcoaaa
open Go.RowKit

set_option maxHeartbeats 800000 in
theorem under_any (n cap cap2 B : Nat) (A A2 : Option Addr) (a b : Nat → Nat) (w : World) (hn : n ≤ 1000) (hr : Rd w B A n (fun t => .int .i64 (a t : Nat))) (hr2 : Rd w B A2 n (fun t => .int .i64 (b t : Nat))) :
    Calls Try.prog 30 #[.slice A n cap, .slice A2 n cap2] w fun e w' => e = .returned (.bool (undB n a b)) ∧ w' = w := by
  have HR := Lib.hid hr; clear hr
  have HR2 := Lib.hid hr2; clear hr2
  go_enter Try.func30, Try.ntmps30
  go_wp2
  go_loop [9] (fun i => ∃ k : Nat, k ≤ n ∧ i = .int .i64 (k : Nat) ∧ Hid (∀ j, j < k → a j ≤ b j)) (fun i => n - (intOf i).toNat)
  case atStart => exact ⟨0, by omega, rfl, fun j hj => absurd hj (by omega)⟩
  case round =>
    obtain ⟨k, hk, rfl, HA⟩ := hrel
    by_cases hlt : k < n
    · obtain ⟨ad, rfl, -, hc⟩ := HR.out (by omega)
      obtain ⟨ad2, rfl, -, hc2⟩ := HR2.out (by omega)
      have c0 := hc k hlt
      have c1 := hc2 k hlt
      clear hc hc2
      by_cases hg : b k < a k
      · have HF : Hid (undB n a b = false) := Lib.hid (by
          cases h : undB n a b
          · rfl
          · have := undB_iff.1 h k hlt; omega)
        go_wp2
        go_ret
        exact ⟨by rw [HF.out]; rfl, rfl⟩
      · have hle : a k ≤ b k := by omega
        have HLE := Lib.hid hle
        go_wp2
        go_round
        case rel => exact ⟨k + 1, by omega, by go_num, fun j hj => (Nat.lt_succ_iff_lt_or_eq.1 hj).elim (HA.out j) (fun e => by subst e; exact HLE.out)⟩
        case measure => simp [intOf]; omega
    · obtain rfl : n = k := by omega
      have HF : Hid (undB n a b = true) := Lib.hid (undB_iff.2 HA.out)
      go_wp2
      go_ret
      exact ⟨by rw [HF.out]; rfl, rfl⟩
end Go.Proofs.Ytdpigpjcldcoaaa
