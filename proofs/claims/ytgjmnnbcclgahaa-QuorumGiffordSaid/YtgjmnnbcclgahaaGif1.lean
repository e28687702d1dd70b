/- The walks of Votes' closures. -/
import Derived.Test.YtgjmnnbcclgahaaGifMath
import Derived.Test.YtgjmnnbcclgahaaBet1
import Derived.Test.YtgjmnnbcclgahaaShr
set_option linter.unusedVariables false
set_option linter.unusedSimpArgs false
namespace Go.Proofs.Ytgjmnnbcclgahaa
open Go.RowKit

def badV (x : Int) : Bool := decide (x < 0) || decide (100 < x)
set_option maxHeartbeats 400000 in
theorem badC_any (x : Int) (w : World) : Calls Try.prog 36 #[.int .i64 x] w fun e w' => e = .returned (.bool (badV x)) ∧ w = w' := by
  have HB : Hid (badV x = (decide (x < 0) || decide (100 < x))) := Lib.hid rfl
  by_cases h1 : x < 0
  · go_enter Try.func36, Try.ntmps36
    go_wp2
    go_ret
    exact ⟨ret_bool (by rw [HB.out]; simp [h1]), rfl⟩
  · by_cases h2 : 100 < x
    all_goals
      go_enter Try.func36, Try.ntmps36
      go_wp2
      go_ret
      exact ⟨ret_bool (by rw [HB.out]; simp [h1, h2]), rfl⟩
set_option maxHeartbeats 400000 in
theorem index_Votes (A : Option Addr) (m cap B : Nat) (f : Nat → Int) (w : World) (hm : m ≤ maxLen) (hr : Rd w B A m (fun j => .int .i64 (f j))) :
    Calls Try.prog 44 #[.slice A m cap, .func (.func 36) #[] #[]] w fun e w' => e = .returned (.int .i64 (idxTo (fun j => badV (f j)) m)) ∧ w = w' := by
  unfold maxLen at hm
  have HR := Lib.hid hr; clear hr
  have HC := Lib.hid (fun (x : Int) => badC_any x w)
  go_enter Try.func44, Try.ntmps44
  go_wp2
  go_loop [8] (fun i => ∃ k : Nat, k ≤ m ∧ i = .int .i64 k ∧ ∀ j, j < k → badV (f j) = false) (fun i => m - (intOf i).toNat)
  case atStart => exact ⟨0, by omega, rfl, fun j hj => absurd hj (by omega)⟩
  case round =>
    obtain ⟨k, hk, rfl, hall⟩ := hrel
    have HA := Lib.hid hall; clear hall
    by_cases hlt : k < m
    · obtain ⟨ad, rfl, _, hc⟩ := HR.out (by omega)
      have hck := hc k hlt
      clear hc
      cases hq : badV (f k)
      all_goals
        have HQ := Lib.hid hq; clear hq
        go_wp2_with (go_at_call 36; refine (bool_is (HC.out (f k)) HQ.out).mono ?_; rintro e w' ⟨rfl, rfl⟩)
        first
          | (go_ret; exact ⟨ret_int (idxTo_hit hlt HQ.out HA.out).symm, rfl⟩)
          | (go_round
             case rel => exact ⟨k + 1, by omega, by go_num, fun j hj => (Nat.lt_succ_iff_lt_or_eq.1 hj).elim (HA.out j) (fun e => by subst e; exact HQ.out)⟩
             case measure => simp [intOf]; omega)
    · obtain rfl : k = m := by omega
      go_wp2
      go_ret
      exact ⟨ret_int (idxTo_miss HA.out).symm, rfl⟩
set_option maxHeartbeats 400000 in
theorem contains_Votes (b : Bool) (A : Option Addr) (m cap B : Nat) (f : Nat → Int) (w : World) (hm : m ≤ maxLen) (hr : Rd w B A m (fun j => .int .i64 (f j))) (hb : anyTo (fun j => badV (f j)) m = b) :
    Calls Try.prog 35 #[.slice A m cap, .func (.func 36) #[] #[]] w fun e w' => e = .returned (.bool b) ∧ w = w' := by
  have HI := Lib.hid (index_Votes A m cap B f w hm hr)
  have HD := Lib.hid (idxTo_any (fun j => badV (f j)) m)
  rw [← hb]
  clear hm hr hb
  go_enter Try.func35, Try.ntmps35
  go_wp2_with (go_at_call 44; refine HI.out.mono ?_; rintro e w' ⟨rfl, rfl⟩)
  go_ret
  exact ⟨ret_bool HD.out, rfl⟩
theorem vs_small {v : Nat → Nat} {n s : Nat} (h6 : n ≤ 6) (hv : ∀ j, j < n → v j ≤ 100) : vs v n s ≤ 600 := by
  have := vs_le (s := s) hv
  omega
set_option maxHeartbeats 800000 in
theorem sumC_any (v : Nat → Nat) (n s b B cap : Nat) (A : Option Addr) (w : World) (h6 : n ≤ 6) (hv : ∀ j, j < n → v j ≤ 100) (hs : s < 4294967296) (hc : w.cell? ⟨b, 0, none⟩ = some (.slice A n cap)) (hr : Rd w B A n (fun j => .int .i64 (v j : Nat))) :
    Calls Try.prog 37 #[.int .u32 s, .pointer (some ⟨b, 0, none⟩)] w fun e w' => e = .returned (.int .i64 ((vs v n s : Nat) : Int)) ∧ w = w' := by
  have HR := Lib.hid hr; clear hr
  have HV := Lib.hid hv; clear hv
  have HS := Lib.hid hs; clear hs
  go_enter Try.func37, Try.ntmps37
  go_wp2
  go_loop [4, 9] (fun y i => ∃ k q : Nat, k ≤ n ∧ i = .int .i64 k ∧ y = .int .i64 q ∧ q ≤ 600 ∧ Hid (q = vs v k s)) (fun _ i => n - (intOf i).toNat)
  case atStart => exact ⟨0, 0, by omega, rfl, rfl, by omega, Lib.hid rfl⟩
  case round =>
    obtain ⟨k, q, hk, rfl, rfl, hq, HQ⟩ := hrel
    clear hc
    by_cases hlt : k < n
    · obtain ⟨ad, rfl, _, hc⟩ := HR.out (by omega)
      have hck : w.cell? (ad.add k) = some (.int .i64 (v k : Nat)) := hc k hlt
      clear hc
      have hb := bit_num (i := k) HS.out
      obtain ⟨x, hx⟩ : ∃ x, x = v k := ⟨_, rfl⟩
      rw [← hx] at hck
      have hx100 : x ≤ 100 := by rw [hx]; exact HV.out k hlt
      have HX := Lib.hid hx; clear hx
      have HN : Hid (vs v (k + 1) s = q + x * (if s.testBit k then 1 else 0)) := Lib.hid (by rw [HQ.out, HX.out]; rfl)
      have HL : Hid (vs v (k + 1) s ≤ 600) := Lib.hid (vs_small (by omega) fun j hj => HV.out j (by omega))
      cases ht : s.testBit k
      · rw [ht] at HN hb
        have hb : bits .and .u32 ((s : Int) / 2 ^ k) 1 = 0 := hb
        clear ht
        have HQ2 : Hid (q = vs v (k + 1) s) := Lib.hid (by rw [HN.out]; simp)
        go_wp2
        go_round
        case rel => exact ⟨k + 1, q, by omega, by go_num, rfl, hq, HQ2⟩
        case measure => simp [intOf]; omega
      · rw [ht] at HN hb
        have hb : bits .and .u32 ((s : Int) / 2 ^ k) 1 = 1 := hb
        clear ht
        have HQ2 : Hid (q + x = vs v (k + 1) s) := Lib.hid (by rw [HN.out]; simp)
        have hq2 : q + x ≤ 600 := by rw [HQ2.out]; exact HL.out
        go_wp2
        go_round
        case rel => exact ⟨k + 1, q + x, by omega, by go_num, by go_num, hq2, HQ2⟩
        case measure => simp [intOf]; omega
    · obtain rfl : k = n := by omega
      go_wp2
      go_ret
      exact ⟨ret_int (by rw [HQ.out]), rfl⟩
end Go.Proofs.Ytgjmnnbcclgahaa
