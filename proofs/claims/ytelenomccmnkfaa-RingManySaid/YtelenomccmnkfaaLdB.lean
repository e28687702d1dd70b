/- The walks of slices.Contains and slices.Clone at []bool. -/
import Derived.Test.YtelenomccmnkfaaRing2
import Derived.Test.YtelenomccmnkfaaLay
set_option linter.unusedVariables false
set_option linter.unusedSimpArgs false
namespace Go.Proofs.Ytelenomccmnkfaa
open Go.RowKit

theorem infoBoolB : (Try.prog.info? 4).map (fun i => (i.zero, i.size, i.bytes)) = some (some (.bool false), 1, 1) := by kernel_rfl
set_option maxHeartbeats 400000 in
theorem indexB_any (A : Option Addr) (n cap B : Nat) (b : Nat → Bool) (w : World) (hm : n ≤ maxLen) (hr : Rd w B A n (fun j => .bool (b j))) :
    Calls Try.prog 20 #[.slice A n cap, .bool true] w fun e w' => ∃ k : Int, e = .returned (.int .i64 k) ∧ IdxOk (anyTo b n) k ∧ w = w' := by
  unfold maxLen at hm
  have HR := Lib.hid hr; clear hr
  go_enter Try.func20, Try.ntmps20
  go_wp2
  go_loop [8] (fun i => ∃ k : Nat, k ≤ n ∧ i = .int .i64 k ∧ Hid (∀ j, j < k → b j = false)) (fun i => n - (intOf i).toNat)
  case atStart => exact ⟨0, by omega, rfl, fun j hj => absurd hj (by omega)⟩
  case round =>
    obtain ⟨k, hk, rfl, HA⟩ := hrel
    by_cases hlt : k < n
    · obtain ⟨ad, rfl, _, hc⟩ := HR.out (by omega)
      have hck : w.cell? (ad.add k) = some (.bool (b k)) := hc k hlt
      clear hc
      cases he : b k
      · have HE := Lib.hid he
        rw [he] at hck
        go_wp2
        go_round
        case rel => exact ⟨k + 1, by omega, by go_num, fun j hj => (Nat.lt_succ_iff_lt_or_eq.1 hj).elim (HA.out j) (fun e => by subst e; exact HE.out)⟩
        case measure => simp [intOf]; omega
      · have HE : Hid (anyTo b n = true) := anyTo_iff.2 ⟨k, hlt, he⟩
        rw [he] at hck
        go_wp2
        go_ret
        exact ⟨_, rfl, by rw [IdxOk, if_pos HE.out]; omega, rfl⟩
    · obtain rfl : k = n := by omega
      have HE : Hid (anyTo b k = false) := anyTo_no.2 HA.out
      go_wp2
      go_ret
      exact ⟨_, rfl, by rw [HE.out, IdxOk, if_neg (by simp)], rfl⟩
set_option maxHeartbeats 400000 in
theorem contB_is (c : Bool) (A : Option Addr) (n cap B : Nat) (b : Nat → Bool) (w : World) (hm : n ≤ maxLen) (hr : Rd w B A n (fun j => .bool (b j))) (hb : anyTo b n = c) :
    Calls Try.prog 17 #[.slice A n cap, .bool true] w fun e w' => e = .returned (.bool c) ∧ w = w' := by
  have HR := Lib.hid hr; clear hr
  have HM := Lib.hid hm; clear hm
  have HB := Lib.hid hb
  clear hb
  cases c
  all_goals
    go_enter Try.func17, Try.ntmps17
    go_wp2_with fail
    refine (indexB_any A n cap B b w HM.out HR.out).mono ?_
    rintro e w1 ⟨k, rfl, hk, rfl⟩
    rw [HB.out, IdxOk] at hk
    simp only [if_true, Bool.false_eq_true, if_false] at hk
    try subst hk
    go_wp2
    go_ret
    exact ⟨rfl, rfl⟩
set_option maxHeartbeats 800000 in
theorem cloneB_any (A : Option Addr) (n cap B : Nat) (u : Nat → Bool) (w : World) (h1 : 1 ≤ n) (hn : n ≤ 1000) (hB : B ≤ w.heap.size) (hr : Rd w B A n (fun j => .bool (u j))) :
    Calls Try.prog 18 #[.slice A n cap] w (Gives fun v w' => ∃ g cp, v = .slice (some ⟨g, 0, none⟩) n cp ∧ Lay w w' [⟨some ⟨g, 0, none⟩, 4, 1, n, cp, fun j => .bool (u j)⟩]) := by
  obtain ⟨iI, hiI, hzI0, hzI1, hzI2⟩ := info_parts infoBoolB
  obtain ⟨ad, rfl, hb, hc⟩ := hr (by omega)
  have HR : Hid (Rd w B (some ad) n (fun j => .bool (u j))) := Lib.hid fun _ => ⟨ad, rfl, hb, hc⟩
  clear hr hc
  have HL : Hid (Lay w (w.alloc (.cells #[] 4)) [⟨some ⟨w.heap.size, 0, none⟩, 4, 1, 0, 0, fun j => .bool (u j)⟩]) := Lib.hid ((Lay.nil w).new #[] 4 1 0 _ w.heap.size rfl rfl (by unfold maxLen; omega) (fun j hj => by omega))
  go_enter Try.func18, Try.ntmps18
  have hnil : ∀ W, (binOp .eql 30 (.slice (some ad) n cap) (.slice none 0 0)).run Try.prog W = .ok (.bool false) W := fun W => rfl
  go_wp2_with (first
    | (refine wpList_ap1 rfl (.tmp 5) (.tmp 6) _ rfl 4 iI _ 1 Try.underlying30 hiI hzI0 hzI1 hzI2 rfl w.heap.size rfl (HL.out.own 0 _ rfl) rfl ((HR.out.below (HL.out.bel.mono hB))) (fun _ _ => rfl) (fun j => .bool (u j)) (fun _ _ => rfl) (fun j _ => by simp) n (by omega) (by unfold maxLen; omega) (by omega) (by simp) ?_
       intro A2 cap2 w4 ho hg ha
       have H4 := Lib.hid (HL.out.app 0 rfl ho hg ha)
       clear ho hg ha HL)
    | fail)
  go_ret
  obtain ⟨g, rfl, hg1, hg2, -⟩ := (H4.out.own 0 _ rfl).pos (show 0 < n by omega)
  exact ⟨_, rfl, g, cap2, rfl, H4.out⟩
end Go.Proofs.Ytelenomccmnkfaa
