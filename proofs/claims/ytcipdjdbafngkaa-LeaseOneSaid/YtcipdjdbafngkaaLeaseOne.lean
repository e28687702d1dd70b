/- The law LeaseOne, walked. -/
import Derived.Test.YtcipdjdbafngkaaLeaseMath
import Derived.Test.YtcipdjdbafngkaaQuiet
set_option linter.unusedVariables false
set_option linter.unusedSimpArgs false
namespace Go.Proofs.Ytcipdjdbafngkaa
open Go.RowKit

set_option maxRecDepth 100000 in
set_option maxHeartbeats 3200000 in
theorem leaseOne_good (r : Nat → Int) (n cap m cap2 : Nat) (A A2 : Option Addr) (term : Int) (M : Mv) (w : World) (hn : n ≤ maxLen) (hr : Rd w w.heap.size A n (nums r)) (hr2 : Rd w w.heap.size A2 (m * 4) (mvF M)) (hb : leasedB r n term m = true) :
    Calls Try.prog 3 #[.slice A n cap, .int .i64 term, .slice A2 m cap2] w fun e w' => e = .returned (.bool true) ∧ Below w.heap.size w w' := by
  have HOK := Lib.hid (LeaseOk.of hb)
  obtain ⟨⟨_, hm6⟩, _⟩ := leasedB_iff.1 hb
  have HB := Lib.hid hb; clear hb
  have HR := Lib.hid hr; clear hr
  have HR2 := Lib.hid hr2; clear hr2
  have HN := Lib.hid hn; clear hn
  go_enter Try.func3, Try.ntmps3
  go_wp2_with fail
  refine (lease_good r n cap m cap2 _ A A2 term M w (Nat.le_refl _) HR.out HR2.out HB.out).mono ?_
  rintro e w1 ⟨v, rfl, A0, A1, A3, c0, c1, c3, rfl, hle⟩
  have HLE := Lib.hid hle; clear hle
  go_wp2_with fail
  refine at_world (F := fun W' => Calls _ _ _ W' _) (fun W => LO w W m c0 c1 c3 A0 A1 A3 (leaseC n r term M) (holdsF n r term M) (keepsF n r term M) w1.heap.size) (LO.made HLE.out) ?_
  intro W hW
  obtain ⟨b, hb0⟩ : ∃ b, w1.heap.size = b := ⟨_, rfl⟩
  rw [hb0] at hW
  rw [hb0]
  have HW := Lib.hid hW
  clear hW hb0 HLE
  refine (bool_is (leased_any r n cap w.heap.size A term m W HN.out (HR.out.below HW.out.le.bel)) HB.out).mono ?_
  rintro e w3 ⟨rfl, rfl⟩
  obtain ⟨s0, s1, s2⟩ := HW.out.cells
  go_wp2
  clear s0 s1 s2
  go_loopw [53] (fun i wr => ∃ j : Nat, j ≤ m ∧ i = .int .i64 j ∧ Hid (LO w wr m c0 c1 c3 A0 A1 A3 (leaseC n r term M) (holdsF n r term M) (keepsF n r term M) b)) (fun i _ => m - (intOf i).toNat)
  case atStart => exact ⟨0, by omega, rfl, HW⟩
  case round =>
    clear HW
    obtain ⟨j, hj, rfl, HQ⟩ := hrel
    by_cases hlt : j < m
    · obtain ⟨s0, s1, s2⟩ := HQ.out.cells
      obtain ⟨g0, g1, g3, rfl, rfl, rfl, hcl⟩ := HQ.out.rows (by omega)
      obtain ⟨_, d1, d2⟩ := hcl j hlt
      obtain ⟨hx, hy⟩ := holds_lt n HOK.out.sz.1 HOK.out.sz.2 r term M j
      obtain ⟨h1, h2, h3⟩ := lease_one HOK.out M j
      obtain ⟨x, hxe⟩ : ∃ x, holdsF n r term M j = x := ⟨_, rfl⟩
      obtain ⟨y, hye⟩ : ∃ y, keepsF n r term M j = y := ⟨_, rfl⟩
      rw [hxe] at d1 hx h2 h3
      rw [hye] at d2 hy h1 h2
      obtain ⟨q, hqe⟩ : ∃ q, pop y = q := ⟨_, rfl⟩
      rw [hqe] at h1
      have HP := Lib.hid hqe
      have HX := Lib.hid (show x < 4294967296 by omega)
      have HY := Lib.hid (show y < 4294967296 by omega)
      have HBX := Lib.hid (show bitB x 0 = false from (bitB_nat x 0).trans h3)
      have hand : (bits .andNot .u32 (x : Int) (y : Int) != 0) = false := by
        have := (andNot_zero HX.out HY.out).2 h2
        simpa using this
      have hd : decide ((1 : Int) < (q : Int)) = false := by simp; omega
      have hd' : decide (1 < q) = false := by simp; omega
      clear hxe hye hqe h2 h3 hcl
      go_wp2
      go_quiet ((first | (go_at_call 11; (with_reducible exact bit_quiet _ _ _ _ _ HX.out HBX.out)) | (go_at_call 10; (with_reducible exact size_quiet _ _ _ _ HY.out HP.out))))
      go_wp2
      go_roundw
      case rel => exact ⟨j + 1, by omega, by go_num, HQ.out.sim ⟨rfl, rfl, rfl, rfl⟩⟩
      case measure => simp [intOf]; omega
    · obtain rfl : j = m := by omega
      go_wp2
      go_ret
      exact ⟨rfl, HQ.out.le.bel⟩
set_option maxRecDepth 100000 in
set_option maxHeartbeats 1600000 in
theorem leaseOne_bad (r : Nat → Int) (n cap m cap2 : Nat) (A A2 : Option Addr) (term : Int) (w : World) (hn : n ≤ maxLen) (hm : m ≤ maxLen) (hr : Rd w w.heap.size A n (nums r)) (hb : leasedB r n term m = false) :
    Calls Try.prog 3 #[.slice A n cap, .int .i64 term, .slice A2 m cap2] w fun e w' => e = .returned (.bool true) ∧ Below w.heap.size w w' := by
  obtain ⟨c, hc, hbad⟩ := lease_bad r n cap m cap2 _ A A2 term w hn hm (Nat.le_refl _) hr hb
  have HBAD := Lib.hid hbad
  have hc' : (c != 0) = true := bne_iff_ne.2 hc
  have HB := Lib.hid hb; clear hb
  have HR := Lib.hid hr; clear hr
  have HN := Lib.hid hn; clear hn hbad hc hm
  go_enter Try.func3, Try.ntmps3
  go_wp2_with fail
  refine HBAD.out.mono ?_
  rintro e w1 ⟨rfl, hb1⟩
  have HB1 := Lib.hid hb1; clear hb1
  go_wp2_with fail
  refine (bool_is (leased_any r n cap w.heap.size A term m _ HN.out (HR.out.below (HB1.out.alloc HB1.out.size _))) HB.out).mono ?_
  rintro e w3 ⟨rfl, rfl⟩
  go_wp2
  go_ret
  exact ⟨rfl, HB1.out.alloc HB1.out.size _⟩
theorem leaseOne_all (A : Option Addr) (n cap : Nat) (r : Nat → Int) (term : Int) (A2 : Option Addr) (m cap2 : Nat) (M : Mv) (w : World) (hnc : n ≤ cap ∧ cap ≤ maxLen) (_ : ∀ j, j < n → (Lit.int .i64 (r j)).wf = true) (hr : Rd w w.heap.size A n (nums r)) (_ : (Lit.int .i64 term).wf = true)
    (hmc : m ≤ cap2 ∧ cap2 ≤ maxLen) (hr2 : Rd w w.heap.size A2 (m * 4) (mvF M)) :
    Calls Try.prog 3 #[.slice A n cap, .int .i64 term, .slice A2 m cap2] w fun e w' => e = .returned (.bool true) ∧ Below w.heap.size w w' := by
  cases hb : leasedB r n term m
  · exact leaseOne_bad r n cap m cap2 A A2 term w (by omega) (by omega) hr hb
  · exact leaseOne_good r n cap m cap2 A A2 term M w (by omega) hr hr2 hb
end Go.Proofs.Ytcipdjdbafngkaa
