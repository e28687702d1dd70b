/- The law LeaseLess, walked. -/
import Derived.Test.YtcipdjdbafngkaaLeaseMath
import Derived.Test.YtcipdjdbafngkaaQuiet
set_option linter.unusedVariables false
set_option linter.unusedSimpArgs false
namespace Go.Proofs.Ytcipdjdbafngkaa
open Go.RowKit

set_option maxRecDepth 100000 in
set_option maxHeartbeats 3200000 in
theorem leaseLess_good (r : Nat → Int) (n cap m cap2 : Nat) (A A2 : Option Addr) (term : Int) (M : Mv) (w : World) (hn : n ≤ maxLen) (hr : Rd w w.heap.size A n (nums r)) (hr2 : Rd w w.heap.size A2 (m * 4) (mvF M)) (hb : leasedB r n term m = true) :
    Calls Try.prog 5 #[.slice A n cap, .int .i64 term, .slice A2 m cap2] w fun e w' => e = .returned (.bool true) ∧ Below w.heap.size w w' := by
  have HOK := Lib.hid (LeaseOk.of hb)
  obtain ⟨⟨_, hm6⟩, _⟩ := leasedB_iff.1 hb
  have HB := Lib.hid hb; clear hb
  have HR := Lib.hid hr; clear hr
  have HR2 := Lib.hid hr2; clear hr2
  have HN := Lib.hid hn; clear hn
  go_enter Try.func5, Try.ntmps5
  go_wp2_with fail
  refine (lease_good r n cap m cap2 _ A A2 term M w (Nat.le_refl _) HR.out HR2.out HB.out).mono ?_
  rintro e w1 ⟨v, rfl, A0, A1, A3, c0, c1, c3, rfl, hle⟩
  have HLE := Lib.hid hle; clear hle
  go_wp2_with fail
  refine at_world (F := fun W' => Calls _ _ _ W' _) (fun W => LO w W m c0 c1 c3 A0 A1 A3 (leaseC n r term M) (holdsF n r term M) (keepsF n r term M) w1.heap.size) (LO.made HLE.out) ?_
  intro W hW
  obtain ⟨b, hb0⟩ : ∃ b, w1.heap.size = b := ⟨_, rfl⟩
  rw [hb0] at hW
  rw [hb0]
  have HW := Lib.hid hW
  clear hW hb0 HLE
  refine (bool_is (leased_any r n cap w.heap.size A term m W HN.out (HR.out.below HW.out.le.bel)) HB.out).mono ?_
  rintro e w3 ⟨rfl, rfl⟩
  obtain ⟨s0, s1, s2⟩ := HW.out.cells
  go_wp2
  clear s0 s1 s2
  go_loopw [9] (fun i wr => ∃ j : Nat, 1 ≤ j ∧ (j ≤ m ∨ j = 1) ∧ i = .int .i64 j ∧ Hid (LO w wr m c0 c1 c3 A0 A1 A3 (leaseC n r term M) (holdsF n r term M) (keepsF n r term M) b)) (fun i _ => m - (intOf i).toNat)
  case atStart => exact ⟨1, by omega, by omega, rfl, HW⟩
  case round =>
    clear HW
    obtain ⟨j, hj1, hj, rfl, HQ⟩ := hrel
    by_cases hlt : j < m
    · obtain ⟨s0, s1, s2⟩ := HQ.out.cells
      obtain ⟨g0, g1, g3, rfl, rfl, rfl, hcl⟩ := HQ.out.rows (by omega)
      obtain ⟨e0, d1, d2⟩ := hcl j hlt
      obtain ⟨_, p1, p2⟩ := hcl (j - 1) (by omega)
      obtain ⟨ad, rfl, hbl, k0, _⟩ := (HR2.out.below HQ.out.le.bel).rec4 hlt
      clear hbl
      obtain ⟨hx, hy⟩ := holds_lt n HOK.out.sz.1 HOK.out.sz.2 r term M j
      obtain ⟨hx', hy'⟩ := holds_lt n HOK.out.sz.1 HOK.out.sz.2 r term M (j - 1)
      have hl := lease_less HOK.out M (j - 1)
      rw [show j - 1 + 1 = j by omega] at hl
      obtain ⟨hl1, hl2⟩ := hl
      obtain ⟨x, hxe⟩ : ∃ x, holdsF n r term M j = x := ⟨_, rfl⟩
      obtain ⟨y, hye⟩ : ∃ y, keepsF n r term M j = y := ⟨_, rfl⟩
      obtain ⟨x', hxe'⟩ : ∃ x', holdsF n r term M (j - 1) = x' := ⟨_, rfl⟩
      obtain ⟨y', hye'⟩ : ∃ y', keepsF n r term M (j - 1) = y' := ⟨_, rfl⟩
      rw [hxe] at d1 hx hl1 hl2
      rw [hye] at d2 hy hl1 hl2
      rw [hxe'] at p1 hx' hl1 hl2
      rw [hye'] at p2 hy' hl1 hl2
      obtain ⟨cj, hcj⟩ : ∃ cj, leaseC n r term M j = cj := ⟨_, rfl⟩
      obtain ⟨kj, hkj⟩ : ∃ kj, M.k j = kj := ⟨_, rfl⟩
      rw [hcj] at e0 hl2
      rw [hkj] at k0 hl1
      have p1' : wr.cell? ⟨g1, ((j : Int) - 1).toNat, none⟩ = some (.int .u32 (x' : Nat)) := by rw [show ((j : Int) - 1).toNat = j - 1 by omega]; exact p1
      have p2' : wr.cell? ⟨g3, ((j : Int) - 1).toNat, none⟩ = some (.int .u32 (y' : Nat)) := by rw [show ((j : Int) - 1).toNat = j - 1 by omega]; exact p2
      have T1 : Hid ((kj == 2) = true → (bits .andNot .u32 (x : Int) (x' : Int) != 0) = false ∧ (bits .andNot .u32 (y : Int) (y' : Int) != 0) = false) := by
        show _ → _
        intro h
        have h := hl1 (by simpa using h)
        have a1 := (andNot_zero (show x < 4294967296 by omega) (show x' < 4294967296 by omega)).2 h.1
        have a2 := (andNot_zero (show y < 4294967296 by omega) (show y' < 4294967296 by omega)).2 h.2
        exact ⟨by simpa using a1, by simpa using a2⟩
      have T2 : Hid ((cj != 0) = true → ((x : Int) != (x' : Int)) = false ∧ ((y : Int) != (y' : Int)) = false) := by
        show _ → _
        intro h
        have h := hl2 (by simpa using h)
        exact ⟨by rw [h.1]; simp, by rw [h.2]; simp⟩
      obtain ⟨b1, hb1⟩ : ∃ b1, (kj == 2) = b1 := ⟨_, rfl⟩
      obtain ⟨b2, hb2⟩ : ∃ b2, (cj != 0) = b2 := ⟨_, rfl⟩
      rw [hb1] at T1
      rw [hb2] at T2
      clear hxe hye hxe' hye' hcj hkj hl1 hl2 hcl
      cases b1 <;> cases b2
      all_goals
        (try (obtain ⟨t1, t2⟩ := T1.out rfl))
        (try (obtain ⟨t3, t4⟩ := T2.out rfl))
        go_wp2
        refine wp_text_all (by kernel_rfl) (by kernel_rfl) (by kernel_rfl) (by repeat' (first | (with_reducible apply tame_then) | (with_reducible apply tame_block) | (with_reducible apply tame_scope) | exact tame_gives | exact tame_body (fun _ _ h => ⟨_, h.1⟩))) ?_
        go_wp2
        refine headed ?_
        go_wp2
        refine wp_text_all (by kernel_rfl) (by kernel_rfl) (by kernel_rfl) (by repeat' (first | (with_reducible apply tame_then) | (with_reducible apply tame_block) | (with_reducible apply tame_scope) | exact tame_gives | exact tame_body (fun _ _ h => ⟨_, h.1⟩))) ?_
        go_wp2
        refine headed ?_
        go_wp2
        go_roundw
        case rel => exact ⟨j + 1, by omega, by omega, by go_num, HQ.out.sim ⟨rfl, rfl, rfl, rfl⟩⟩
        case measure => simp [intOf]; omega
    · go_wp2
      go_ret
      exact ⟨rfl, HQ.out.le.bel⟩
set_option maxRecDepth 100000 in
set_option maxHeartbeats 1600000 in
theorem leaseLess_bad (r : Nat → Int) (n cap m cap2 : Nat) (A A2 : Option Addr) (term : Int) (w : World) (hn : n ≤ maxLen) (hm : m ≤ maxLen) (hr : Rd w w.heap.size A n (nums r)) (hb : leasedB r n term m = false) :
    Calls Try.prog 5 #[.slice A n cap, .int .i64 term, .slice A2 m cap2] w fun e w' => e = .returned (.bool true) ∧ Below w.heap.size w w' := by
  obtain ⟨c, hc, hbad⟩ := lease_bad r n cap m cap2 _ A A2 term w hn hm (Nat.le_refl _) hr hb
  have HBAD := Lib.hid hbad
  have hc' : (c != 0) = true := bne_iff_ne.2 hc
  have HB := Lib.hid hb; clear hb
  have HR := Lib.hid hr; clear hr
  have HN := Lib.hid hn; clear hn hbad hc hm
  go_enter Try.func5, Try.ntmps5
  go_wp2_with fail
  refine HBAD.out.mono ?_
  rintro e w1 ⟨rfl, hb1⟩
  have HB1 := Lib.hid hb1; clear hb1
  go_wp2_with fail
  refine (bool_is (leased_any r n cap w.heap.size A term m _ HN.out (HR.out.below (HB1.out.alloc HB1.out.size _))) HB.out).mono ?_
  rintro e w3 ⟨rfl, rfl⟩
  go_wp2
  go_ret
  exact ⟨rfl, HB1.out.alloc HB1.out.size _⟩
theorem leaseLess_all (A : Option Addr) (n cap : Nat) (r : Nat → Int) (term : Int) (A2 : Option Addr) (m cap2 : Nat) (M : Mv) (w : World) (hnc : n ≤ cap ∧ cap ≤ maxLen) (_ : ∀ j, j < n → (Lit.int .i64 (r j)).wf = true) (hr : Rd w w.heap.size A n (nums r)) (_ : (Lit.int .i64 term).wf = true)
    (hmc : m ≤ cap2 ∧ cap2 ≤ maxLen) (hr2 : Rd w w.heap.size A2 (m * 4) (mvF M)) :
    Calls Try.prog 5 #[.slice A n cap, .int .i64 term, .slice A2 m cap2] w fun e w' => e = .returned (.bool true) ∧ Below w.heap.size w w' := by
  cases hb : leasedB r n term m
  · exact leaseLess_bad r n cap m cap2 A A2 term w (by omega) (by omega) hr hb
  · exact leaseLess_good r n cap m cap2 A A2 term M w (by omega) hr hr2 hb
end Go.Proofs.Ytcipdjdbafngkaa
