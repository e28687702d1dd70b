/- The law LeaseFree, walked. -/
import Derived.Test.YtcipdjdbafngkaaLeaseMath
import Derived.Test.YtcipdjdbafngkaaMvApp
set_option linter.unusedVariables false
set_option linter.unusedSimpArgs false
namespace Go.Proofs.Ytcipdjdbafngkaa
open Go.RowKit

/-- The two moves behind the script. -/
def M2 (term tq : Int) : Mv := ⟨upd (fun _ => 2) 1 1, fun _ => 0, upd (fun _ => 0) 1 tq, upd (fun _ => term) 1 0⟩
theorem M2_cells (term tq : Int) : ∀ j, j < 2 * 4 → (#[Value.int .i64 2, .int .i64 0, .int .i64 0, .int .i64 term, .int .i64 1, .int .i64 0, .int .i64 tq, .int .i64 0])[j]? = some (mvF (M2 term tq) j) := by
  intro j hj
  rcases (by omega : j = 0 ∨ j = 1 ∨ j = 2 ∨ j = 3 ∨ j = 4 ∨ j = 5 ∨ j = 6 ∨ j = 7) with rfl | rfl | rfl | rfl | rfl | rfl | rfl | rfl <;> rfl
theorem word_eq {y tq : Nat} (h : y = 2 ^ tq) (ht : tq < 32) : ((y : Int) == 2 ^ tq % 4294967296) = true := by
  rw [pow_mod ht, h]; simp
/-- The script of the law. -/
def MF (M : Mv) (m : Nat) (term tq : Int) : Mv := ((⟨fun _ => 0, fun _ => 0, fun _ => 0, fun _ => 0⟩ : Mv).app 0 M).app m (M2 term tq)

set_option maxRecDepth 100000 in
set_option maxHeartbeats 3200000 in
theorem leaseFree_all (A : Option Addr) (n cap : Nat) (r : Nat → Int) (term : Int) (A2 : Option Addr) (m cap2 : Nat) (M : Mv) (tq : Int) (w : World) (hnc : n ≤ cap ∧ cap * 8 ≤ 140737488351232) (_ : ∀ j, j < n → (Lit.int .i64 (r j)).wf = true) (hr : Rd w w.heap.size A n (nums r)) (_ : (Lit.int .i64 term).wf = true)
    (hmc : m ≤ cap2 ∧ cap2 * 32 ≤ 140737488351232) (hr2 : Rd w w.heap.size A2 (m * 4) (mvF M)) (_ : (Lit.int .i64 tq).wf = true) :
    Calls Try.prog 4 #[.slice A n cap, .int .i64 term, .slice A2 m cap2, .int .i64 tq] w fun e w' => e = .returned (.bool true) ∧ Below w.heap.size w w' := by
  have HR := Lib.hid hr; clear hr
  have HR2 := Lib.hid hr2; clear hr2
  have HN := Lib.hid (show n ≤ maxLen by unfold maxLen; omega)
  have hm47 : m * 32 ≤ 140737488351232 := by omega
  have hn47 : n * 8 ≤ 140737488351232 := by omega
  clear hnc hmc
  go_enter Try.func4, Try.ntmps4
  go_wp2_with (first
    | (at_builtin; refine wpList_apMvs rfl (.tmp 13) (.tmp 14) rfl w.heap.size rfl (Own.empty _ _ _ _ (mvF ⟨fun _ => 0, fun _ => 0, fun _ => 0, fun _ => 0⟩) _ (by simp) (by simp)) rfl (HR2.out.alloc (Nat.le_refl _) _) m (Nat.zero_add m) (by unfold maxLen; omega) (by omega) (by simp) ?_; intro A3 c3 w3 ho3 hg3 ha3
       have HO3 := Lib.hid ho3
       have HB3 := Lib.hid (((Below.refl w.heap.size w).alloc (Nat.le_refl _) (.cells #[] 37)).grown hg3 (by simp) (fun k hk => by simp [ablock] at hk; omega))
       have hz3 := HB3.out.size
       clear ho3 hg3 ha3)
    | (at_builtin; refine wpList_apMvs rfl (.tmp 15) (.tmp 20) rfl w.heap.size rfl (HO3.out.alloc _) rfl (cell_new _ _ _ _ _ rfl (M2_cells term tq)) (m + 2) rfl (by unfold maxLen; omega) (by omega) (by simp; omega) ?_; intro A4 c4 w4 ho4 hg4 ha4
       have HO4 := Lib.hid ho4
       have HB4 := Lib.hid ((HB3.out.alloc HB3.out.size _).grown hg4 (by simp; omega) (fun k hk => (HO3.out.lt k hk).1))
       have hz4 := HB4.out.size
       clear ho4 hg4 ha4)
    | fail)
  cases hb : leasedB r n term ((m + 2 : Nat) : Int)
  · obtain ⟨c, hc, hbad⟩ := lease_bad r n cap (m + 2) c4 w.heap.size A A4 term w4 HN.out (by unfold maxLen; omega) HB4.out.size (HR.out.below HB4.out) hb
    have HBAD := Lib.hid hbad
    have hc' : (c != 0) = true := bne_iff_ne.2 hc
    have HB := Lib.hid (show leasedB r n term ((m : Int) + 2) = false by have h := hb; push_cast at h; exact h)
    clear hbad hc hb
    refine HBAD.out.mono ?_
    rintro e w5 ⟨rfl, hb1⟩
    have HB5 := Lib.hid (HB4.out.trans (hb1.mono HB4.out.size)); clear hb1
    go_wp2_with fail
    refine (bool_is (leased_any r n cap w.heap.size A term ((m : Int) + 2) _ HN.out (HR.out.below (HB5.out.alloc HB5.out.size _))) HB.out).mono ?_
    rintro e w6 ⟨rfl, rfl⟩
    go_wp2
    go_ret
    exact ⟨rfl, HB5.out.alloc HB5.out.size _⟩
  · have HOK := Lib.hid (LeaseOk.of hb)
    have hm58 : m + 2 ≤ 60 := by have := (leasedB_iff.1 hb).1.2; omega
    have HG := Lib.hid hb
    have HB := Lib.hid (show leasedB r n term ((m : Int) + 2) = true by have h := hb; push_cast at h; exact h)
    clear hb
    refine (lease_good r n cap (m + 2) c4 w4.heap.size A A4 term (MF M m term tq) w4 (Nat.le_refl _) ((HR.out.below HB4.out).more HB4.out.size) HO4.out.rd HG.out).mono ?_
    rintro e w5 ⟨v, rfl, A0, A1, A5, c0, c1, c5, rfl, hle⟩
    have HLE := Lib.hid hle; clear hle
    go_wp2_with fail
    refine at_world (F := fun W' => Calls _ _ _ W' _) (fun W => LO w4 W (m + 2) c0 c1 c5 A0 A1 A5 (leaseC n r term (MF M m term tq)) (holdsF n r term (MF M m term tq)) (keepsF n r term (MF M m term tq)) w5.heap.size) (LO.made HLE.out) ?_
    intro W hW
    obtain ⟨b, hb0⟩ : ∃ b, w5.heap.size = b := ⟨_, rfl⟩
    rw [hb0] at hW
    rw [hb0]
    have HW := Lib.hid hW
    clear hW hb0 HLE
    have HBW := Lib.hid (HB4.out.trans (HW.out.le.bel.mono HB4.out.size))
    refine (bool_is (leased_any r n cap w.heap.size A term ((m : Int) + 2) W HN.out (HR.out.below HBW.out)) HB.out).mono ?_
    rintro e w6 ⟨rfl, rfl⟩
    obtain ⟨s0, s1, s2⟩ := HW.out.cells
    obtain ⟨g0, g1, g3, rfl, rfl, rfl, hcl⟩ := HW.out.rows (by omega)
    have hk0 := app_new ((⟨fun _ => 0, fun _ => 0, fun _ => 0, fun _ => 0⟩ : Mv).app 0 M) m (M2 term tq) 0
    have hk1 := app_new ((⟨fun _ => 0, fun _ => 0, fun _ => 0, fun _ => 0⟩ : Mv).app 0 M) m (M2 term tq) 1
    have hf := lease_free HOK.out (MF M m term tq) m ⟨hk0.1, hk0.2.2.2⟩ hk1.1
    have ht : (MF M m term tq).t (m + 1) = tq := hk1.2.2.1
    rw [ht] at hf
    obtain ⟨_, d1, d2⟩ := hcl m (by omega)
    obtain ⟨e0, _, e2⟩ := hcl (m + 1) (by omega)
    obtain ⟨h1, h2, h3⟩ := hf
    rw [h1] at d1
    rw [h2] at d2
    obtain ⟨n1, n6⟩ := HOK.out.sz
    by_cases hq : tq < 1 ∨ n ≤ tq
    · rw [if_pos hq] at h3
      rw [h3] at e0
      clear h1 h2 h3 ht hk0 hk1 hcl e2
      rcases hq with hq | hq
      all_goals
        go_wp2
        go_ret
        exact ⟨rfl, HBW.out⟩
    · rw [if_neg hq] at h3
      obtain ⟨q, hqe⟩ := Int.eq_ofNat_of_zero_le (show 0 ≤ tq by omega)
      have hq1 : 1 ≤ q := by omega
      have hqn : q < n := by omega
      have h4 : keepsF n r term (MF M m term tq) (m + 1) = 2 ^ q := by rw [h3.2, hqe]; rfl
      have hw := word_eq h4 (by omega)
      rw [h3.1] at e0
      generalize keepsF n r term (MF M m term tq) (m + 1) = y at e2 hw
      clear h1 h2 h3 h4 ht hk0 hk1 hcl hq
      generalize hz : MF M m term tq = MM at HW HBW
      clear hz
      subst hqe
      go_wp2
      go_ret
      exact ⟨rfl, HBW.out⟩
end Go.Proofs.Ytcipdjdbafngkaa
