/- The law PaxosOne, walked. -/
import Derived.Test.YtpicmphimcgklaaPaxPlay
import Derived.Test.YtpicmphimcgklaaPlayed
set_option linter.unusedVariables false
set_option linter.unusedSimpArgs false
namespace Go.Proofs.Ytpicmphimcgklaa
open Go.RowKit

set_option maxRecDepth 100000 in
set_option maxHeartbeats 1600000 in
theorem pax_bad (n : Int) (m cap : Nat) (A : Option Addr) (w : World) (hm : m ≤ maxLen) (hb : ¬ (1 ≤ n ∧ n ≤ 6 ∧ (m : Int) ≤ 60)) :
    Calls Try.prog 6 #[.int .i64 n, .slice A m cap] w fun e w' => e = .returned (.tuple #[.agg #[.slice none 0 0, .int .i64 0, .slice none 0 0, .slice none 0 0, .slice none 0 0], .int .i64 1]) ∧ Below w.heap.size w w' := by
  unfold maxLen at hm
  have h' : n < 1 ∨ 6 < n ∨ 60 < m := by omega
  clear hb
  go_enter Try.func6, Try.ntmps6
  go_wp2
  all_goals first | ((try simp only [Exit.inBlock, Exit.then]); refine bodyPost_ret (v := .tuple #[.agg #[.slice none 0 0, .int .i64 0, .slice none 0 0, .slice none 0 0, .slice none 0 0], .int .i64 1]) (by simp [results, Try.results6, go_sem]) rfl ?_; exact ⟨rfl, (Below.refl _ _).alloc (Nat.le_refl _) _⟩) | (exfalso; omega)

theorem pax_good' (n : Int) (m cap B : Nat) (A : Option Addr) (M : Mv) (w : World) (hb : playedB n m = true) (hB : B ≤ w.heap.size) (hr : Rd w B A (m * 4) (mvF M)) :
    Calls Try.prog 6 #[.int .i64 n, .slice A m cap] w (Gives fun v w' => ∃ gP gT gV A' cap', v = .tuple #[.agg #[.slice A' m cap', .int .i64 (pxE n.toNat M m).ch, .slice (some ⟨gP, 0, none⟩) n.toNat n.toNat, .slice (some ⟨gT, 0, none⟩) n.toNat n.toNat, .slice (some ⟨gV, 0, none⟩) n.toNat n.toNat], .int .i64 0] ∧
      PF w w' n.toNat M m gP gT gV A' cap') := by
  have h := playedB_iff.1 hb
  obtain ⟨k, rfl⟩ := Int.eq_ofNat_of_zero_le (by omega : 0 ≤ n)
  rw [Int.toNat_natCast]
  exact pax_good k m cap B A M w (by omega) (by omega) (by omega) hB hr

theorem PAX_all (n : Int) (M : Mv) (m : Nat) (h1 : 1 ≤ n) (h6 : n ≤ 6) : PI n.toNat (pxE n.toNat M m) := PI.all (by omega) M m
theorem mod_nat {k m i : Nat} (h : ((k : Int) % ((m : Int) + 1)) = (i : Int)) : k % (m + 1) = i := by
  have h2 : ((k % (m + 1) : Nat) : Int) = i := by push_cast; exact h
  omega
theorem mod_some (k len : Nat) : ∃ m : Nat, ((k : Int) % ((len : Int) + 1)) = (m : Int) ∧ m ≤ len ∧ m = k % (len + 1) := by
  refine ⟨k % (len + 1), by simp, ?_, rfl⟩
  have := Nat.mod_lt k (show 0 < len + 1 by omega)
  omega
set_option maxRecDepth 100000 in
set_option maxHeartbeats 1600000 in
theorem paxosOne_good (n : Int) (k i m cap : Nat) (A : Option Addr) (M : Mv) (w : World) (hk : k < 256) (hmc : m ≤ cap) (hcap : cap * 32 ≤ 140737488351232) (hr : Rd w w.heap.size A (m * 4) (mvF M)) (hki : ((k : Int) % ((m : Int) + 1)) = (i : Int)) (him : i ≤ m) (hb : playedB n m = true) :
    Calls Try.prog 3 #[.int .i64 n, .slice A m cap, .int .u8 k] w fun e w' => e = .returned (.bool true) ∧ Below w.heap.size w w' := by
  obtain ⟨h1, h6, hm6⟩ := playedB_iff.1 hb
  have hk0 : (0 : Int) ≤ (k : Int) % ((m : Int) + 1) := by rw [hki]; omega
  have hk1 : (k : Int) % ((m : Int) + 1) ≤ (cap : Int) := by rw [hki]; omega
  have HR := Lib.hid hr; clear hr
  have HKN : Hid (k % (m + 1) = i) := mod_nat hki
  clear hki
  have HB := Lib.hid hb; clear hb
  have HBI : Hid (playedB n i = true) := playedB_iff.2 ⟨h1, h6, by omega⟩
  obtain ⟨r1, r2, r3⟩ := (PAX_all n M m h1 h6).ch_range (by omega)
  have hst := fun hq => px_stays (n := n.toNat) (by omega) M him hq
  have hq1 := ((PAX_all n M i h1 h6).ch_range (by omega)).1
  obtain ⟨p, hp⟩ : ∃ p, (pxE n.toNat M m).ch = p := ⟨_, rfl⟩
  obtain ⟨q, hq⟩ : ∃ q, (pxE n.toNat M i).ch = q := ⟨_, rfl⟩
  rw [hp] at r1 r2 r3 hst
  rw [hq] at hst hq1
  have HP := Lib.hid hp
  have HQ := Lib.hid hq
  clear hp hq
  have r2' : (p != 0) = true := by simpa using r2
  have hpq : q < 0 ∨ (0 ≤ q ∧ p = q) := by
    by_cases h : q = -1
    · exact .inl (by omega)
    · exact .inr ⟨by omega, hst h⟩
  clear hst
  go_enter Try.func3, Try.ntmps3
  go_wp2_with fail
  refine (pax_good' n m cap _ A M w HB.out (Nat.le_refl _) HR.out).mono ?_
  rintro e w1 ⟨v, rfl, gP, gT, gV, A1, c1, rfl, hp1⟩
  rw [HP.out]
  have HP1 := Lib.hid hp1; clear hp1
  go_wp2_with fail
  rw [HKN.out]
  have hz1 := HP1.out.bel.size
  have HW1 := Lib.hid (HP1.out.bel.alloc hz1 (.cells #[.slice A1 m c1, .int .i64 p, .slice (some ⟨gP, 0, none⟩) n.toNat n.toNat, .slice (some ⟨gT, 0, none⟩) n.toNat n.toNat, .slice (some ⟨gV, 0, none⟩) n.toNat n.toNat] 26))
  have hrow : (w1.alloc (.cells #[.slice A1 m c1, .int .i64 p, .slice (some ⟨gP, 0, none⟩) n.toNat n.toNat, .slice (some ⟨gT, 0, none⟩) n.toNat n.toNat, .slice (some ⟨gV, 0, none⟩) n.toNat n.toNat] 26)).heap[w1.heap.size]? = _ := heap_alloc_new w1 _
  have hzz : w1.heap.size < (w1.alloc (.cells #[.slice A1 m c1, .int .i64 p, .slice (some ⟨gP, 0, none⟩) n.toNat n.toNat, .slice (some ⟨gT, 0, none⟩) n.toNat n.toNat, .slice (some ⟨gV, 0, none⟩) n.toNat n.toNat] 26)).heap.size := by simp
  have HROW := Lib.hid hrow
  clear hrow
  generalize w1.alloc (.cells #[.slice A1 m c1, .int .i64 p, .slice (some ⟨gP, 0, none⟩) n.toNat n.toNat, .slice (some ⟨gT, 0, none⟩) n.toNat n.toNat, .slice (some ⟨gV, 0, none⟩) n.toNat n.toNat] 26) = W1 at HW1 HROW hzz ⊢
  refine (pax_good' n i cap _ A M W1 HBI.out HW1.out.size ((HR.out.less (by omega)).below HW1.out)).mono ?_
  rintro e w2 ⟨v, rfl, gP2, gT2, gV2, A2, c2, rfl, hp2⟩
  rw [HQ.out]
  have HW2 := Lib.hid (HW1.out.trans (hp2.bel.mono HW1.out.size))
  have HR2 := Lib.hid ((hp2.bel.block _ hzz).trans HROW.out)
  have hz2 := hp2.bel.size
  clear hp2 HROW
  have c0 : w2.cell? ⟨w1.heap.size, 0, none⟩ = some (.slice A1 m c1) := by rw [cell_of_row _ _ _ _ _ _ HR2.out]; rfl
  have c1' : w2.cell? ⟨w1.heap.size, 1, none⟩ = some (.int .i64 p) := by rw [cell_of_row _ _ _ _ _ _ HR2.out]; rfl
  have hzw : w1.heap.size < w2.heap.size := by omega
  clear HP HQ HKN HBI
  rcases hpq with hpq | ⟨hq0, rfl⟩
  all_goals
    go_wp2_with (go_at_call 7; refine (bool_is (played_any n m _) HB.out).mono ?_; rintro e w3 ⟨rfl, rfl⟩)
    go_ret
    exact ⟨rfl, HW2.out.alloc HW2.out.size _⟩

set_option maxRecDepth 100000 in
set_option maxHeartbeats 1600000 in
theorem paxosOne_bad (n : Int) (k i m cap : Nat) (A : Option Addr) (M : Mv) (w : World) (hk : k < 256) (hmc : m ≤ cap) (hcap : cap * 32 ≤ 140737488351232) (hr : Rd w w.heap.size A (m * 4) (mvF M)) (hki : ((k : Int) % ((m : Int) + 1)) = (i : Int)) (him : i ≤ m) (hb : playedB n m = false) :
    Calls Try.prog 3 #[.int .i64 n, .slice A m cap, .int .u8 k] w fun e w' => e = .returned (.bool true) ∧ Below w.heap.size w w' := by
  have hb' : ¬ (1 ≤ n ∧ n ≤ 6 ∧ (m : Int) ≤ 60) := fun h => by rw [playedB_iff.2 h] at hb; cases hb
  have hcap' : cap ≤ maxLen := by unfold maxLen; omega
  have hk0 : (0 : Int) ≤ (k : Int) % ((m : Int) + 1) := by rw [hki]; omega
  have hk1 : (k : Int) % ((m : Int) + 1) ≤ (cap : Int) := by rw [hki]; omega
  have HR := Lib.hid hr; clear hr
  have HKN : Hid (k % (m + 1) = i) := mod_nat hki
  clear hki
  have HB := Lib.hid hb; clear hb
  have HN := Lib.hid hb'; clear hb'
  have HC := Lib.hid hcap'; clear hcap'
  go_enter Try.func3, Try.ntmps3
  go_wp2_with fail
  refine (pax_bad n m cap A w (Nat.le_trans hmc HC.out) HN.out).mono ?_
  rintro e w1 ⟨rfl, hb1⟩
  have HB1 := Lib.hid (hb1.alloc hb1.size (.cells #[.slice none 0 0, .int .i64 0, .slice none 0 0, .slice none 0 0, .slice none 0 0] 26)); clear hb1
  go_wp2_with fail
  rw [HKN.out]
  generalize w1.alloc (.cells #[.slice none 0 0, .int .i64 0, .slice none 0 0, .slice none 0 0, .slice none 0 0] 26) = W1 at HB1 ⊢
  by_cases h2 : 1 ≤ n ∧ n ≤ 6 ∧ (i : Int) ≤ 60
  · have HBI := Lib.hid (playedB_iff.2 h2)
    refine (pax_good' n i cap _ A M W1 HBI.out HB1.out.size ((HR.out.less (by omega)).below HB1.out)).mono ?_
    rintro e w2 ⟨v, rfl, gP2, gT2, gV2, A2, c2, rfl, hp2⟩
    have HB2 := Lib.hid (HB1.out.trans (hp2.bel.mono HB1.out.size))
    clear hp2
    go_wp2_with (go_at_call 7; refine (bool_is (played_any n m _) HB.out).mono ?_; rintro e w3 ⟨rfl, rfl⟩)
    go_ret
    exact ⟨rfl, HB2.out.alloc HB2.out.size _⟩
  · have HN2 := Lib.hid h2; clear h2
    refine (pax_bad n i cap A W1 (Nat.le_trans (Nat.le_trans him hmc) HC.out) HN2.out).mono ?_
    rintro e w2 ⟨rfl, hb2⟩
    have HB2 := Lib.hid (HB1.out.trans (hb2.mono HB1.out.size)); clear hb2
    go_wp2_with (go_at_call 7; refine (bool_is (played_any n m _) HB.out).mono ?_; rintro e w3 ⟨rfl, rfl⟩)
    go_ret
    exact ⟨rfl, HB2.out.alloc HB2.out.size _⟩

theorem paxosOne_all (n : Int) (A : Option Addr) (m cap : Nat) (M : Mv) (k : Int) (w : World) (_ : (Lit.int .i64 n).wf = true) (hmc : m ≤ cap ∧ cap * 32 ≤ 140737488351232) (hr : Rd w w.heap.size A (m * 4) (mvF M)) (hk : (Lit.int .u8 k).wf = true) :
    Calls Try.prog 3 #[.int .i64 n, .slice A m cap, .int .u8 k] w fun e w' => e = .returned (.bool true) ∧ Below w.heap.size w w' := by
  obtain ⟨k, rfl, hk2⟩ := u8_nat hk
  obtain ⟨i, hi1, hi2, _⟩ := mod_some k m
  cases hb : playedB n m
  · exact paxosOne_bad n k i m cap A M w hk2 hmc.1 hmc.2 hr hi1 hi2 hb
  · exact paxosOne_good n k i m cap A M w hk2 hmc.1 hmc.2 hr hi1 hi2 hb
end Go.Proofs.Ytpicmphimcgklaa
