/- The law SnapFront, walked. -/
import Derived.Test.YtfcgjmekeonemaaSnLaw
import Derived.Test.YtfcgjmekeonemaaCodes
import Derived.Test.YtfcgjmekeonemaaMod
set_option linter.unusedVariables false
set_option linter.unusedSimpArgs false
namespace Go.Proofs.Ytfcgjmekeonemaa
open Go.RowKit

set_option maxRecDepth 100000 in
set_option maxHeartbeats 3200000 in
theorem snapFront_good (n k i m cap : Nat) (A : Option Addr) (M : Mv) (w : World) (hk : k < 256) (hmc : m ≤ cap) (hcap : cap ≤ maxLen) (hr : Rd w w.heap.size A (m * 4) (mvF M)) (hki : ((k : Int) % ((m : Int) + 1)) = (i : Int)) (him : i ≤ m) (h1 : 1 ≤ n) (h6 : n ≤ 6) (hm6 : m ≤ 60) :
    Calls Try.prog 7 #[.int .i64 n, .slice A m cap, .int .u8 k] w fun e w' => e = .returned (.bool true) ∧ Below w.heap.size w w' := by
  have hk0 : (0 : Int) ≤ (k : Int) % ((m : Int) + 1) := by rw [hki]; omega
  have hk1 : (k : Int) % ((m : Int) + 1) ≤ (cap : Int) := by rw [hki]; omega
  have HR := Lib.hid hr; clear hr
  have HKN : Hid (k % (m + 1) = i) := mod_nat hki
  have HKI := Lib.hid hki
  clear hki
  have HD : Hid (snDone n (snE n M i) = true → snDone n (snE n M m) = true) := Lib.hid fun h => by
    exact done_stays h6 M him h
  unfold maxLen at hcap
  go_enter Try.func7, Try.ntmps7
  go_wp2_with fail
  refine (sn_short n m cap _ A M w h1 h6 hm6 (Nat.le_refl _) HR.out).mono ?_
  rintro e w1 ⟨v, rfl, A1, c1, k1', w1', rfl, hL⟩
  have HL := Lib.hid hL; clear hL
  go_wp2_with fail
  rw [HKN.out]
  generalize snDone n (snE n M m) = d1 at HD ⊢
  have HL1 := Lib.hid (HL.out.newB [.slice A1 m c1, .bool d1, .slice (some ⟨k1', 0, none⟩) n n, .slice (some ⟨w1', 0, none⟩) n n] 37 4 rfl _ rfl)
  clear HL
  refine at_lay (F := fun W' => Calls _ _ _ W' _) HL1.out ?_
  intro W hW
  have HW := Lib.hid hW
  clear hW HL1
  generalize w1.heap.size = b at HW ⊢
  refine (sn_short n i cap _ A M W h1 h6 (by omega) HW.out.size ((HR.out.less (by omega)).below HW.out.bel)).mono ?_
  rintro e w2 ⟨v, rfl, A2, c2, k2', w2', rfl, hL2⟩
  have HL2 := Lib.hid (HW.out.join hL2)
  clear hL2 HW
  go_upto_region 4 with (fail)
  generalize snDone n (snE n M i) = d2 at HD ⊢
  have HL3 := Lib.hid (HL2.out.newB [.slice A2 i c2, .bool d2, .slice (some ⟨k2', 0, none⟩) n n, .slice (some ⟨w2', 0, none⟩) n n] 37 4 rfl _ rfl)
  clear HL2
  refine at_lay (F := fun W' => Code.wp _ _ _ _ W') HL3.out ?_
  intro W3 hW
  have HW : Hid (Lay w W3 [blkS w2.heap.size [.slice A2 i c2, .bool d2, .slice (some ⟨k2', 0, none⟩) n n, .slice (some ⟨w2', 0, none⟩) n n], lstE A2 i c2 (snC n M), blkS b [.slice A1 m c1, .bool d1, .slice (some ⟨k1', 0, none⟩) n n, .slice (some ⟨w1', 0, none⟩) n n], lstE A1 m c1 (snC n M)]) := hW
  clear hW HL3
  generalize w2.heap.size = b2 at HW ⊢
  have c0 := HW.out.cellB 0 rfl 0 (by omega)
  have c1' := HW.out.cellB 0 rfl 1 (by omega)
  have d0 := HW.out.cellB 2 rfl 0 (by omega)
  have d1' := HW.out.cellB 2 rfl 1 (by omega)
  simp only [ofL_0, ofL_1] at c0 c1' d0 d1'
  have hb1 := (HW.out.own 3 _ rfl).le
  have hb2 := (HW.out.own 1 _ rfl).le
  have hb1 : m ≤ c1 ∧ c1 ≤ maxLen := hb1
  have hb2 : i ≤ c2 ∧ c2 ≤ maxLen := hb2
  have HC := Lib.hid (codes_same A1 A2 i c1 c2 _ _ (snC n M) W3.drew (by omega) (((HW.out.drew.rd1 3 rfl)).less him) (HW.out.drew.rd1 1 rfl) ⟨by omega, hb1.2⟩ hb2)
  have hic : (i : Int) ≤ (c1 : Int) := by omega
  have hkc : (k : Int) % ((m : Int) + 1) ≤ (c1 : Int) := by rw [HKI.out]; exact hic
  have hc63 : (c1 : Int) ≤ 9223372036854775807 := by have := hb1.2; unfold maxLen at this; omega
  clear hb1 hb2
  go_wp2
  refine wp_text 17 (by kernel_rfl) (by kernel_rfl) (by kernel_rfl) (by repeat' (first | (with_reducible apply tame_then) | (with_reducible apply tame_block) | (with_reducible apply tame_scope) | exact tame_gives | exact tame_body (fun _ _ h => ⟨_, h.1⟩))) ?_
  simp only [List.take_succ_cons, List.take_zero, List.drop_succ_cons, List.drop_zero]
  go_wp2
  refine headed ?_
  go_wp2_with fail
  rw [HKN.out]
  refine HC.out.mono ?_
  rintro e w3 ⟨rfl, hs⟩
  have k1 := (cell_sim hs _).trans c1'
  have k2 := (cell_sim hs _).trans d1'
  have HBL := Lib.hid (below_sim HW.out.drew.bel hs)
  clear hs HC c0 c1' d0 d1'
  have hd := HD.out
  clear HD
  cases d2
  · clear hd
    go_wp2
    go_ret
    exact ⟨rfl, HBL.out⟩
  · have hd := hd rfl
    subst hd
    go_wp2
    go_ret
    exact ⟨rfl, HBL.out⟩
theorem snapFront_bad (n : Int) (k i m cap : Nat) (A : Option Addr) (M : Mv) (w : World) (hk : k < 256) (hmc : m ≤ cap) (hcap : cap * 32 ≤ 140737488351232) (hr : Rd w w.heap.size A (m * 4) (mvF M)) (hki : ((k : Int) % ((m : Int) + 1)) = (i : Int)) (him : i ≤ m) (hb : playedB n m = false) :
    Calls Try.prog 7 #[.int .i64 n, .slice A m cap, .int .u8 k] w fun e w' => e = .returned (.bool true) ∧ Below w.heap.size w w' := by
  have hk0 : (0 : Int) ≤ (k : Int) % ((m : Int) + 1) := by rw [hki]; omega
  have hk1 : (k : Int) % ((m : Int) + 1) ≤ (cap : Int) := by rw [hki]; omega
  have HR := Lib.hid hr; clear hr
  have HKN : Hid (k % (m + 1) = i) := mod_nat hki
  clear hki
  have HB := Lib.hid hb; clear hb
  have HM : Hid (m ≤ maxLen) := by show m ≤ maxLen; unfold maxLen; omega
  go_enter Try.func7, Try.ntmps7
  go_wp2_with fail
  refine (sn_bad n m cap A w HM.out HB.out).mono ?_
  rintro e w1 ⟨rfl, hb1⟩
  have HB1 := Lib.hid (hb1.alloc hb1.size (.cells #[.slice none 0 0, .bool false, .slice none 0 0, .slice none 0 0] 37)); clear hb1
  go_wp2_with fail
  rw [HKN.out]
  generalize w1.alloc (.cells #[.slice none 0 0, .bool false, .slice none 0 0, .slice none 0 0] 37) = W1 at HB1 ⊢
  cases h2 : playedB n i
  · have HN2 := Lib.hid h2; clear h2
    refine (sn_bad n i cap A W1 (Nat.le_trans him HM.out) HN2.out).mono ?_
    rintro e w2 ⟨rfl, hb2⟩
    have HB2 := Lib.hid (HB1.out.trans (hb2.mono HB1.out.size)); clear hb2
    go_wp2_with (go_at_call 9; refine (bool_is (played_any n m _) HB.out).mono ?_; rintro e w3 ⟨rfl, rfl⟩)
    go_ret
    exact ⟨rfl, HB2.out.alloc HB2.out.size _⟩
  · obtain ⟨h3, h4, h5⟩ := playedB_iff.1 h2
    clear h2
    obtain ⟨n, rfl⟩ := Int.eq_ofNat_of_zero_le (show 0 ≤ n by omega)
    refine (sn_short n i cap _ A M W1 (by omega) (by omega) (by omega) HB1.out.size ((HR.out.less (by omega)).below HB1.out)).mono ?_
    rintro e w2 ⟨v, rfl, A2, c2, k2', w2', rfl, hL2⟩
    have HB2 := Lib.hid (HB1.out.trans (hL2.bel.mono HB1.out.size))
    clear hL2
    generalize snDone n (snE n M i) = d2
    go_wp2_with (go_at_call 9; refine (bool_is (played_any n m _) HB.out).mono ?_; rintro e w3 ⟨rfl, rfl⟩)
    all_goals
      go_ret
      exact ⟨rfl, HB2.out.alloc HB2.out.size _⟩
theorem snapFront_all (n : Int) (A : Option Addr) (m cap : Nat) (M : Mv) (k : Int) (w : World) (_ : (Lit.int .i64 n).wf = true) (hmc : m ≤ cap ∧ cap * 32 ≤ 140737488351232) (hr : Rd w w.heap.size A (m * 4) (mvF M)) (hk : (Lit.int .u8 k).wf = true) :
    Calls Try.prog 7 #[.int .i64 n, .slice A m cap, .int .u8 k] w fun e w' => e = .returned (.bool true) ∧ Below w.heap.size w w' := by
  obtain ⟨k, rfl, hk2⟩ := u8_nat hk
  obtain ⟨i, hi1, hi2, _⟩ := mod_some k m
  have hcap : cap ≤ maxLen := by unfold maxLen; omega
  cases hb : playedB n m
  · exact snapFront_bad n k i m cap A M w hk2 hmc.1 hmc.2 hr hi1 hi2 hb
  · obtain ⟨h1, h2, h3⟩ := playedB_iff.1 hb
    obtain ⟨n, rfl⟩ := Int.eq_ofNat_of_zero_le (show 0 ≤ n by omega)
    exact snapFront_good n k i m cap A M w hk2 hmc.1 hcap hr hi1 hi2 (by omega) (by omega) (by omega)
end Go.Proofs.Ytfcgjmekeonemaa
