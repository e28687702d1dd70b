/- The law CommitStays, walked. -/
import Derived.Test.YtifbjnlbohigkaaCommitOne
import Derived.Test.YtifbjnlbohigkaaMod
set_option linter.unusedVariables false
set_option linter.unusedSimpArgs false
namespace Go.Proofs.Ytifbjnlbohigkaa
open Go.RowKit

abbrev rowsS (b n gs : Nat) (A : Option Addr) (m cap : Nat) (R : List LRow) : List LRow := blk b 26 2 (ofL [.slice A m cap, .slice (some ⟨gs, 0, none⟩) n n]) :: R
theorem stays_vals {n : Nat} {M : Mv} {i m p : Nat} (him : i ≤ m) {x y : Int} (hx : (cmE n M i).st p = x) (hy : (cmE n M m).st p = y) : x = 0 ∨ (x = 1 ∧ (y == 0) = false) ∨ (x = 2 ∧ y = 2) ∨ (x = 3 ∧ y = 3) := by
  have h := com_stays (n := n) (M := M) (q := i) p (m - i)
  rw [show i + (m - i) = m by omega, hx, hy] at h
  have hr := CI.all n M i p
  rw [hx] at hr
  rcases (show x = 0 ∨ x = 1 ∨ x = 2 ∨ x = 3 by omega) with rfl | rfl | rfl | rfl
  · exact .inl rfl
  · exact .inr (.inl ⟨rfl, by simpa using h.2 (by decide)⟩)
  · exact .inr (.inr (.inl ⟨rfl, h.1 rfl⟩))
  · exact .inr (.inr (.inr ⟨rfl, h.1 rfl⟩))

set_option maxRecDepth 100000 in
set_option maxHeartbeats 3200000 in
theorem commitStays_good (n k i m cap : Nat) (A : Option Addr) (M : Mv) (w : World) (hk : k < 256) (hmc : m ≤ cap) (hcap : cap ≤ maxLen) (hr : Rd w w.heap.size A (m * 4) (mvF M)) (hki : ((k : Int) % ((m : Int) + 1)) = (i : Int)) (him : i ≤ m) (h1 : 1 ≤ n) (h6 : n ≤ 6) (hm6 : m ≤ 60) :
    Calls Try.prog 4 #[.int .i64 n, .slice A m cap, .int .u8 k] w fun e w' => e = .returned (.bool true) ∧ Below w.heap.size w w' := by
  have hk0 : (0 : Int) ≤ (k : Int) % ((m : Int) + 1) := by rw [hki]; omega
  have hk1 : (k : Int) % ((m : Int) + 1) ≤ (cap : Int) := by rw [hki]; omega
  have HR := Lib.hid hr; clear hr
  have HKN : Hid (k % (m + 1) = i) := mod_nat hki
  clear hki
  unfold maxLen at hcap
  go_enter Try.func4, Try.ntmps4
  go_wp2_with fail
  refine (com_good n m cap _ A M w h1 h6 hm6 (Nat.le_refl _) HR.out).mono ?_
  rintro e w1 ⟨v, rfl, g, gs, gg, gy, A1, c1, rfl, hL⟩
  have HL := Lib.hid hL; clear hL
  go_wp2_with fail
  rw [HKN.out]
  have HL1 := Lib.hid (HL.out.newB [.slice A1 m c1, .slice (some ⟨gs, 0, none⟩) n n] 26 2 rfl _ rfl)
  clear HL
  refine at_lay (F := fun W' => Calls _ _ _ W' _) HL1.out ?_
  intro W hW
  have HW := Lib.hid hW
  clear hW HL1
  generalize w1.heap.size = b at HW ⊢
  refine (com_good n i cap _ A M W h1 h6 (by omega) HW.out.size ((HR.out.less (by omega)).below HW.out.bel)).mono ?_
  rintro e w2 ⟨v, rfl, g2, gs2, gg2, gy2, A2, c2, rfl, hL2⟩
  have HL2 := Lib.hid (HW.out.join hL2)
  clear hL2 HW HKN
  go_upto_region 4 with (fail)
  have HL3 := Lib.hid (HL2.out.newB [.slice A2 i c2, .slice (some ⟨gs2, 0, none⟩) n n] 26 2 rfl _ rfl)
  clear HL2
  refine at_lay (F := fun W' => Code.wp _ _ _ _ W') HL3.out ?_
  intro W3 hW
  have HW := Lib.hid hW
  clear hW HL3
  generalize w2.heap.size = b2 at HW ⊢
  have c0 := HW.out.cellB 0 rfl 0 (by omega)
  have c1' := HW.out.cellB 0 rfl 1 (by omega)
  have d0 := HW.out.cellB 7 rfl 0 (by omega)
  have d1 := HW.out.cellB 7 rfl 1 (by omega)
  simp only [ofL_0, ofL_1] at c0 c1' d0 d1
  have HRI := Lib.hid (fun p (hp : p < n) => HW.out.cell1 2 rfl (j := p) hp)
  have HRM := Lib.hid (fun p (hp : p < n) => HW.out.cell1 9 rfl (j := p) hp)
  have HBL := Lib.hid HW.out.bel
  clear HW
  go_wp2
  go_loopw [12] (fun p wr => ∃ a : Nat, a ≤ n ∧ p = .int .i64 a ∧ Hid (Sim W3 wr)) (fun p _ => n - (intOf p).toNat)
  case atStart => exact ⟨0, by omega, rfl, Lib.hid ⟨rfl, rfl, rfl, rfl⟩⟩
  case round =>
    obtain ⟨a, ha, rfl, HS⟩ := hrel
    by_cases han : a < n
    · have c0' := (cell_sim HS.out _).trans c0
      have c1'' := (cell_sim HS.out _).trans c1'
      have d0' := (cell_sim HS.out _).trans d0
      have d1' := (cell_sim HS.out _).trans d1
      have r1 := (cell_sim HS.out _).trans (HRI.out a han)
      have r2 := (cell_sim HS.out _).trans (HRM.out a han)
      obtain ⟨x, hx⟩ : ∃ x, (cmE n M i).st a = x := ⟨_, rfl⟩
      obtain ⟨y, hy⟩ : ∃ y, (cmE n M m).st a = y := ⟨_, rfl⟩
      have hv := stays_vals him hx hy
      rw [hx] at r1
      rw [hy] at r2
      clear hx hy c0 c1' d0 d1
      rcases hv with rfl | ⟨rfl, hv⟩ | ⟨rfl, rfl⟩ | ⟨rfl, rfl⟩
      all_goals
        go_wp2
        refine wp_text_all (by kernel_rfl) (by kernel_rfl) (by kernel_rfl) (by repeat' (first | (with_reducible apply tame_then) | (with_reducible apply tame_block) | (with_reducible apply tame_scope) | exact tame_gives | exact tame_body (fun _ _ h => ⟨_, h.1⟩))) ?_
        go_wp2
        refine headed ?_
        go_wp2
        go_roundw
        case rel => exact ⟨a + 1, by omega, by go_num, HS⟩
        case measure => simp [intOf]; omega
    · go_wp2
      go_ret
      exact ⟨rfl, below_sim HBL.out HS.out⟩
theorem commitStays_bad (n : Int) (k i m cap : Nat) (A : Option Addr) (M : Mv) (w : World) (hk : k < 256) (hmc : m ≤ cap) (hcap : cap * 32 ≤ 140737488351232) (hr : Rd w w.heap.size A (m * 4) (mvF M)) (hki : ((k : Int) % ((m : Int) + 1)) = (i : Int)) (him : i ≤ m) (hb : playedB n m = false) :
    Calls Try.prog 4 #[.int .i64 n, .slice A m cap, .int .u8 k] w fun e w' => e = .returned (.bool true) ∧ Below w.heap.size w w' := by
  have hk0 : (0 : Int) ≤ (k : Int) % ((m : Int) + 1) := by rw [hki]; omega
  have hk1 : (k : Int) % ((m : Int) + 1) ≤ (cap : Int) := by rw [hki]; omega
  have HR := Lib.hid hr; clear hr
  have HKN : Hid (k % (m + 1) = i) := mod_nat hki
  clear hki
  have HB := Lib.hid hb; clear hb
  have HM : Hid (m ≤ maxLen) := by show m ≤ maxLen; unfold maxLen; omega
  go_enter Try.func4, Try.ntmps4
  go_wp2_with fail
  refine (com_bad' n m cap A w HM.out HB.out).mono ?_
  rintro e w1 ⟨rfl, hb1⟩
  have HB1 := Lib.hid (hb1.alloc hb1.size (.cells #[.slice none 0 0, .slice none 0 0] 26)); clear hb1
  go_wp2_with fail
  rw [HKN.out]
  generalize w1.alloc (.cells #[.slice none 0 0, .slice none 0 0] 26) = W1 at HB1 ⊢
  cases h2 : playedB n i
  · have HN2 := Lib.hid h2; clear h2
    refine (com_bad' n i cap A W1 (Nat.le_trans him HM.out) HN2.out).mono ?_
    rintro e w2 ⟨rfl, hb2⟩
    have HB2 := Lib.hid (HB1.out.trans (hb2.mono HB1.out.size)); clear hb2
    go_wp2_with (go_at_call 8; refine (bool_is (played_any n m _) HB.out).mono ?_; rintro e w3 ⟨rfl, rfl⟩)
    go_ret
    exact ⟨rfl, HB2.out.alloc HB2.out.size _⟩
  · obtain ⟨h3, h4, h5⟩ := playedB_iff.1 h2
    clear h2
    obtain ⟨n, rfl⟩ := Int.eq_ofNat_of_zero_le (show 0 ≤ n by omega)
    refine (com_good n i cap _ A M W1 (by omega) (by omega) (by omega) HB1.out.size ((HR.out.less (by omega)).below HB1.out)).mono ?_
    rintro e w2 ⟨v, rfl, g2, gs2, gg2, gy2, A2, c2, rfl, hL2⟩
    have HB2 := Lib.hid (HB1.out.trans (hL2.bel.mono HB1.out.size))
    clear hL2
    go_wp2_with (go_at_call 8; refine (bool_is (played_any n m _) HB.out).mono ?_; rintro e w3 ⟨rfl, rfl⟩)
    go_ret
    exact ⟨rfl, HB2.out.alloc HB2.out.size _⟩
theorem commitStays_all (n : Int) (A : Option Addr) (m cap : Nat) (M : Mv) (k : Int) (w : World) (_ : (Lit.int .i64 n).wf = true) (hmc : m ≤ cap ∧ cap * 32 ≤ 140737488351232) (hr : Rd w w.heap.size A (m * 4) (mvF M)) (hk : (Lit.int .u8 k).wf = true) :
    Calls Try.prog 4 #[.int .i64 n, .slice A m cap, .int .u8 k] w fun e w' => e = .returned (.bool true) ∧ Below w.heap.size w w' := by
  obtain ⟨k, rfl, hk2⟩ := u8_nat hk
  obtain ⟨i, hi1, hi2, _⟩ := mod_some k m
  have hcap : cap ≤ maxLen := by unfold maxLen; omega
  cases hb : playedB n m
  · exact commitStays_bad n k i m cap A M w hk2 hmc.1 hmc.2 hr hi1 hi2 hb
  · obtain ⟨h1, h2, h3⟩ := playedB_iff.1 hb
    obtain ⟨n, rfl⟩ := Int.eq_ofNat_of_zero_le (show 0 ≤ n by omega)
    exact commitStays_good n k i m cap A M w hk2 hmc.1 hcap hr hi1 hi2 (by omega) (by omega) (by omega)
end Go.Proofs.Ytifbjnlbohigkaa
