/- The law CopiesRise, walked. -/
import Derived.Test.YtoakgoigamigjaaCoPlay
import Derived.Test.YtoakgoigamigjaaPlayed
import Derived.Test.YtoakgoigamigjaaMod
set_option linter.unusedVariables false
set_option linter.unusedSimpArgs false
namespace Go.Proofs.Ytoakgoigamigjaa
open Go.RowKit

theorem co_bad' (n : Int) (m cap : Nat) (A : Option Addr) (w : World) (hm : m ≤ maxLen) (hb : playedB n m = false) :
    Calls Try.prog 7 #[.int .i64 n, .slice A m cap] w fun e w' => e = .returned (.tuple #[.agg #[.slice none 0 0, .slice none 0 0, .slice none 0 0, .slice none 0 0], .int .i64 1]) ∧ Below w.heap.size w w' :=
  co_bad n m cap A w hm fun h => by rw [playedB_iff.2 h] at hb; cases hb
set_option maxRecDepth 100000 in
set_option maxHeartbeats 6400000 in
theorem copiesRise_good (n k i m cap : Nat) (A : Option Addr) (M : Mv) (w : World) (hk : k < 256) (hmc : m ≤ cap) (hcap : cap ≤ maxLen) (hr : Rd w w.heap.size A (m * 4) (mvF M)) (hki : ((k : Int) % ((m : Int) + 1)) = (i : Int)) (him : i ≤ m) (h1 : 1 ≤ n) (h6 : n ≤ 6) (hm6 : m ≤ 60) :
    Calls Try.prog 3 #[.int .i64 n, .slice A m cap, .int .u8 k] w fun e w' => e = .returned (.bool true) ∧ Below w.heap.size w w' := by
  have hk0 : (0 : Int) ≤ (k : Int) % ((m : Int) + 1) := by rw [hki]; omega
  have hk1 : (k : Int) % ((m : Int) + 1) ≤ (cap : Int) := by rw [hki]; omega
  have HR := Lib.hid hr; clear hr
  have HKN : Hid (k % (m + 1) = i) := mod_nat hki
  have HRI := Lib.hid (fun a b (ha : a < n) (hb : b < n) => rise_law (n := n) ⟨h1, by omega⟩ M him ha hb)
  clear hki
  unfold maxLen at hcap
  go_enter Try.func3, Try.ntmps3
  go_wp2_with fail
  refine (co_good n m cap _ A M w h1 h6 hm6 (Nat.le_refl _) HR.out).mono ?_
  rintro e w1 ⟨v, rfl, g, gl, b, AO, cO, AC, cC, AS, cS, AV, cV, rfl, hL⟩
  have HL := Lib.hid hL; clear hL
  go_wp2_with fail
  rw [HKN.out]
  have HL1 := Lib.hid (HL.out.newB [.slice AC m cC, .slice AO (coE n M m).ops.length cO, .slice AS n cS, .slice AV n cV] 27 4 rfl _ rfl)
  clear HL
  refine at_lay (F := fun W' => Calls _ _ _ W' _) HL1.out ?_
  intro W hW
  have HW := Lib.hid hW
  clear hW HL1
  generalize w1.heap.size = bb at HW ⊢
  refine (co_good n i cap _ A M W h1 h6 (by omega) HW.out.size ((HR.out.less (by omega)).below HW.out.bel)).mono ?_
  rintro e w2 ⟨v, rfl, g2, gl2, b2, AO2, cO2, AC2, cC2, AS2, cS2, AV2, cV2, rfl, hL2⟩
  have HL2 := Lib.hid (HW.out.join hL2)
  clear hL2 HW HKN
  go_upto_region 4 with (fail)
  have HL3 := Lib.hid (HL2.out.newB [.slice AC2 i cC2, .slice AO2 (coE n M i).ops.length cO2, .slice AS2 n cS2, .slice AV2 n cV2] 27 4 rfl _ rfl)
  clear HL2
  refine at_lay (F := fun W' => Code.wp _ _ _ _ W') HL3.out ?_
  intro W3 hW
  have HW := Lib.hid hW
  clear hW HL3
  generalize w2.heap.size = bb2 at HW ⊢
  obtain ⟨gS, rfl, -⟩ := (HW.out.own 13 _ rfl).pos1 (by show 0 < n; omega)
  obtain ⟨gV, rfl, -⟩ := (HW.out.own 14 _ rfl).pos1 (by show 0 < n; omega)
  obtain ⟨gS2, rfl, -⟩ := (HW.out.own 5 _ rfl).pos1 (by show 0 < n; omega)
  obtain ⟨gV2, rfl, -⟩ := (HW.out.own 6 _ rfl).pos1 (by show 0 < n; omega)
  obtain ⟨s, hs⟩ : ∃ s, coE n M m = s := ⟨_, rfl⟩
  obtain ⟨p, hp⟩ : ∃ p, coE n M i = p := ⟨_, rfl⟩
  rw [hs] at HW HRI ⊢
  rw [hp] at HW HRI ⊢
  clear hs hp
  have c0 := HW.out.cellB 8 rfl 0 (by omega)
  have c2 := HW.out.cellB 8 rfl 2 (by omega)
  have c3 := HW.out.cellB 8 rfl 3 (by omega)
  have d2 := HW.out.cellB 0 rfl 2 (by omega)
  have d3 := HW.out.cellB 0 rfl 3 (by omega)
  simp only [ofL_0, ofL_2, ofL_3] at c0 c2 c3 d2 d3
  have HST := Lib.hid (fun a (ha : a < n) => HW.out.cell1 13 rfl (j := a) ha)
  have HSV := Lib.hid (fun a (ha : a < n) => HW.out.cell1 14 rfl (j := a) ha)
  have HPT := Lib.hid (fun a (ha : a < n) => HW.out.cell1 5 rfl (j := a) ha)
  have HPV := Lib.hid (fun a (ha : a < n) => HW.out.cell1 6 rfl (j := a) ha)
  have HBL := Lib.hid HW.out.bel
  have HC2 := Lib.hid c2
  have HC3 := Lib.hid c3
  have HD2 := Lib.hid d2
  have HD3 := Lib.hid d3
  go_wp2
  clear HW c0 c2 c3 d2 d3
  go_loopw [12] (fun z wr => ∃ a : Nat, a ≤ n ∧ z = .int .i64 a ∧ Hid (Sim W3 wr)) (fun z _ => n - (intOf z).toNat)
  case atStart => exact ⟨0, by omega, rfl, Lib.hid ⟨rfl, rfl, rfl, rfl⟩⟩
  case round =>
    obtain ⟨a, ha, rfl, HS⟩ := hrel
    by_cases han : a < n
    · have c2' := (cell_sim HS.out _).trans HC2.out
      have d2' := (cell_sim HS.out _).trans HD2.out
      have r1 := (cell_sim HS.out _).trans (HST.out a han)
      have r2 := (cell_sim HS.out _).trans (HPT.out a han)
      have hle := (HRI.out a a han han).1
      have hge : ¬ ((s.S a : Int) < (p.S a : Int)) := by omega
      have e1 : decide ((s.S a : Int) < (p.S a : Int)) = false := decide_eq_false hge
      have e2 : decide (s.S a < p.S a) = false := decide_eq_false (by omega)
      have hge2 : ¬ (s.S a < p.S a) := by omega
      go_wp2
      refine wp_text_all (by kernel_rfl) (by kernel_rfl) (by kernel_rfl) (by repeat' (first | (with_reducible apply tame_then) | (with_reducible apply tame_block) | (with_reducible apply tame_scope) | exact tame_gives | exact tame_body (fun _ _ h => ⟨_, h.1⟩))) ?_
      go_wp2
      refine headed ?_
      go_wp2
      clear c2' d2' r1 r2 hle hge e1 e2 hge2
      go_loopw [13] (fun z wr => ∃ b : Nat, b ≤ n ∧ z = .int .i64 b ∧ Hid (Sim W3 wr)) (fun z _ => n - (intOf z).toNat)
      case atStart => exact ⟨0, by omega, rfl, HS⟩
      case round =>
        clear HS
        obtain ⟨b, hb, rfl, HS⟩ := hrel
        by_cases hbn : b < n
        · have c2' := (cell_sim HS.out _).trans HC2.out
          have c3' := (cell_sim HS.out _).trans HC3.out
          have d2' := (cell_sim HS.out _).trans HD2.out
          have d3' := (cell_sim HS.out _).trans HD3.out
          have r1 := (cell_sim HS.out _).trans (HST.out a han)
          have r2 := (cell_sim HS.out _).trans (HSV.out a han)
          have r3 := (cell_sim HS.out _).trans (HPT.out b hbn)
          have r4 := (cell_sim HS.out _).trans (HPV.out b hbn)
          have r5 := (cell_sim HS.out _).trans (HST.out b hbn)
          have r6 := (cell_sim HS.out _).trans (HSV.out b hbn)
          obtain ⟨-, heq1, heq2⟩ := HRI.out a b han hbn
          obtain ⟨x, hx⟩ : ∃ x, s.S a = x := ⟨_, rfl⟩
          obtain ⟨y, hy⟩ : ∃ y, p.S b = y := ⟨_, rfl⟩
          obtain ⟨z, hz⟩ : ∃ z, s.S b = z := ⟨_, rfl⟩
          obtain ⟨u, hu⟩ : ∃ u, s.V a = u := ⟨_, rfl⟩
          obtain ⟨v, hv⟩ : ∃ v, p.V b = v := ⟨_, rfl⟩
          obtain ⟨t, ht⟩ : ∃ t, s.V b = t := ⟨_, rfl⟩
          rw [hx, hy, hu, hv] at heq1
          rw [hx, hz, hu, ht] at heq2
          rw [hx] at r1
          rw [hu] at r2
          rw [hy] at r3
          rw [hv] at r4
          rw [hz] at r5
          rw [ht] at r6
          clear hx hy hz hu hv ht
          by_cases hxy : x = y
          · have hq1 := heq1 hxy
            clear heq1
            subst hxy
            subst hq1
            by_cases hxz : x = z
            · have hq2 := heq2 hxz
              clear heq2
              subst hxz
              subst hq2
              go_wp2
              refine wp_text_all (by kernel_rfl) (by kernel_rfl) (by kernel_rfl) (by repeat' (first | (with_reducible apply tame_then) | (with_reducible apply tame_block) | (with_reducible apply tame_scope) | exact tame_gives | exact tame_body (fun _ _ h => ⟨_, h.1⟩))) ?_
              go_wp2
              refine headed ?_
              go_wp2
              go_roundw
              case rel => exact ⟨b + 1, by omega, by go_num, HS⟩
              case measure => simp [intOf]; omega
            · clear heq2
              have e1 : ((x : Int) == (z : Int)) = false := by rw [beq_eq_false_iff_ne]; omega
              have e2 : (x == z) = false := by simpa using hxz
              clear hxz
              go_wp2
              refine wp_text_all (by kernel_rfl) (by kernel_rfl) (by kernel_rfl) (by repeat' (first | (with_reducible apply tame_then) | (with_reducible apply tame_block) | (with_reducible apply tame_scope) | exact tame_gives | exact tame_body (fun _ _ h => ⟨_, h.1⟩))) ?_
              go_wp2
              refine headed ?_
              go_wp2
              go_roundw
              case rel => exact ⟨b + 1, by omega, by go_num, HS⟩
              case measure => simp [intOf]; omega
          · clear heq1
            have e1 : ((x : Int) == (y : Int)) = false := by rw [beq_eq_false_iff_ne]; omega
            have e2 : (x == y) = false := by simpa using hxy
            clear hxy
            by_cases hxz : x = z
            · have hq2 := heq2 hxz
              clear heq2
              subst hxz
              subst hq2
              go_wp2
              refine wp_text_all (by kernel_rfl) (by kernel_rfl) (by kernel_rfl) (by repeat' (first | (with_reducible apply tame_then) | (with_reducible apply tame_block) | (with_reducible apply tame_scope) | exact tame_gives | exact tame_body (fun _ _ h => ⟨_, h.1⟩))) ?_
              go_wp2
              refine headed ?_
              go_wp2
              go_roundw
              case rel => exact ⟨b + 1, by omega, by go_num, HS⟩
              case measure => simp [intOf]; omega
            · clear heq2
              have e3 : ((x : Int) == (z : Int)) = false := by rw [beq_eq_false_iff_ne]; omega
              have e4 : (x == z) = false := by simpa using hxz
              clear hxz
              go_wp2
              refine wp_text_all (by kernel_rfl) (by kernel_rfl) (by kernel_rfl) (by repeat' (first | (with_reducible apply tame_then) | (with_reducible apply tame_block) | (with_reducible apply tame_scope) | exact tame_gives | exact tame_body (fun _ _ h => ⟨_, h.1⟩))) ?_
              go_wp2
              refine headed ?_
              go_wp2
              go_roundw
              case rel => exact ⟨b + 1, by omega, by go_num, HS⟩
              case measure => simp [intOf]; omega
        · go_wp2
          go_roundw
          case rel => exact ⟨a + 1, by omega, by go_num, HS⟩
          case measure => simp [intOf]; omega
    · go_wp2
      go_ret
      exact ⟨rfl, below_sim HBL.out HS.out⟩
theorem copiesRise_bad (n : Int) (k i m cap : Nat) (A : Option Addr) (M : Mv) (w : World) (hk : k < 256) (hmc : m ≤ cap) (hcap : cap * 32 ≤ 140737488351232) (hr : Rd w w.heap.size A (m * 4) (mvF M)) (hki : ((k : Int) % ((m : Int) + 1)) = (i : Int)) (him : i ≤ m) (hb : playedB n m = false) :
    Calls Try.prog 3 #[.int .i64 n, .slice A m cap, .int .u8 k] w fun e w' => e = .returned (.bool true) ∧ Below w.heap.size w w' := by
  have hk0 : (0 : Int) ≤ (k : Int) % ((m : Int) + 1) := by rw [hki]; omega
  have hk1 : (k : Int) % ((m : Int) + 1) ≤ (cap : Int) := by rw [hki]; omega
  have HR := Lib.hid hr; clear hr
  have HKN : Hid (k % (m + 1) = i) := mod_nat hki
  clear hki
  have HB := Lib.hid hb; clear hb
  have HM : Hid (m ≤ maxLen) := by show m ≤ maxLen; unfold maxLen; omega
  go_enter Try.func3, Try.ntmps3
  go_wp2_with fail
  refine (co_bad' n m cap A w HM.out HB.out).mono ?_
  rintro e w1 ⟨rfl, hb1⟩
  have HB1 := Lib.hid (hb1.alloc hb1.size (.cells #[.slice none 0 0, .slice none 0 0, .slice none 0 0, .slice none 0 0] 27)); clear hb1
  go_wp2_with fail
  rw [HKN.out]
  generalize w1.alloc (.cells #[.slice none 0 0, .slice none 0 0, .slice none 0 0, .slice none 0 0] 27) = W1 at HB1 ⊢
  cases h2 : playedB n i
  · have HN2 := Lib.hid h2; clear h2
    refine (co_bad' n i cap A W1 (Nat.le_trans him HM.out) HN2.out).mono ?_
    rintro e w2 ⟨rfl, hb2⟩
    have HB2 := Lib.hid (HB1.out.trans (hb2.mono HB1.out.size)); clear hb2
    go_wp2_with (go_at_call 8; refine (bool_is (played_any n m _) HB.out).mono ?_; rintro e w3 ⟨rfl, rfl⟩)
    go_ret
    exact ⟨rfl, HB2.out.alloc HB2.out.size _⟩
  · obtain ⟨h3, h4, h5⟩ := playedB_iff.1 h2
    clear h2
    obtain ⟨n, rfl⟩ := Int.eq_ofNat_of_zero_le (show 0 ≤ n by omega)
    refine (co_good n i cap _ A M W1 (by omega) (by omega) (by omega) HB1.out.size ((HR.out.less (by omega)).below HB1.out)).mono ?_
    rintro e w2 ⟨v, rfl, g2, gl2, b2, AO2, cO2, AC2, cC2, AS2, cS2, AV2, cV2, rfl, hL2⟩
    have HB2 := Lib.hid (HB1.out.trans (hL2.bel.mono HB1.out.size))
    clear hL2
    go_wp2_with (go_at_call 8; refine (bool_is (played_any n m _) HB.out).mono ?_; rintro e w3 ⟨rfl, rfl⟩)
    go_ret
    exact ⟨rfl, HB2.out.alloc HB2.out.size _⟩
theorem copiesRise_all (n : Int) (A : Option Addr) (m cap : Nat) (M : Mv) (k : Int) (w : World) (_ : (Lit.int .i64 n).wf = true) (hmc : m ≤ cap ∧ cap * 32 ≤ 140737488351232) (hr : Rd w w.heap.size A (m * 4) (mvF M)) (hk : (Lit.int .u8 k).wf = true) :
    Calls Try.prog 3 #[.int .i64 n, .slice A m cap, .int .u8 k] w fun e w' => e = .returned (.bool true) ∧ Below w.heap.size w w' := by
  obtain ⟨k, rfl, hk2⟩ := u8_nat hk
  obtain ⟨i, hi1, hi2, _⟩ := mod_some k m
  have hcap : cap ≤ maxLen := by unfold maxLen; omega
  cases hb : playedB n m
  · exact copiesRise_bad n k i m cap A M w hk2 hmc.1 hmc.2 hr hi1 hi2 hb
  · obtain ⟨h1, h2, h3⟩ := playedB_iff.1 hb
    obtain ⟨n, rfl⟩ := Int.eq_ofNat_of_zero_le (show 0 ≤ n by omega)
    exact copiesRise_good n k i m cap A M w hk2 hmc.1 hcap hr hi1 hi2 (by omega) (by omega) (by omega)
end Go.Proofs.Ytoakgoigamigjaa
