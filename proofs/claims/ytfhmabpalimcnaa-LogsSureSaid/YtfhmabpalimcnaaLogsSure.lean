/- The law LogsSure, walked. -/
import Derived.Test.YtfhmabpalimcnaaLg11
import Derived.Test.YtfhmabpalimcnaaMod
set_option linter.unusedVariables false
set_option linter.unusedSimpArgs false
namespace Go.Proofs.Ytfhmabpalimcnaa
open Go.RowKit

set_option maxRecDepth 100000 in
set_option maxHeartbeats 3200000 in
theorem logsSure_good (n k i m cap : Nat) (A : Option Addr) (M : Mv) (w : World) (hk : k < 256) (hmc : m ≤ cap) (hcap : cap ≤ maxLen) (hr : Rd w w.heap.size A (m * 4) (mvF M)) (hki : ((k : Int) % ((m : Int) + 1)) = (i : Int)) (him : i ≤ m) (h1 : 1 ≤ n) (h6 : n ≤ 6) (hm6 : m ≤ 60) :
    Calls Try.prog 4 #[.int .i64 n, .slice A m cap, .int .u8 k] w fun e w' => e = .returned (.bool true) ∧ Below w.heap.size w w' := by
  have HLAW : Hid (∀ x y, Cm (min ((lgE n M i).su x) ((lgE n M m).su y)) ((lgE n M i).lg x) ((lgE n M m).lg y)) := Lib.hid fun x y => lg_sure (by omega) him x y
  have hk0 : (0 : Int) ≤ (k : Int) % ((m : Int) + 1) := by rw [hki]; omega
  have hk1 : (k : Int) % ((m : Int) + 1) ≤ (cap : Int) := by rw [hki]; omega
  have HR := Lib.hid hr; clear hr
  have HKN : Hid (k % (m + 1) = i) := mod_nat hki
  have HKI := Lib.hid hki
  have hslS := @lg_sulen n M (by omega) m
  have hlS := (LB.all n M m).len
  have hslP := @lg_sulen n M (by omega) i
  have hlP := (LB.all n M i).len
  clear hki
  unfold maxLen at hcap
  go_enter Try.func4, Try.ntmps4
  go_wp2_with fail
  refine (lg_play n m cap _ A M w h1 h6 hm6 (Nat.le_refl _) HR.out).mono ?_
  rintro e w1 ⟨v, rfl, p, rfl, hp, hb⟩
  have HP := Lib.hid hp
  have HBW := Lib.hid hb
  clear hp hb
  go_wp2_with fail
  rw [HKN.out]
  have HL1 := Lib.hid ((Lay.nil w1).newB (p.l n m) 27 5 rfl _ rfl)
  refine at_lay (F := fun W' => Calls _ _ _ W' _) HL1.out ?_
  intro W hW
  have HW := Lib.hid hW
  clear hW HL1
  generalize w1.heap.size = bb at HW ⊢
  refine (lg_play n i cap _ A M W h1 h6 (by omega) (Nat.le_refl _) ((HR.out.less (by omega)).below (HBW.out.trans (HW.out.bel.mono HBW.out.size))|>.more (by have := HW.out.size; have := HBW.out.size; omega))).mono ?_
  rintro e w2 ⟨v, rfl, r, rfl, hr2, hb2⟩
  have HO : Hid (LRd n (lgE n M m) p w1.heap.size w2 ∧ bb < w2.heap.size ∧ Below w.heap.size w w2 ∧ ∀ k, k < 5 → w2.cell? ⟨bb, k, none⟩ = some (ofL (p.l n m) k)) := by
    have h2 := HW.out.keep hb2
    exact Lib.hid ⟨HP.out.to h2.bel, (h2.at_ 0 rfl).2, HBW.out.trans (h2.bel.mono HBW.out.size), fun k hk => h2.cellB 0 rfl k hk⟩
  have HRr := Lib.hid hr2
  clear hr2 hb2 HW HKN HP HBW
  generalize lgE n M m = S at hslS hlS HO HLAW
  generalize lgE n M i = P at hslP hlP HRr HLAW
  have HSS := Lib.hid (And.intro hslS hlS)
  have HPS := Lib.hid (And.intro hslP hlP)
  clear hslS hlS hslP hlP
  have b0 := HO.out.2.2.2 0 (by omega)
  have b1 := HO.out.2.2.2 1 (by omega)
  have b2 := HO.out.2.2.2 2 (by omega)
  have b3 := HO.out.2.2.2 3 (by omega)
  have b4 := HO.out.2.2.2 4 (by omega)
  have hbl := HO.out.2.1
  simp only [ofL_0, ofL_1, ofL_2, ofL_3, ofL_4] at b0 b1 b2 b3 b4
  go_wp2_with fail
  clear b0 b1 b2 b3 b4 hbl
  have HL3 := Lib.hid ((Lay.nil w2).newB (r.l n i) 27 5 rfl _ rfl)
  refine at_lay (F := fun W' => Calls _ _ _ W' _) HL3.out ?_
  intro W3 hW
  have HW := Lib.hid hW
  clear hW HL3
  have hbb2 : w2.heap.size = w2.heap.size := rfl
  generalize hsz : w2.heap.size = bb2 at HW ⊢
  clear hbb2
  have HZ := Lib.hid hsz
  clear hsz
  refine (logged_any n m w1.heap.size S p _ h6 HSS.out.1 HSS.out.2 (HO.out.1.to HW.out.bel)).mono ?_
  rintro e w4 ⟨rfl, hb4⟩
  have HW4 := Lib.hid (HW.out.keep hb4)
  clear hb4 HW
  have b0 := HW4.out.cellB 0 rfl 0 (by omega)
  have b1 := HW4.out.cellB 0 rfl 1 (by omega)
  have b2 := HW4.out.cellB 0 rfl 2 (by omega)
  have b3 := HW4.out.cellB 0 rfl 3 (by omega)
  have b4 := HW4.out.cellB 0 rfl 4 (by omega)
  simp only [ofL_0, ofL_1, ofL_2, ofL_3, ofL_4] at b0 b1 b2 b3 b4
  go_wp2_with fail
  rw [HKI.out]
  refine (logged_any n i w2.heap.size P r _ h6 HPS.out.1 HPS.out.2 (HRr.out.to HW4.out.bel)).mono ?_
  rintro e w5 ⟨rfl, hb5⟩
  have HW5 := Lib.hid (HW4.out.keep hb5)
  clear hb5 HW4 b0 b1 b2 b3 b4
  go_wp2
  go_loopw [12] (fun x wr => ∃ x1 : Nat, x1 ≤ n ∧ x = .int .i64 x1 ∧ Hid (Lay w2 wr [blkG bb2 (r.l n i)])) (fun x _ => n - (intOf x).toNat)
  case atStart => exact ⟨0, by omega, rfl, HW5⟩
  case round =>
    clear HW5
    obtain ⟨x, hx, rfl, HQ⟩ := hrel
    by_cases hlt : x < n
    · go_wp2
      obtain ⟨w6, hw6⟩ : ∃ w6, w6 = wr := ⟨_, rfl⟩
      subst hw6
      go_loopw [13] (fun u wr => ∃ y : Nat, y ≤ n ∧ u = .int .i64 y ∧ Hid (Lay w2 wr [blkG bb2 (r.l n i)])) (fun u _ => n - (intOf u).toNat)
      case atStart => exact ⟨0, by omega, rfl, HQ⟩
      case round =>
        clear HQ
        obtain ⟨y, hy, rfl, HQ⟩ := hrel
        by_cases hyt : y < n
        · have hq1 := HRr.out.to HQ.out.bel
          have hq2 := HO.out.1.to HQ.out.bel
          have g1 := hq1.G x hlt
          have u1 := hq1.U x hlt
          have g2 := hq2.G y hyt
          have u2 := hq2.U y hyt
          have b3 := HQ.out.cellB 0 rfl 3 (by omega)
          have b4 := HQ.out.cellB 0 rfl 4 (by omega)
          have e3 := (HQ.out.bel.cell (p := ⟨bb, 3, none⟩) HO.out.2.1).trans (HO.out.2.2.2 3 (by omega))
          have e4 := (HQ.out.bel.cell (p := ⟨bb, 4, none⟩) HO.out.2.1).trans (HO.out.2.2.2 4 (by omega))
          simp only [ofL_3, ofL_4] at b3 b4 e3 e4
          obtain ⟨p1, p2, p3⟩ := hq1.L x hlt
          obtain ⟨q1, q2, q3⟩ := hq2.L y hyt
          have l1 := HPS.out.2 x
          have l2 := HSS.out.2 y
          have s1 := HPS.out.1 x
          have s2 := HSS.out.1 y
          have HCM := Lib.hid (HLAW.out x y)
          have HRp := Lib.hid (p3.more hq1.le)
          have HRq := Lib.hid (q3.more hq2.le)
          clear hq1 hq2 p3 q3
          generalize P.lg x = la at g1 p1 l1 s1 HCM HRp
          generalize S.lg y = lb at g2 q1 l2 s2 HCM HRq
          generalize P.su x = na at u1 s1 HCM
          generalize S.su y = nb at u2 s2 HCM
          generalize r.gc x = ci at g1 p1 p2
          generalize p.gc y = cj at g2 q1 q2
          unfold maxLen at p2 q2
          obtain ⟨La, hLa⟩ : ∃ La, la.length = La := ⟨_, rfl⟩
          obtain ⟨Lb, hLb⟩ : ∃ Lb, lb.length = Lb := ⟨_, rfl⟩
          rw [hLa] at g1 p1 l1 s1 HRp
          rw [hLb] at g2 q1 l2 s2 HRq
          have HLA := Lib.hid (And.intro hLa hLb)
          clear hLa hLb
          go_wp2
          refine wp_text_all (by kernel_rfl) (by kernel_rfl) (by kernel_rfl) (by repeat' (first | (with_reducible apply tame_then) | (with_reducible apply tame_block) | (with_reducible apply tame_scope) | exact tame_gives | exact tame_body (fun _ _ h => ⟨_, h.1⟩))) ?_
          go_wp2
          refine headed ?_
          go_wp2
          refine wp_text_all (by kernel_rfl) (by kernel_rfl) (by kernel_rfl) (by repeat' (first | (with_reducible apply tame_then) | (with_reducible apply tame_block) | (with_reducible apply tame_scope) | exact tame_gives | exact tame_body (fun _ _ h => ⟨_, h.1⟩))) ?_
          go_wp2
          refine headed ?_
          go_wp2_with fail
          by_cases hnn : nb ≤ na
          · have HBG : Hid (true = true ↔ bgB la lb na nb) := Lib.hid ⟨fun _ => ⟨hnn, fun k hk => HCM.out.get (by omega)⟩, fun _ => rfl⟩
            refine (begins_any la lb na nb ci cj wr.heap.size _ _ true wr.drew.drew (by rw [HLA.out.1]; omega) (by rw [HLA.out.2]; omega) (by omega) (by omega) HBG.out (Nat.le_refl _) (HRp.out.less (by omega)) (HRq.out.less (by omega))).mono ?_
            rintro e w8 ⟨rfl, h8⟩
            have HQ8 := Lib.hid (HQ.out.drew.drew.keep h8)
            clear h8 HQ
            go_wp2
            go_roundw
            case rel => exact ⟨y + 1, by omega, by go_num, HQ8⟩
            case measure => first | (simp [intOf]; done) | (simp [intOf]; omega)
          · have HBG : Hid (false = true ↔ bgB la lb na nb) := Lib.hid ⟨fun h => (by cases h), fun h => absurd h.1 hnn⟩
            refine (begins_any la lb na nb ci cj wr.heap.size _ _ false wr.drew.drew (by rw [HLA.out.1]; omega) (by rw [HLA.out.2]; omega) (by omega) (by omega) HBG.out (Nat.le_refl _) (HRp.out.less (by omega)) (HRq.out.less (by omega))).mono ?_
            rintro e w8 ⟨rfl, h8⟩
            have HQ8 := Lib.hid (HQ.out.drew.drew.keep h8)
            have HRp8 := Lib.hid (HRp.out.below (w := wr.drew.drew) h8)
            have HRq8 := Lib.hid (HRq.out.below (w := wr.drew.drew) h8)
            have hs8 : wr.heap.size ≤ w8.heap.size := h8.size
            clear h8 HQ
            go_wp2_with fail
            refine (begins_any lb la nb na cj ci wr.heap.size _ _ true w8 (by rw [HLA.out.2]; omega) (by rw [HLA.out.1]; omega) (by omega) (by omega) ⟨fun _ => ⟨by omega, fun k hk => (HCM.out.get (by omega)).symm⟩, fun _ => rfl⟩ hs8 (HRq8.out.less (by omega)) (HRp8.out.less (by omega))).mono ?_
            rintro e w9 ⟨rfl, h9⟩
            have HQ9 := Lib.hid (HQ8.out.keep h9)
            clear h9 HQ8
            go_wp2
            go_roundw
            case rel => exact ⟨y + 1, by omega, by go_num, HQ9⟩
            case measure => first | (simp [intOf]; done) | (simp [intOf]; omega)
        · obtain rfl : y = n := by omega
          go_wp2
          go_roundw
          case rel => exact ⟨x + 1, by omega, by go_num, HQ⟩
          case measure => first | (simp [intOf]; done) | (simp [intOf]; omega)
    · obtain rfl : x = n := by omega
      go_wp2
      go_ret
      exact ⟨rfl, HO.out.2.2.1.trans (HQ.out.bel.mono HO.out.2.2.1.size)⟩
set_option maxRecDepth 100000 in
set_option maxHeartbeats 1600000 in
theorem logsSure_bad (n : Int) (k i m cap : Nat) (A : Option Addr) (M : Mv) (w : World) (hk : k < 256) (hmc : m ≤ cap) (hcap : cap * 32 ≤ 140737488351232) (hr : Rd w w.heap.size A (m * 4) (mvF M)) (hki : ((k : Int) % ((m : Int) + 1)) = (i : Int)) (him : i ≤ m) (hb : playedB n m = false) :
    Calls Try.prog 4 #[.int .i64 n, .slice A m cap, .int .u8 k] w fun e w' => e = .returned (.bool true) ∧ Below w.heap.size w w' := by
  have hk0 : (0 : Int) ≤ (k : Int) % ((m : Int) + 1) := by rw [hki]; omega
  have hk1 : (k : Int) % ((m : Int) + 1) ≤ (cap : Int) := by rw [hki]; omega
  have HR := Lib.hid hr; clear hr
  have HKN : Hid (k % (m + 1) = i) := mod_nat hki
  clear hki
  have HB := Lib.hid hb; clear hb
  have HM : Hid (m ≤ maxLen) := by show m ≤ maxLen; unfold maxLen; omega
  go_enter Try.func4, Try.ntmps4
  go_wp2_with fail
  refine (lg_bad' n m cap A w HM.out HB.out).mono ?_
  rintro e w1 ⟨rfl, hb1⟩
  have HB1 := Lib.hid (hb1.alloc hb1.size (.cells #[.slice none 0 0, .slice none 0 0, .slice none 0 0, .slice none 0 0, .slice none 0 0] 27)); clear hb1
  go_wp2_with fail
  rw [HKN.out]
  generalize w1.alloc (.cells #[.slice none 0 0, .slice none 0 0, .slice none 0 0, .slice none 0 0, .slice none 0 0] 27) = W1 at HB1 ⊢
  cases h2 : playedB n i
  · have HN2 := Lib.hid h2; clear h2
    refine (lg_bad' n i cap A W1 (Nat.le_trans him HM.out) HN2.out).mono ?_
    rintro e w2 ⟨rfl, hb2⟩
    have HB2 := Lib.hid (HB1.out.trans (hb2.mono HB1.out.size)); clear hb2
    go_wp2_with (go_at_call 9; refine (bool_is (played_any n m _) HB.out).mono ?_; rintro e w3 ⟨rfl, rfl⟩)
    go_ret
    exact ⟨rfl, HB2.out.alloc HB2.out.size _⟩
  · obtain ⟨h3, h4, h5⟩ := playedB_iff.1 h2
    clear h2
    obtain ⟨n, rfl⟩ := Int.eq_ofNat_of_zero_le (show 0 ≤ n by omega)
    refine (lg_play n i cap _ A M W1 (by omega) (by omega) (by omega) HB1.out.size ((HR.out.less (by omega)).below HB1.out)).mono ?_
    rintro e w2 ⟨v, rfl, r, rfl, -, hb2⟩
    have HB2 := Lib.hid (HB1.out.trans (hb2.mono HB1.out.size))
    clear hb2
    go_wp2_with (go_at_call 9; refine (bool_is (played_any n m _) HB.out).mono ?_; rintro e w3 ⟨rfl, rfl⟩)
    go_ret
    exact ⟨rfl, HB2.out.alloc HB2.out.size _⟩
theorem logsSure_all (n : Int) (A : Option Addr) (m cap : Nat) (M : Mv) (k : Int) (w : World) (_ : (Lit.int .i64 n).wf = true) (hmc : m ≤ cap ∧ cap * 32 ≤ 140737488351232) (hr : Rd w w.heap.size A (m * 4) (mvF M)) (hk : (Lit.int .u8 k).wf = true) :
    Calls Try.prog 4 #[.int .i64 n, .slice A m cap, .int .u8 k] w fun e w' => e = .returned (.bool true) ∧ Below w.heap.size w w' := by
  obtain ⟨k, rfl, hk2⟩ := u8_nat hk
  obtain ⟨i, hi1, hi2, _⟩ := mod_some k m
  have hcap : cap ≤ maxLen := by unfold maxLen; omega
  cases hb : playedB n m
  · exact logsSure_bad n k i m cap A M w hk2 hmc.1 hmc.2 hr hi1 hi2 hb
  · obtain ⟨h1, h2, h3⟩ := playedB_iff.1 hb
    obtain ⟨n, rfl⟩ := Int.eq_ofNat_of_zero_le (show 0 ≤ n by omega)
    exact logsSure_good n k i m cap A M w hk2 hmc.1 hcap hr hi1 hi2 (by omega) (by omega) (by omega)
end Go.Proofs.Ytfhmabpalimcnaa
