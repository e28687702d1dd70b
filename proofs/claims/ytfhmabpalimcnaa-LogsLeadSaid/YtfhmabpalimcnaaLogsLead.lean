/- The law LogsLead, walked. -/
import Derived.Test.YtfhmabpalimcnaaLg11
import Derived.Test.YtfhmabpalimcnaaMod
set_option linter.unusedVariables false
set_option linter.unusedSimpArgs false
namespace Go.Proofs.Ytfhmabpalimcnaa
open Go.RowKit

set_option maxRecDepth 100000 in
set_option maxHeartbeats 3200000 in
theorem logsLead_good (n k i m cap : Nat) (A : Option Addr) (M : Mv) (w : World) (hk : k < 256) (hmc : m ≤ cap) (hcap : cap ≤ maxLen) (hr : Rd w w.heap.size A (m * 4) (mvF M)) (hki : ((k : Int) % ((m : Int) + 1)) = (i : Int)) (him : i ≤ m) (h1 : 1 ≤ n) (h6 : n ≤ 6) (hm6 : m ≤ 60) :
    Calls Try.prog 5 #[.int .i64 n, .slice A m cap, .int .u8 k] w fun e w' => e = .returned (.bool true) ∧ Below w.heap.size w w' := by
  have HLAW : Hid (∀ x b, (lgE n M m).e.R b = 2 → (lgE n M m).e.T x ≤ (lgE n M m).e.T b → Cm ((lgE n M i).su x) ((lgE n M i).lg x) ((lgE n M m).lg b)) := Lib.hid fun x b h1 h2 => lg_lead (by omega) him x b h1 h2
  have hk0 : (0 : Int) ≤ (k : Int) % ((m : Int) + 1) := by rw [hki]; omega
  have hk1 : (k : Int) % ((m : Int) + 1) ≤ (cap : Int) := by rw [hki]; omega
  have HR := Lib.hid hr; clear hr
  have HKN : Hid (k % (m + 1) = i) := mod_nat hki
  have HKI := Lib.hid hki
  have hslS := @lg_sulen n M (by omega) m
  have hlS := (LB.all n M m).len
  have hslP := @lg_sulen n M (by omega) i
  have hlP := (LB.all n M i).len
  clear hki
  unfold maxLen at hcap
  go_enter Try.func5, Try.ntmps5
  go_wp2_with fail
  refine (lg_play n m cap _ A M w h1 h6 hm6 (Nat.le_refl _) HR.out).mono ?_
  rintro e w1 ⟨v, rfl, p, rfl, hp, hb⟩
  have HP := Lib.hid hp
  have HBW := Lib.hid hb
  clear hp hb
  go_wp2_with fail
  rw [HKN.out]
  have HL1 := Lib.hid ((Lay.nil w1).newB (p.l n m) 27 5 rfl _ rfl)
  refine at_lay (F := fun W' => Calls _ _ _ W' _) HL1.out ?_
  intro W hW
  have HW := Lib.hid hW
  clear hW HL1
  generalize w1.heap.size = bb at HW ⊢
  refine (lg_play n i cap _ A M W h1 h6 (by omega) (Nat.le_refl _) ((HR.out.less (by omega)).below (HBW.out.trans (HW.out.bel.mono HBW.out.size))|>.more (by have := HW.out.size; have := HBW.out.size; omega))).mono ?_
  rintro e w2 ⟨v, rfl, r, rfl, hr2, hb2⟩
  have HO : Hid (LRd n (lgE n M m) p w1.heap.size w2 ∧ bb < w2.heap.size ∧ Below w.heap.size w w2 ∧ ∀ k, k < 5 → w2.cell? ⟨bb, k, none⟩ = some (ofL (p.l n m) k)) := by
    have h2 := HW.out.keep hb2
    exact Lib.hid ⟨HP.out.to h2.bel, (h2.at_ 0 rfl).2, HBW.out.trans (h2.bel.mono HBW.out.size), fun k hk => h2.cellB 0 rfl k hk⟩
  have HRr := Lib.hid hr2
  clear hr2 hb2 HW HKN HP HBW
  generalize lgE n M m = S at hslS hlS HO HLAW
  generalize lgE n M i = P at hslP hlP HRr HLAW
  have HSS := Lib.hid (And.intro hslS hlS)
  have HPS := Lib.hid (And.intro hslP hlP)
  clear hslS hlS hslP hlP
  have b0 := HO.out.2.2.2 0 (by omega)
  have b1 := HO.out.2.2.2 1 (by omega)
  have b2 := HO.out.2.2.2 2 (by omega)
  have b3 := HO.out.2.2.2 3 (by omega)
  have b4 := HO.out.2.2.2 4 (by omega)
  have hbl := HO.out.2.1
  simp only [ofL_0, ofL_1, ofL_2, ofL_3, ofL_4] at b0 b1 b2 b3 b4
  go_wp2_with fail
  clear b0 b1 b2 b3 b4 hbl
  have HL3 := Lib.hid ((Lay.nil w2).newB (r.l n i) 27 5 rfl _ rfl)
  refine at_lay (F := fun W' => Calls _ _ _ W' _) HL3.out ?_
  intro W3 hW
  have HW := Lib.hid hW
  clear hW HL3
  have hbb2 : w2.heap.size = w2.heap.size := rfl
  generalize hsz : w2.heap.size = bb2 at HW ⊢
  clear hbb2
  have HZ := Lib.hid hsz
  clear hsz
  refine (logged_any n m w1.heap.size S p _ h6 HSS.out.1 HSS.out.2 (HO.out.1.to HW.out.bel)).mono ?_
  rintro e w4 ⟨rfl, hb4⟩
  have HW4 := Lib.hid (HW.out.keep hb4)
  clear hb4 HW
  have b0 := HW4.out.cellB 0 rfl 0 (by omega)
  have b1 := HW4.out.cellB 0 rfl 1 (by omega)
  have b2 := HW4.out.cellB 0 rfl 2 (by omega)
  have b3 := HW4.out.cellB 0 rfl 3 (by omega)
  have b4 := HW4.out.cellB 0 rfl 4 (by omega)
  simp only [ofL_0, ofL_1, ofL_2, ofL_3, ofL_4] at b0 b1 b2 b3 b4
  go_wp2_with fail
  rw [HKI.out]
  refine (logged_any n i w2.heap.size P r _ h6 HPS.out.1 HPS.out.2 (HRr.out.to HW4.out.bel)).mono ?_
  rintro e w5 ⟨rfl, hb5⟩
  have HW5 := Lib.hid (HW4.out.keep hb5)
  clear hb5 HW4 b0 b1 b2 b3 b4
  go_wp2
  go_loopw [12, 13] (fun x y wr => ∃ (b : Int) (j : Nat), j ≤ n ∧ x = .int .i64 b ∧ y = .int .i64 j ∧ Hid (b = -1 ∨ ∃ c : Nat, b = c ∧ c < j ∧ S.e.R c = 2) ∧ Hid (Lay w2 wr [blkG bb2 (r.l n i)])) (fun _ y _ => n - (intOf y).toNat)
  case atStart => exact ⟨-1, 0, by omega, rfl, rfl, Lib.hid (.inl rfl), HW5⟩
  case round =>
    clear HW5
    obtain ⟨b, j, hj, rfl, rfl, HBB, HQ⟩ := hrel
    by_cases hlt : j < n
    · have hq2 := HO.out.1.to HQ.out.bel
      have e1 := (HQ.out.bel.cell (p := ⟨bb, 1, none⟩) HO.out.2.1).trans (HO.out.2.2.2 1 (by omega))
      have e2 := (HQ.out.bel.cell (p := ⟨bb, 2, none⟩) HO.out.2.1).trans (HO.out.2.2.2 2 (by omega))
      have e3 := (HQ.out.bel.cell (p := ⟨bb, 3, none⟩) HO.out.2.1).trans (HO.out.2.2.2 3 (by omega))
      simp only [ofL_1, ofL_2, ofL_3] at e1 e2 e3
      have t1 := hq2.T j hlt
      have t2 := hq2.R j hlt
      by_cases hR : S.e.R j = 2
      · rw [hR] at t2
        have HN : Hid ((j : Int) = -1 ∨ ∃ c : Nat, (j : Int) = c ∧ c < j + 1 ∧ S.e.R c = 2) := Lib.hid (.inr ⟨j, rfl, by omega, hR⟩)
        rcases HBB.out with rfl | ⟨c, rfl, hc, hRc⟩
        · clear hq2
          go_wp2
          refine wp_text_all (by kernel_rfl) (by kernel_rfl) (by kernel_rfl) (by repeat' (first | (with_reducible apply tame_then) | (with_reducible apply tame_block) | (with_reducible apply tame_scope) | exact tame_gives | exact tame_body (fun _ _ h => ⟨_, h.1⟩))) ?_
          go_wp2
          refine headed ?_
          go_wp2
          go_roundw
          case rel => exact ⟨j, j + 1, by omega, rfl, by go_num, HN, HQ.out.drew⟩
          case measure => first | (simp [intOf]; done) | (simp [intOf]; omega)
        · have t3 := hq2.T c (by omega)
          have HO2 : Hid ((c : Int) = -1 ∨ ∃ c' : Nat, (c : Int) = c' ∧ c' < j + 1 ∧ S.e.R c' = 2) := Lib.hid (.inr ⟨c, rfl, by omega, hRc⟩)
          clear hq2
          generalize S.e.T j = tj at t1
          generalize S.e.T c = tc at t3
          by_cases hgt : tc < tj
          · go_wp2
            refine wp_text_all (by kernel_rfl) (by kernel_rfl) (by kernel_rfl) (by repeat' (first | (with_reducible apply tame_then) | (with_reducible apply tame_block) | (with_reducible apply tame_scope) | exact tame_gives | exact tame_body (fun _ _ h => ⟨_, h.1⟩))) ?_
            go_wp2
            refine headed ?_
            go_wp2
            go_roundw
            case rel => exact ⟨j, j + 1, by omega, rfl, by go_num, HN, HQ.out.drew⟩
            case measure => first | (simp [intOf]; done) | (simp [intOf]; omega)
          · go_wp2
            refine wp_text_all (by kernel_rfl) (by kernel_rfl) (by kernel_rfl) (by repeat' (first | (with_reducible apply tame_then) | (with_reducible apply tame_block) | (with_reducible apply tame_scope) | exact tame_gives | exact tame_body (fun _ _ h => ⟨_, h.1⟩))) ?_
            go_wp2
            refine headed ?_
            go_wp2
            go_roundw
            case rel => exact ⟨c, j + 1, by omega, rfl, by go_num, HO2, HQ.out.drew⟩
            case measure => first | (simp [intOf]; done) | (simp [intOf]; omega)
      · have HN : Hid (b = -1 ∨ ∃ c : Nat, b = c ∧ c < j + 1 ∧ S.e.R c = 2) := Lib.hid (by
          rcases HBB.out with h | ⟨c, h1, h2, h3⟩
          · exact .inl h
          · exact .inr ⟨c, h1, by omega, h3⟩)
        have f1 : (S.e.R j == 2) = false := by simpa using hR
        clear hq2 HBB hR
        go_wp2
        refine wp_text_all (by kernel_rfl) (by kernel_rfl) (by kernel_rfl) (by repeat' (first | (with_reducible apply tame_then) | (with_reducible apply tame_block) | (with_reducible apply tame_scope) | exact tame_gives | exact tame_body (fun _ _ h => ⟨_, h.1⟩))) ?_
        go_wp2
        refine headed ?_
        go_wp2
        go_roundw
        case rel => exact ⟨b, j + 1, by omega, rfl, by go_num, HN, HQ.out.drew⟩
        case measure => first | (simp [intOf]; done) | (simp [intOf]; omega)
    · obtain rfl : j = n := by omega
      rcases HBB.out with rfl | ⟨c, rfl, hc, hRc⟩
      · go_wp2
        go_ret
        exact ⟨rfl, HO.out.2.2.1.trans (HQ.out.bel.mono HO.out.2.2.1.size)⟩
      · have HRC := Lib.hid hRc
        clear HBB hRc
        go_wp2
        obtain ⟨w6, hw6⟩ : ∃ w6, w6 = wr := ⟨_, rfl⟩
        subst hw6
        go_loopw [14] (fun x wr => ∃ q : Nat, q ≤ j ∧ x = .int .i64 q ∧ Hid (∀ y, y < q → S.e.T y ≤ S.e.T c) ∧ Hid (Lay w2 wr [blkG bb2 (r.l j i)])) (fun x _ => j - (intOf x).toNat)
        case atStart => exact ⟨0, by omega, rfl, Lib.hid (fun y hy => by omega), HQ⟩
        case round =>
          clear HQ
          obtain ⟨q, hq, rfl, HT, HQ⟩ := hrel
          by_cases hlt : q < j
          · have hq2 := HO.out.1.to HQ.out.bel
            have e1 := (HQ.out.bel.cell (p := ⟨bb, 1, none⟩) HO.out.2.1).trans (HO.out.2.2.2 1 (by omega))
            have e2 := (HQ.out.bel.cell (p := ⟨bb, 2, none⟩) HO.out.2.1).trans (HO.out.2.2.2 2 (by omega))
            have e3 := (HQ.out.bel.cell (p := ⟨bb, 3, none⟩) HO.out.2.1).trans (HO.out.2.2.2 3 (by omega))
            simp only [ofL_1, ofL_2, ofL_3] at e1 e2 e3
            have t1 := hq2.T q hlt
            have t2 := hq2.T c hc
            clear hq2
            by_cases hgt : S.e.T c < S.e.T q
            · generalize S.e.T q = tq at t1 hgt
              generalize S.e.T c = tc at t2 hgt
              go_wp2
              refine wp_text_all (by kernel_rfl) (by kernel_rfl) (by kernel_rfl) (by repeat' (first | (with_reducible apply tame_then) | (with_reducible apply tame_block) | (with_reducible apply tame_scope) | exact tame_gives | exact tame_body (fun _ _ h => ⟨_, h.1⟩))) ?_
              go_wp2
              refine headed ?_
              go_wp2
              go_ret
              exact ⟨rfl, HO.out.2.2.1.trans (HQ.out.bel.drew.mono HO.out.2.2.1.size)⟩
            · have HT2 : Hid (∀ y, y < q + 1 → S.e.T y ≤ S.e.T c) := Lib.hid fun y hy => by
                rcases Nat.lt_or_ge y q with h | h
                · exact HT.out y h
                · rw [show y = q by omega]; omega
              clear HT
              generalize S.e.T q = tq at t1 hgt
              obtain ⟨tc, htc⟩ : ∃ tc, S.e.T c = tc := ⟨_, rfl⟩
              rw [htc] at t2 hgt
              clear htc
              go_wp2
              refine wp_text_all (by kernel_rfl) (by kernel_rfl) (by kernel_rfl) (by repeat' (first | (with_reducible apply tame_then) | (with_reducible apply tame_block) | (with_reducible apply tame_scope) | exact tame_gives | exact tame_body (fun _ _ h => ⟨_, h.1⟩))) ?_
              go_wp2
              refine headed ?_
              go_wp2
              go_roundw
              case rel => exact ⟨q + 1, by omega, by go_num, HT2, HQ.out.drew⟩
              case measure => first | (simp [intOf]; done) | (simp [intOf]; omega)
          · obtain rfl : q = j := by omega
            go_wp2
            obtain ⟨w7, hw7⟩ : ∃ w7, w7 = wr := ⟨_, rfl⟩
            subst hw7
            go_loopw [15] (fun x wr => ∃ x1 : Nat, x1 ≤ q ∧ x = .int .i64 x1 ∧ Hid (Lay w2 wr [blkG bb2 (r.l q i)])) (fun x _ => q - (intOf x).toNat)
            case atStart => exact ⟨0, by omega, rfl, HQ⟩
            case round =>
              clear HQ
              obtain ⟨x, hx, rfl, HQ⟩ := hrel
              by_cases hlx : x < q
              · have hq2 := HO.out.1.to HQ.out.bel
                have e1 := (HQ.out.bel.cell (p := ⟨bb, 1, none⟩) HO.out.2.1).trans (HO.out.2.2.2 1 (by omega))
                have e2 := (HQ.out.bel.cell (p := ⟨bb, 2, none⟩) HO.out.2.1).trans (HO.out.2.2.2 2 (by omega))
                have e3 := (HQ.out.bel.cell (p := ⟨bb, 3, none⟩) HO.out.2.1).trans (HO.out.2.2.2 3 (by omega))
                simp only [ofL_1, ofL_2, ofL_3] at e1 e2 e3
                have hq1 := HRr.out.to HQ.out.bel
                have g1 := hq1.G x hlx
                have u1 := hq1.U x hlx
                have g2 := hq2.G c hc
                have b3 := HQ.out.cellB 0 rfl 3 (by omega)
                have b4 := HQ.out.cellB 0 rfl 4 (by omega)
                simp only [ofL_3, ofL_4] at b3 b4
                obtain ⟨p1, p2, p3⟩ := hq1.L x hlx
                obtain ⟨q1, q2, q3⟩ := hq2.L c hc
                have l1 := HPS.out.2 x
                have l2 := HSS.out.2 c
                have s1 := HPS.out.1 x
                have HCM := Lib.hid (HLAW.out x c HRC.out (HT.out x hlx))
                have HRp := Lib.hid (p3.more hq1.le)
                have HRq := Lib.hid (q3.more hq2.le)
                clear hq1 hq2 p3 q3
                generalize P.lg x = la at g1 p1 l1 s1 HCM HRp
                generalize S.lg c = lb at g2 q1 l2 HCM HRq
                generalize P.su x = na at u1 s1 HCM
                generalize r.gc x = ci at g1 p1 p2
                generalize p.gc c = cj at g2 q1 q2
                unfold maxLen at p2 q2
                obtain ⟨La, hLa⟩ : ∃ La, la.length = La := ⟨_, rfl⟩
                obtain ⟨Lb, hLb⟩ : ∃ Lb, lb.length = Lb := ⟨_, rfl⟩
                rw [hLa] at g1 p1 l1 s1 HRp
                rw [hLb] at g2 q1 l2 HRq
                have HLA := Lib.hid (And.intro hLa hLb)
                have hnb : na ≤ Lb := by rw [← hLb]; exact HCM.out.2.1
                clear hLa hLb
                go_wp2
                refine wp_text 16 (by kernel_rfl) (by kernel_rfl) (by kernel_rfl) (by repeat' (first | (with_reducible apply tame_then) | (with_reducible apply tame_block) | (with_reducible apply tame_scope) | exact tame_gives | exact tame_body (fun _ _ h => ⟨_, h.1⟩))) ?_
                simp only [List.take_succ_cons, List.take_zero, List.drop_succ_cons, List.drop_zero]
                go_wp2
                refine headed ?_
                go_wp2_with fail
                refine (begins_any lb la Lb na cj ci wr.heap.size _ _ true wr.drew (by rw [HLA.out.2]; omega) (by rw [HLA.out.1]; omega) (by omega) (by omega) ⟨fun _ => ⟨hnb, fun k hk => (HCM.out.get hk).symm⟩, fun _ => rfl⟩ (Nat.le_refl _) (HRq.out.less (by omega)) (HRp.out.less (by omega))).mono ?_
                rintro e w8 ⟨rfl, h8⟩
                have HQ8 := Lib.hid (HQ.out.drew.keep h8)
                clear h8 HQ
                go_wp2
                go_roundw
                case rel => exact ⟨x + 1, by omega, by go_num, HQ8⟩
                case measure => first | (simp [intOf]; done) | (simp [intOf]; omega)
              · obtain rfl : x = q := by omega
                go_wp2
                go_ret
                exact ⟨rfl, HO.out.2.2.1.trans (HQ.out.bel.mono HO.out.2.2.1.size)⟩
set_option maxRecDepth 100000 in
set_option maxHeartbeats 1600000 in
theorem logsLead_bad (n : Int) (k i m cap : Nat) (A : Option Addr) (M : Mv) (w : World) (hk : k < 256) (hmc : m ≤ cap) (hcap : cap * 32 ≤ 140737488351232) (hr : Rd w w.heap.size A (m * 4) (mvF M)) (hki : ((k : Int) % ((m : Int) + 1)) = (i : Int)) (him : i ≤ m) (hb : playedB n m = false) :
    Calls Try.prog 5 #[.int .i64 n, .slice A m cap, .int .u8 k] w fun e w' => e = .returned (.bool true) ∧ Below w.heap.size w w' := by
  have hk0 : (0 : Int) ≤ (k : Int) % ((m : Int) + 1) := by rw [hki]; omega
  have hk1 : (k : Int) % ((m : Int) + 1) ≤ (cap : Int) := by rw [hki]; omega
  have HR := Lib.hid hr; clear hr
  have HKN : Hid (k % (m + 1) = i) := mod_nat hki
  clear hki
  have HB := Lib.hid hb; clear hb
  have HM : Hid (m ≤ maxLen) := by show m ≤ maxLen; unfold maxLen; omega
  go_enter Try.func5, Try.ntmps5
  go_wp2_with fail
  refine (lg_bad' n m cap A w HM.out HB.out).mono ?_
  rintro e w1 ⟨rfl, hb1⟩
  have HB1 := Lib.hid (hb1.alloc hb1.size (.cells #[.slice none 0 0, .slice none 0 0, .slice none 0 0, .slice none 0 0, .slice none 0 0] 27)); clear hb1
  go_wp2_with fail
  rw [HKN.out]
  generalize w1.alloc (.cells #[.slice none 0 0, .slice none 0 0, .slice none 0 0, .slice none 0 0, .slice none 0 0] 27) = W1 at HB1 ⊢
  cases h2 : playedB n i
  · have HN2 := Lib.hid h2; clear h2
    refine (lg_bad' n i cap A W1 (Nat.le_trans him HM.out) HN2.out).mono ?_
    rintro e w2 ⟨rfl, hb2⟩
    have HB2 := Lib.hid (HB1.out.trans (hb2.mono HB1.out.size)); clear hb2
    go_wp2_with (go_at_call 9; refine (bool_is (played_any n m _) HB.out).mono ?_; rintro e w3 ⟨rfl, rfl⟩)
    go_ret
    exact ⟨rfl, HB2.out.alloc HB2.out.size _⟩
  · obtain ⟨h3, h4, h5⟩ := playedB_iff.1 h2
    clear h2
    obtain ⟨n, rfl⟩ := Int.eq_ofNat_of_zero_le (show 0 ≤ n by omega)
    refine (lg_play n i cap _ A M W1 (by omega) (by omega) (by omega) HB1.out.size ((HR.out.less (by omega)).below HB1.out)).mono ?_
    rintro e w2 ⟨v, rfl, r, rfl, -, hb2⟩
    have HB2 := Lib.hid (HB1.out.trans (hb2.mono HB1.out.size))
    clear hb2
    go_wp2_with (go_at_call 9; refine (bool_is (played_any n m _) HB.out).mono ?_; rintro e w3 ⟨rfl, rfl⟩)
    go_ret
    exact ⟨rfl, HB2.out.alloc HB2.out.size _⟩
theorem logsLead_all (n : Int) (A : Option Addr) (m cap : Nat) (M : Mv) (k : Int) (w : World) (_ : (Lit.int .i64 n).wf = true) (hmc : m ≤ cap ∧ cap * 32 ≤ 140737488351232) (hr : Rd w w.heap.size A (m * 4) (mvF M)) (hk : (Lit.int .u8 k).wf = true) :
    Calls Try.prog 5 #[.int .i64 n, .slice A m cap, .int .u8 k] w fun e w' => e = .returned (.bool true) ∧ Below w.heap.size w w' := by
  obtain ⟨k, rfl, hk2⟩ := u8_nat hk
  obtain ⟨i, hi1, hi2, _⟩ := mod_some k m
  have hcap : cap ≤ maxLen := by unfold maxLen; omega
  cases hb : playedB n m
  · exact logsLead_bad n k i m cap A M w hk2 hmc.1 hmc.2 hr hi1 hi2 hb
  · obtain ⟨h1, h2, h3⟩ := playedB_iff.1 hb
    obtain ⟨n, rfl⟩ := Int.eq_ofNat_of_zero_le (show 0 ≤ n by omega)
    exact logsLead_good n k i m cap A M w hk2 hmc.1 hcap hr hi1 hi2 (by omega) (by omega) (by omega)
end Go.Proofs.Ytfhmabpalimcnaa
