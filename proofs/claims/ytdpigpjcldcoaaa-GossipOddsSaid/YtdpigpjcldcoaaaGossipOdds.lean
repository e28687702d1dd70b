/- The law GossipOdds, walked. -/
import Derived.Test.YtdpigpjcldcoaaaGossipSame
set_option linter.unusedVariables false
set_option linter.unusedSimpArgs false
namespace Go.Proofs.Ytdpigpjcldcoaaa
open Go.RowKit

set_option maxRecDepth 100000 in
set_option maxHeartbeats 3200000 in
theorem gossipOdds_bad (n : Int) (m cap : Nat) (A : Option Addr) (w : World) (hm : m ≤ maxLen) (hb : playedB n m = false) :
    Calls Try.prog 4 #[.int .i64 n, .slice A m cap] w fun e w' => e = .returned (.bool true) ∧ Below w.heap.size w w' := by
  have HPB := Lib.hid hb; clear hb
  have HM := Lib.hid hm
  unfold maxLen at hm
  go_enter Try.func4, Try.ntmps4
  go_wp2_with fail
  refine (go_bad' n m cap A w HM.out HPB.out).mono ?_
  rintro e w6 ⟨rfl, hb⟩
  have HBW := Lib.hid hb
  clear hb
  go_wp2_with (go_at_call 11; refine (bool_is (played_any n m _) HPB.out).mono ?_; rintro e w7 ⟨rfl, rfl⟩)
  go_ret
  exact ⟨rfl, HBW.out.alloc HBW.out.size _⟩
set_option maxRecDepth 100000 in
set_option maxHeartbeats 6400000 in
theorem gossipOdds_good (n m cap : Nat) (A : Option Addr) (M : Mv) (w : World) (hr : Rd w w.heap.size A (m * 4) (mvF M)) (h1 : 1 ≤ n) (h6 : n ≤ 6) (hm : m ≤ 60) :
    Calls Try.prog 4 #[.int .i64 n, .slice A m cap] w fun e w' => e = .returned (.bool true) ∧ Below w.heap.size w w' := by
  have HR := Lib.hid hr; clear hr
  have HPB : Hid (playedB (n : Nat) (m : Nat) = true) := Lib.hid (playedB_iff.2 ⟨by omega, by omega, by omega⟩)
  go_enter Try.func4, Try.ntmps4
  go_wp2_with fail
  refine (go_play n m cap w.heap.size A M w h1 h6 hm (Nat.le_refl _) HR.out).mono ?_
  rintro e w6 ⟨vv, rfl, p, KS, rfl, hS, hR, hb⟩
  have HBW := Lib.hid hb
  have HLEN : Hid (∀ i, i < n → (KS i).length ≤ 1000) := Lib.hid fun i hi => Nat.le_trans (srt_short hS hi) (by omega)
  have HANTI : Hid (∀ i, i < n → ∀ a b, a < (KS i).length → b < (KS i).length → a ≠ b → ¬ Le n (knAt (KS i) a).vec (knAt (KS i) b).vec) := Lib.hid fun i hi a b ha hb hab => (hS i hi).anti (anti_all n M m hi) ha hb hab
  have HWR : Hid (∀ j, j < m → M.k j = 1 → goC n M j = 0 → ∃ F : Nat, F < n ∧ M.f j = (F : Nat) ∧ 0 < (KS F).length) := Lib.hid fun j hj hk hc => by
    obtain ⟨F, h1, h2, h3⟩ := wrote_knows hj hk hc
    refine ⟨F, h1, h2, ?_⟩
    rw [(hS F h1).len]
    exact List.length_pos_iff.2 h3
  have HG := Lib.hid hR
  have HRW := Lib.hid (HR.out.below hb)
  clear hS hR hb HR
  generalize goC n M = cd at HG HWR
  go_wp2_with (go_at_call 11; refine (bool_is (played_any n m _) HPB.out).mono ?_; rintro e w7 ⟨rfl, rfl⟩)
  have HL1 := Lib.hid ((Lay.nil w6).newB (p.l n m) 27 2 rfl _ rfl)
  refine at_lay (F := fun W' => Calls _ _ _ W' _) HL1.out ?_
  intro W hW
  have HW := Lib.hid hW
  clear hW HL1
  generalize w6.heap.size = bb at HW ⊢
  refine (told_any n m w6.heap.size cd KS p W h6 (by omega) HLEN.out (HG.out.to HW.out.bel)).mono ?_
  rintro e w7 ⟨rfl, hb7⟩
  have HW7 := Lib.hid (HW.out.keep hb7)
  clear hb7 HW
  have c1 := HW7.out.cellB 0 rfl 1 (by omega)
  simp only [ofL_1] at c1
  go_wp2
  clear c1
  go_loopw [41] (fun x wr => ∃ q : Nat, q ≤ n ∧ x = .int .i64 q ∧ Hid (Lay w6 wr [blkG bb (p.l n m)])) (fun x _ => n - (intOf x).toNat)
  case atStart => exact ⟨0, by omega, rfl, HW7⟩
  case round =>
    clear HW7
    obtain ⟨q, hq, rfl, HQ⟩ := hrel
    by_cases hlt : q < n
    · have g1 := (HG.out.to HQ.out.bel).K q hlt
      have HAQ := Lib.hid (HANTI.out q hlt)
      have hlq := HLEN.out q hlt
      have HLS := Lib.hid (HG.out.L q hlt)
      generalize KS q = ks at g1 hlq HLS HAQ
      generalize p.gA q = X at g1 HLS
      generalize p.gc q = cq at g1
      obtain ⟨L, hL⟩ : ∃ L, L = ks.length := ⟨_, rfl⟩
      rw [← hL] at g1 hlq HAQ
      have HLL := Lib.hid hL
      clear hL
      go_wp2
      clear g1
      obtain ⟨wz, hwz⟩ : ∃ wz, wz = wr := ⟨_, rfl⟩
      rw [← hwz] at HQ ⊢
      clear hwz
      go_loopw [47] (fun x wr => ∃ a : Nat, a ≤ L ∧ x = .int .i64 a ∧ Hid (Lay w6 wr [blkG bb (p.l n m)])) (fun x _ => L - (intOf x).toNat)
      case atStart => exact ⟨0, by omega, rfl, HQ⟩
      case round =>
        clear HQ
        obtain ⟨a, ha, rfl, HQ⟩ := hrel
        by_cases hal : a < L
        · obtain ⟨ad, ga, ca, rfl, hba, a0, a1, a2⟩ := HLS.out a (by rw [← HLL.out]; exact hal)
          have HBA := Lib.hid hba
          have HRA := Lib.hid a2
          have w0 := (HQ.out.bel.cell (p := ad.add (a * 2)) (by rw [addr_block]; exact hba)).trans a0
          have w1 := (HQ.out.bel.cell (p := ⟨(ad.add (a * 2)).block, (ad.add (a * 2)).off + 1, none⟩) (show (ad.add (a * 2)).block < w6.heap.size by rw [addr_block]; exact hba)).trans a1
          clear a0 a1 a2 hba
          have HL5 := Lib.hid (HQ.out.newB [.int .i64 (knAt ks a).val, .slice (some ⟨ga, 0, none⟩) n ca] 38 2 rfl _ rfl)
          go_wp2
          refine at_lay (F := fun W' => Code.wp _ _ _ _ W') HL5.out ?_
          intro W9 hW
          have HW := Lib.hid hW
          clear hW HL5 w0 w1 HQ
          generalize wr.heap.size = bk at HW ⊢
          go_loopw [54] (fun x wr => ∃ b : Nat, b ≤ L ∧ x = .int .i64 b ∧ Hid (Lay w6 wr [blkK bk (.int .i64 (knAt ks a).val) (.slice (some ⟨ga, 0, none⟩) n ca), blkG bb (p.l n m)])) (fun x _ => L - (intOf x).toNat)
          case atStart => exact ⟨0, by omega, rfl, HW⟩
          case round =>
            clear HW
            obtain ⟨b, hb, rfl, HQ⟩ := hrel
            by_cases hbl : b < L
            · obtain ⟨ad', gb, cb, ee, -, b0, b1, b2⟩ := HLS.out b (by rw [← HLL.out]; exact hbl)
              obtain rfl : ad = ad' := by injection ee
              have HRB := Lib.hid b2
              have w0 := (HQ.out.bel.cell (p := ad.add (b * 2)) (by rw [addr_block]; exact HBA.out)).trans b0
              have w1 := (HQ.out.bel.cell (p := ⟨(ad.add (b * 2)).block, (ad.add (b * 2)).off + 1, none⟩) (show (ad.add (b * 2)).block < w6.heap.size by rw [addr_block]; exact HBA.out)).trans b1
              clear b0 b1 b2 ee
              have k1 := HQ.out.cellB 0 rfl 1 (by omega)
              simp only [ofL_1] at k1
              have hbk := (HQ.out.at_ 0 rfl).2
              have HL5 := Lib.hid (HQ.out.newB [.int .i64 (knAt ks b).val, .slice (some ⟨gb, 0, none⟩) n cb] 38 2 rfl _ rfl)
              by_cases hab : a = b
              · have hne : (((a : Nat) : Int) != ((b : Nat) : Int)) = false := by rw [hab]; simp
                clear hab
                go_wp2
                go_roundw
                case rel => exact ⟨b + 1, by omega, by go_num, Lib.hid HL5.out.tail⟩
                case measure => first | (simp [intOf]; done) | (simp [intOf]; omega)
              · have hne : (((a : Nat) : Int) != ((b : Nat) : Int)) = true := by simp; omega
                have HNL := Lib.hid (HAQ.out a b hal hbl hab)
                clear hab
                go_wp2_with fail
                refine (less_any n ca cb w6.heap.size _ _ (knAt ks a).vec (knAt ks b).vec false _ (by omega) ⟨fun h => absurd h (by simp), fun h => absurd h.le HNL.out⟩ ((HRA.out.below HQ.out.bel).alloc HQ.out.size _) ((HRB.out.below HQ.out.bel).alloc HQ.out.size _)).mono ?_
                rintro e w10 ⟨rfl, hs⟩
                have HL10 := Lib.hid (HL5.out.sim hs)
                clear hs HL5 w0 w1 k1 hbk
                have k1 := HL10.out.cellB 1 rfl 1 (by omega)
                have o1 := HL10.out.cellB 0 rfl 1 (by omega)
                simp only [ofL_1] at k1 o1
                go_wp2_with fail
                refine (ints_any n ca cb w6.heap.size _ _ (knAt ks a).vec (knAt ks b).vec false _ (by omega) ⟨fun h => absurd h (by simp), fun h => absurd h.le HNL.out⟩ (HRA.out.below HL10.out.bel) (HRB.out.below HL10.out.bel)).mono ?_
                rintro e w11 ⟨rfl, hs⟩
                have HL11 := Lib.hid (HL10.out.sim hs)
                clear hs HL10 k1 o1
                go_wp2
                go_roundw
                case rel => exact ⟨b + 1, by omega, by go_num, Lib.hid HL11.out.tail⟩
                case measure => first | (simp [intOf]; done) | (simp [intOf]; omega)
            · obtain rfl : b = L := by omega
              go_wp2
              go_roundw
              case rel => exact ⟨a + 1, by omega, by go_num, Lib.hid HQ.out.tail⟩
              case measure => first | (simp [intOf]; done) | (simp [intOf]; omega)
        · obtain rfl : a = L := by omega
          go_wp2
          go_roundw
          case rel => exact ⟨q + 1, by omega, by go_num, HQ⟩
          case measure => first | (simp [intOf]; done) | (simp [intOf]; omega)
    · obtain rfl : q = n := by omega
      go_wp2
      obtain ⟨wz, hwz⟩ : ∃ wz, wz = wr := ⟨_, rfl⟩
      rw [← hwz] at HQ ⊢
      clear hwz
      go_loopw [81] (fun x wr => ∃ j : Nat, j ≤ m ∧ x = .int .i64 j ∧ Hid (Lay w6 wr [blkG bb (p.l q m)])) (fun x _ => m - (intOf x).toNat)
      case atStart => exact ⟨0, by omega, rfl, HQ⟩
      case round =>
        clear HQ
        obtain ⟨j, hj, rfl, HQ⟩ := hrel
        by_cases hjm : j < m
        · obtain ⟨ad, rfl, hbl, m0, m1, m2, m3⟩ := (HRW.out.below (HQ.out.bel.mono HBW.out.size)).rec4 hjm
          have HL5 := Lib.hid (HQ.out.newB [.int .i64 (M.k j), .int .i64 (M.f j), .int .i64 (M.t j), .int .i64 (M.v j)] 41 4 rfl _ rfl)
          clear hbl
          by_cases hk : M.k j = 1
          · obtain ⟨ac, hac, hbc, hc⟩ := (HG.out.to HQ.out.bel).C (by omega)
            have hcj := hc j hjm
            have c0 := HQ.out.cellB 0 rfl 0 (by omega)
            simp only [ofL_0] at c0
            rw [hac] at c0
            clear hac
            have hbs := (HQ.out.at_ 0 rfl).2
            have hcs : (ac.add j).block < wr.heap.size := by rw [addr_block]; exact Nat.lt_of_lt_of_le hbc HQ.out.size
            have hkb : (M.k j == 1) = true := by simpa using hk
            clear hc
            by_cases hz : cd j = 0
            · obtain ⟨F, hF, hfj, hpos⟩ := HWR.out j hjm hk hz
              have hzb : (cd j == 0) = true := by simpa using hz
              have hpb : ((((KS F).length : Nat) : Int) == 0) = false := by
                have : (KS F).length ≠ 0 := by omega
                simpa using this
              have hlF := HLEN.out F hF
              have HIN : Hid ((decide (0 ≤ ((F : Nat) : Int)) && decide (((F : Nat) : Int) < (q : Int))) = true) := Lib.hid (by simp; omega)
              rw [hfj] at m1
              clear HL5
              have HL5 := Lib.hid (HQ.out.newB [.int .i64 (M.k j), .int .i64 (F : Nat), .int .i64 (M.t j), .int .i64 (M.v j)] 41 4 rfl _ rfl)
              have HL6 := Lib.hid (HL5.out.alloc (.cells #[.int .i64 (F : Nat)] 3))
              clear hk hz hfj
              go_wp2_with (go_at_call 14
                           refine (inside1 true q (F : Nat) (wr.alloc (.cells #[.int .i64 (M.k j), .int .i64 (F : Nat), .int .i64 (M.t j), .int .i64 (M.v j)] 41)) 3 (wr.heap.size + 1) (by simp) HIN.out).mono ?_
                           rintro e w8 ⟨rfl, hw8⟩
                           rw [hw8] at HL6
                           clear hw8 m0 m1 m2 m3 c0 hcj hbs hcs
                           have c1 := HL6.out.cellB 1 rfl 1 (by omega)
                           have y1 := HL6.out.cellB 0 rfl 1 (by omega)
                           simp only [ofL_1] at c1 y1
                           have gF := (HG.out.to HL6.out.bel).K F hF)
              go_roundw
              case rel => exact ⟨j + 1, by omega, by go_num, Lib.hid HL6.out.tail⟩
              case measure => first | (simp [intOf]; done) | (simp [intOf]; omega)
            · have hzb : (cd j == 0) = false := by simpa using hz
              clear hk hz
              go_wp2
              go_roundw
              case rel => exact ⟨j + 1, by omega, by go_num, Lib.hid HL5.out.tail⟩
              case measure => first | (simp [intOf]; done) | (simp [intOf]; omega)
          · have hkb : (M.k j == 1) = false := by simpa using hk
            clear hk
            go_wp2
            go_roundw
            case rel => exact ⟨j + 1, by omega, by go_num, Lib.hid HL5.out.tail⟩
            case measure => first | (simp [intOf]; done) | (simp [intOf]; omega)
        · obtain rfl : j = m := by omega
          go_wp2
          go_ret
          exact ⟨rfl, HBW.out.trans (HQ.out.bel.mono HBW.out.size)⟩
theorem gossipOdds_all (n : Int) (A : Option Addr) (m cap : Nat) (M : Mv) (w : World) (_ : (Lit.int .i64 n).wf = true) (hmc : m ≤ cap ∧ cap ≤ maxLen) (hr : Rd w w.heap.size A (m * 4) (mvF M)) :
    Calls Try.prog 4 #[.int .i64 n, .slice A m cap] w fun e w' => e = .returned (.bool true) ∧ Below w.heap.size w w' := by
  cases hb : playedB n m
  · exact gossipOdds_bad n m cap A w (Nat.le_trans hmc.1 hmc.2) hb
  · obtain ⟨h1, h2, h3⟩ := playedB_iff.1 hb
    obtain ⟨n, rfl⟩ := Int.eq_ofNat_of_zero_le (show 0 ≤ n by omega)
    exact gossipOdds_good n m cap A M w hr (by omega) (by omega) (by omega)
end Go.Proofs.Ytdpigpjcldcoaaa
