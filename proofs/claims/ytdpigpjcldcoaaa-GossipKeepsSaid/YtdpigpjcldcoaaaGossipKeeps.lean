/- The law GossipKeeps, walked. -/
import Derived.Test.YtdpigpjcldcoaaaGossipSame
import Derived.Test.YtdpigpjcldcoaaaMod
set_option linter.unusedVariables false
set_option linter.unusedSimpArgs false
namespace Go.Proofs.Ytdpigpjcldcoaaa
open Go.RowKit

def ltB (n : Nat) (a b : Nat → Nat) : Bool := undB n a b && !undB n b a
def eqB (n : Nat) (a b : Nat → Nat) : Bool := undB n a b && undB n b a
theorem ltB_iff {n : Nat} {a b : Nat → Nat} : ltB n a b = true ↔ Lt n a b := by
  rw [← und_cases.2, ltB, Bool.and_eq_true, Bool.not_eq_true', Bool.not_eq_true]
theorem eqB_iff {n : Nat} {a b : Nat → Nat} : eqB n a b = true ↔ Eqv n a b := by
  rw [← und_cases.1, eqB, Bool.and_eq_true]
def keepB (n : Nat) (x y : Kn) : Bool := ltB n x.vec y.vec || (eqB n x.vec y.vec && (x.val == y.val))
set_option maxRecDepth 100000 in
set_option maxHeartbeats 6400000 in
theorem gossipKeeps_good (n k i m cap : Nat) (A : Option Addr) (M : Mv) (w : World) (hk : k < 256) (hmc : m ≤ cap) (hcap : cap ≤ maxLen) (hr : Rd w w.heap.size A (m * 4) (mvF M)) (hki : ((k : Int) % ((m : Int) + 1)) = (i : Int)) (him : i ≤ m) (h1 : 1 ≤ n) (h6 : n ≤ 6) (hm6 : m ≤ 60) :
    Calls Try.prog 6 #[.int .i64 n, .slice A m cap, .int .u8 k] w fun e w' => e = .returned (.bool true) ∧ Below w.heap.size w w' := by
  have hk0 : (0 : Int) ≤ (k : Int) % ((m : Int) + 1) := by rw [hki]; omega
  have hk1 : (k : Int) % ((m : Int) + 1) ≤ (cap : Int) := by rw [hki]; omega
  have HR := Lib.hid hr; clear hr
  have HKN : Hid (k % (m + 1) = i) := mod_nat hki
  have HKI := Lib.hid hki
  clear hki
  unfold maxLen at hcap
  go_enter Try.func6, Try.ntmps6
  go_wp2_with fail
  refine (go_play n m cap _ A M w h1 h6 hm6 (Nat.le_refl _) HR.out).mono ?_
  rintro e w1 ⟨v, rfl, p, KS, rfl, hS, hp, hb⟩
  have HP := Lib.hid hp
  have HBW := Lib.hid hb
  have HS1 := Lib.hid hS
  clear hp hb hS
  go_wp2_with fail
  rw [HKN.out]
  have HL1 := Lib.hid ((Lay.nil w1).newB (p.l n m) 27 2 rfl _ rfl)
  refine at_lay (F := fun W' => Calls _ _ _ W' _) HL1.out ?_
  intro W hW
  have HW := Lib.hid hW
  clear hW HL1
  generalize w1.heap.size = bb at HW ⊢
  refine (go_play n i cap _ A M W h1 h6 (by omega) (Nat.le_refl _) (((HR.out.less (by omega)).below (HBW.out.trans (HW.out.bel.mono HBW.out.size))).more (by have := HW.out.size; have := HBW.out.size; omega))).mono ?_
  rintro e w2 ⟨v, rfl, r, HS, rfl, hS2, hr2, hb2⟩
  have HO : Hid (GRd n m (goC n M) KS p w1.heap.size w2 ∧ bb < w2.heap.size ∧ Below w.heap.size w w2 ∧ ∀ k, k < 2 → w2.cell? ⟨bb, k, none⟩ = some (ofL (p.l n m) k)) := by
    have h2 := HW.out.keep hb2
    exact Lib.hid ⟨HP.out.to h2.bel, (h2.at_ 0 rfl).2, HBW.out.trans (h2.bel.mono HBW.out.size), fun k hk => h2.cellB 0 rfl k hk⟩
  have HRr := Lib.hid hr2
  have HLEN : Hid (∀ i, i < n → (KS i).length ≤ 1000) := Lib.hid fun i hi => Nat.le_trans (srt_short HS1.out hi) (by omega)
  have HLEN2 : Hid (∀ i, i < n → (HS i).length ≤ 1000) := Lib.hid fun i hi => Nat.le_trans (srt_short hS2 hi) (by omega)
  have HLAW : Hid (∀ q, q < n → ∀ a, a < (HS q).length → ∃ b, b < (KS q).length ∧ keepB n (knAt (HS q) a) (knAt (KS q) b) = true) := Lib.hid fun q hq a ha => by
    have h3 := goE_keeps n M hq i (m - i)
    rw [show i + (m - i) = m by omega] at h3
    obtain ⟨y, hy, h4⟩ := h3 _ ((hS2 q hq).mem.1 (knAt_in ha))
    obtain ⟨b, hb, rfl⟩ := in_knAt ((HS1.out q hq).mem.2 hy)
    refine ⟨b, hb, ?_⟩
    unfold keepB
    rcases h4 with h4 | ⟨h4, h5⟩
    · rw [ltB_iff.2 h4]; rfl
    · rw [eqB_iff.2 h4, h5]; simp
  clear hr2 hb2 hS2 HS1 HW HKN HP HBW HR
  generalize goC n M = cd at HO
  generalize goC n M = cd2 at HRr
  have b0 := HO.out.2.2.2 0 (by omega)
  have b1 := HO.out.2.2.2 1 (by omega)
  have hbl := HO.out.2.1
  simp only [ofL_0, ofL_1] at b0 b1
  go_wp2_with fail
  clear b0 b1 hbl
  have HL3 := Lib.hid ((Lay.nil w2).newB (r.l n i) 27 2 rfl _ rfl)
  refine at_lay (F := fun W' => Calls _ _ _ W' _) HL3.out ?_
  intro W3 hW
  have HW := Lib.hid hW
  clear hW HL3
  generalize w2.heap.size = bb2 at HW ⊢
  refine (told_any n m w1.heap.size cd KS p _ h6 (by omega) HLEN.out (HO.out.1.to HW.out.bel)).mono ?_
  rintro e w4 ⟨rfl, hb4⟩
  have HW4 := Lib.hid (HW.out.keep hb4)
  clear hb4 HW
  have b0 := HW4.out.cellB 0 rfl 0 (by omega)
  have b1 := HW4.out.cellB 0 rfl 1 (by omega)
  simp only [ofL_0, ofL_1] at b0 b1
  go_wp2_with fail
  rw [HKI.out]
  refine (told_any n i w2.heap.size cd2 HS r _ h6 (by omega) HLEN2.out (HRr.out.to HW4.out.bel)).mono ?_
  rintro e w5 ⟨rfl, hb5⟩
  have HW5 := Lib.hid (HW4.out.keep hb5)
  clear hb5 HW4 b0 b1
  go_wp2
  go_loopw [12] (fun x wr => ∃ q : Nat, q ≤ n ∧ x = .int .i64 q ∧ Hid (Lay w2 wr [blkG bb2 (r.l n i)])) (fun x _ => n - (intOf x).toNat)
  case atStart => exact ⟨0, by omega, rfl, HW5⟩
  case round =>
    clear HW5
    obtain ⟨q, hq, rfl, HQ⟩ := hrel
    by_cases hlt : q < n
    · have g1 := (HRr.out.to HQ.out.bel).K q hlt
      have e1 := HQ.out.cellB 0 rfl 1 (by omega)
      simp only [ofL_1] at e1
      have HLS := Lib.hid (HRr.out.L q hlt)
      have HKS := Lib.hid (HO.out.1.L q hlt)
      have HGK := Lib.hid (HO.out.1.K q hlt)
      have hl1 := HLEN2.out q hlt
      have hl2 := HLEN.out q hlt
      have HKP := Lib.hid (HLAW.out q hlt)
      generalize HS q = ha at g1 HLS hl1 HKP
      generalize KS q = ks at HKS HGK hl2 HKP
      generalize r.gA q = X at g1 HLS
      generalize r.gc q = cq at g1
      generalize p.gA q = Y at HKS HGK
      generalize p.gc q = cy at HGK
      obtain ⟨L, hL⟩ : ∃ L, L = ha.length := ⟨_, rfl⟩
      obtain ⟨K, hK⟩ : ∃ K, K = ks.length := ⟨_, rfl⟩
      rw [← hL] at g1 hl1 HKP
      rw [← hK] at HGK hl2 HKP
      have HLL := Lib.hid hL
      have HKK := Lib.hid hK
      clear hL hK
      obtain ⟨wz, hwz⟩ : ∃ wz, wz = wr := ⟨_, rfl⟩
      rw [← hwz] at HQ g1 e1 ⊢
      clear hwz
      go_wp2
      clear g1 e1
      go_loopw [73] (fun x wr => ∃ a : Nat, a ≤ L ∧ x = .int .i64 a ∧ Hid (Lay w2 wr [blkG bb2 (r.l n i)])) (fun x _ => L - (intOf x).toNat)
      case atStart => exact ⟨0, by omega, rfl, HQ⟩
      case round =>
        clear HQ
        obtain ⟨a, ha', rfl, HQ⟩ := hrel
        by_cases hal : a < L
        · obtain ⟨ad, ga, ca, rfl, hba, a0, a1, a2⟩ := HLS.out a (by rw [← HLL.out]; exact hal)
          have HRA := Lib.hid a2
          have w0 := (HQ.out.bel.cell (p := ad.add (a * 2)) (by rw [addr_block]; exact hba)).trans a0
          have w1 := (HQ.out.bel.cell (p := ⟨(ad.add (a * 2)).block, (ad.add (a * 2)).off + 1, none⟩) (show (ad.add (a * 2)).block < w2.heap.size by rw [addr_block]; exact hba)).trans a1
          clear a0 a1 a2 hba
          have HL5 := Lib.hid (HQ.out.newB [.int .i64 (knAt ha a).val, .slice (some ⟨ga, 0, none⟩) n ca] 38 2 rfl _ rfl)
          have f1 := (HL5.out.bel.cell (p := ⟨bb, 1, none⟩) HO.out.2.1).trans (HO.out.2.2.2 1 (by omega))
          have f2 := (HL5.out.bel.cell (p := p.aK.add q) (by rw [addr_block]; exact Nat.lt_of_lt_of_le HO.out.1.b HO.out.1.le)).trans HGK.out
          simp only [ofL_1] at f1
          go_wp2
          refine at_lay (F := fun W' => Code.wp _ _ _ _ W') HL5.out ?_
          intro W9 hW
          have HW := Lib.hid hW
          clear hW HL5 w0 w1 f1 f2 HQ
          generalize wr.heap.size = bk at HW ⊢
          go_loopw [15, 83] (fun o x wr => ∃ b : Nat, b ≤ K ∧ x = .int .i64 b ∧ o = .bool (anyTo (fun b => keepB n (knAt ha a) (knAt ks b)) b) ∧ Hid (Lay w2 wr [blkK bk (.int .i64 (knAt ha a).val) (.slice (some ⟨ga, 0, none⟩) n ca), blkG bb2 (r.l n i)])) (fun _ x _ => K - (intOf x).toNat)
          case atStart => exact ⟨0, by omega, rfl, rfl, HW⟩
          case round =>
            clear HW
            obtain ⟨b, hb, rfl, rfl, HQ⟩ := hrel
            by_cases hbK : b < K
            · obtain ⟨ad', gb, cb, rfl, hbb', b0, b1, b2⟩ := HKS.out b (by rw [← HKK.out]; exact hbK)
              have hw12 := HO.out.1.le
              have HRB := Lib.hid (b2.more hw12)
              have w0 := (HQ.out.bel.cell (p := ad'.add (b * 2)) (by rw [addr_block]; omega)).trans b0
              have w1 := (HQ.out.bel.cell (p := ⟨(ad'.add (b * 2)).block, (ad'.add (b * 2)).off + 1, none⟩) (show (ad'.add (b * 2)).block < w2.heap.size by rw [addr_block]; omega)).trans b1
              have k1 := HQ.out.cellB 0 rfl 1 (by omega)
              simp only [ofL_1] at k1
              have hbk := (HQ.out.at_ 0 rfl).2
              have HL5 := Lib.hid (HQ.out.newB [.int .i64 (knAt ks b).val, .slice (some ⟨gb, 0, none⟩) n cb] 38 2 rfl _ rfl)
              have HN : Hid (anyTo (fun b => keepB n (knAt ha a) (knAt ks b)) (b + 1) = (anyTo (fun b => keepB n (knAt ha a) (knAt ks b)) b || (ltB n (knAt ha a).vec (knAt ks b).vec || (eqB n (knAt ha a).vec (knAt ks b).vec && ((knAt ha a).val == (knAt ks b).val))))) := Lib.hid rfl
              clear b0 b1 b2 hbb' hw12
              generalize anyTo (fun b => keepB n (knAt ha a) (knAt ks b)) b = fl at HN ⊢
              cases fl
              · go_wp2_with fail
                refine (less_any n ca cb w2.heap.size _ _ (knAt ha a).vec (knAt ks b).vec (ltB n (knAt ha a).vec (knAt ks b).vec) _ (by omega) ltB_iff ((HRA.out.below HQ.out.bel).alloc HQ.out.size _) ((HRB.out.below HQ.out.bel).alloc HQ.out.size _)).mono ?_
                rintro e w10 ⟨rfl, hs⟩
                have HL10 := Lib.hid (HL5.out.sim hs)
                clear hs HL5 w0 w1 k1 hbk
                have k1 := HL10.out.cellB 1 rfl 1 (by omega)
                have o1 := HL10.out.cellB 0 rfl 1 (by omega)
                simp only [ofL_1] at k1 o1
                generalize ltB n (knAt ha a).vec (knAt ks b).vec = l1 at HN ⊢
                cases l1
                · go_wp2_with fail
                  refine (ints_any n ca cb w2.heap.size _ _ (knAt ha a).vec (knAt ks b).vec (eqB n (knAt ha a).vec (knAt ks b).vec) _ (by omega) eqB_iff (HRA.out.below HL10.out.bel) (HRB.out.below HL10.out.bel)).mono ?_
                  rintro e w11 ⟨rfl, hs⟩
                  have HL11 := Lib.hid (HL10.out.sim hs)
                  clear hs HL10 k1 o1
                  have k0 := HL11.out.cellB 1 rfl 0 (by omega)
                  have o0 := HL11.out.cellB 0 rfl 0 (by omega)
                  simp only [ofL_0] at k0 o0
                  generalize eqB n (knAt ha a).vec (knAt ks b).vec = e1 at HN ⊢
                  cases e1
                  · clear k0 o0
                    go_wp2
                    go_roundw
                    case rel => exact ⟨b + 1, by omega, by go_num, by rw [HN.out]; rfl, Lib.hid HL11.out.tail⟩
                    case measure => first | (simp [intOf]; done) | (simp [intOf]; omega)
                  · obtain ⟨c, hc⟩ : ∃ c, ((knAt ha a).val == (knAt ks b).val) = c := ⟨_, rfl⟩
                    rw [hc] at HN
                    cases c
                    · go_wp2
                      go_roundw
                      case rel => exact ⟨b + 1, by omega, by go_num, by rw [HN.out]; rfl, Lib.hid HL11.out.tail⟩
                      case measure => first | (simp [intOf]; done) | (simp [intOf]; omega)
                    · go_wp2
                      go_roundw
                      case rel => exact ⟨b + 1, by omega, by go_num, by rw [HN.out]; rfl, Lib.hid HL11.out.tail⟩
                      case measure => first | (simp [intOf]; done) | (simp [intOf]; omega)
                · go_wp2
                  go_roundw
                  case rel => exact ⟨b + 1, by omega, by go_num, by rw [HN.out]; rfl, Lib.hid HL10.out.tail⟩
                  case measure => first | (simp [intOf]; done) | (simp [intOf]; omega)
              · go_wp2
                go_roundw
                case rel => exact ⟨b + 1, by omega, by go_num, by rw [HN.out]; rfl, Lib.hid HL5.out.tail⟩
                case measure => first | (simp [intOf]; done) | (simp [intOf]; omega)
            · obtain rfl : b = K := by omega
              have hT : anyTo (fun b => keepB n (knAt ha a) (knAt ks b)) b = true := anyTo_iff.2 (HKP.out a hal)
              rw [hT]
              clear hT
              go_wp2
              go_roundw
              case rel => exact ⟨a + 1, by omega, by go_num, Lib.hid HQ.out.tail⟩
              case measure => first | (simp [intOf]; done) | (simp [intOf]; omega)
        · obtain rfl : a = L := by omega
          go_wp2
          go_roundw
          case rel => exact ⟨q + 1, by omega, by go_num, HQ⟩
          case measure => first | (simp [intOf]; done) | (simp [intOf]; omega)
    · obtain rfl : q = n := by omega
      go_wp2
      go_ret
      exact ⟨rfl, HO.out.2.2.1.trans (HQ.out.bel.mono HO.out.2.2.1.size)⟩
set_option maxRecDepth 100000 in
set_option maxHeartbeats 1600000 in
theorem gossipKeeps_bad (n : Int) (k i m cap : Nat) (A : Option Addr) (M : Mv) (w : World) (hk : k < 256) (hmc : m ≤ cap) (hcap : cap * 32 ≤ 140737488351232) (hr : Rd w w.heap.size A (m * 4) (mvF M)) (hki : ((k : Int) % ((m : Int) + 1)) = (i : Int)) (him : i ≤ m) (hb : playedB n m = false) :
    Calls Try.prog 6 #[.int .i64 n, .slice A m cap, .int .u8 k] w fun e w' => e = .returned (.bool true) ∧ Below w.heap.size w w' := by
  have hk0 : (0 : Int) ≤ (k : Int) % ((m : Int) + 1) := by rw [hki]; omega
  have hk1 : (k : Int) % ((m : Int) + 1) ≤ (cap : Int) := by rw [hki]; omega
  have HR := Lib.hid hr; clear hr
  have HKN : Hid (k % (m + 1) = i) := mod_nat hki
  clear hki
  have HB := Lib.hid hb; clear hb
  have HM : Hid (m ≤ maxLen) := by show m ≤ maxLen; unfold maxLen; omega
  go_enter Try.func6, Try.ntmps6
  go_wp2_with fail
  refine (go_bad' n m cap A w HM.out HB.out).mono ?_
  rintro e w1 ⟨rfl, hb1⟩
  have HB1 := Lib.hid (hb1.alloc hb1.size (.cells #[.slice none 0 0, .slice none 0 0] 27)); clear hb1
  go_wp2_with fail
  rw [HKN.out]
  generalize w1.alloc (.cells #[.slice none 0 0, .slice none 0 0] 27) = W1 at HB1 ⊢
  cases h2 : playedB n i
  · have HN2 := Lib.hid h2; clear h2
    refine (go_bad' n i cap A W1 (Nat.le_trans him HM.out) HN2.out).mono ?_
    rintro e w2 ⟨rfl, hb2⟩
    have HB2 := Lib.hid (HB1.out.trans (hb2.mono HB1.out.size)); clear hb2
    go_wp2_with (go_at_call 11; refine (bool_is (played_any n m _) HB.out).mono ?_; rintro e w3 ⟨rfl, rfl⟩)
    go_ret
    exact ⟨rfl, HB2.out.alloc HB2.out.size _⟩
  · obtain ⟨h3, h4, h5⟩ := playedB_iff.1 h2
    clear h2
    obtain ⟨n, rfl⟩ := Int.eq_ofNat_of_zero_le (show 0 ≤ n by omega)
    refine (go_play n i cap _ A M W1 (by omega) (by omega) (by omega) HB1.out.size ((HR.out.less (by omega)).below HB1.out)).mono ?_
    rintro e w2 ⟨v, rfl, r, HS, rfl, -, -, hb2⟩
    have HB2 := Lib.hid (HB1.out.trans (hb2.mono HB1.out.size))
    clear hb2
    go_wp2_with (go_at_call 11; refine (bool_is (played_any n m _) HB.out).mono ?_; rintro e w3 ⟨rfl, rfl⟩)
    go_ret
    exact ⟨rfl, HB2.out.alloc HB2.out.size _⟩
theorem gossipKeeps_all (n : Int) (A : Option Addr) (m cap : Nat) (M : Mv) (k : Int) (w : World) (_ : (Lit.int .i64 n).wf = true) (hmc : m ≤ cap ∧ cap * 32 ≤ 140737488351232) (hr : Rd w w.heap.size A (m * 4) (mvF M)) (hk : (Lit.int .u8 k).wf = true) :
    Calls Try.prog 6 #[.int .i64 n, .slice A m cap, .int .u8 k] w fun e w' => e = .returned (.bool true) ∧ Below w.heap.size w w' := by
  obtain ⟨k, rfl, hk2⟩ := u8_nat hk
  obtain ⟨i, hi1, hi2, _⟩ := mod_some k m
  have hcap : cap ≤ maxLen := by unfold maxLen; omega
  cases hb : playedB n m
  · exact gossipKeeps_bad n k i m cap A M w hk2 hmc.1 hmc.2 hr hi1 hi2 hb
  · obtain ⟨h1, h2, h3⟩ := playedB_iff.1 hb
    obtain ⟨n, rfl⟩ := Int.eq_ofNat_of_zero_le (show 0 ≤ n by omega)
    exact gossipKeeps_good n k i m cap A M w hk2 hmc.1 hcap hr hi1 hi2 (by omega) (by omega) (by omega)
end Go.Proofs.Ytdpigpjcldcoaaa
