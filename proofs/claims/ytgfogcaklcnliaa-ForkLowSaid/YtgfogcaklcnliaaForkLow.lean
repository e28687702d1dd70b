/- The law ForkLow, walked. -/
import Derived.Test.YtgfogcaklcnliaaFkLaw
set_option linter.unusedVariables false
set_option linter.unusedSimpArgs false
namespace Go.Proofs.Ytgfogcaklcnliaa
open Go.RowKit

theorem forkLow_bad (n : Int) (A : Option Addr) (m cap : Nat) (w : World) (h : Bad n A m cap w) :
    Calls Try.prog 3 #[.int .i64 n, .slice A m cap] w fun e w' => e = .returned (.bool true) ∧ Below w.heap.size w w' := by
  have H := Lib.hid h; clear h
  go_enter Try.func3, Try.ntmps3
  go_wp2_with fail
  refine (badLow H.out).mono ?_
  rintro e w1 ⟨v, rfl, c, rfl, hc, hb⟩
  have HB := Lib.hid hb; clear hb
  go_wp2_with fail
  refine (badRound (H.out.below HB.out)).mono ?_
  rintro e w2 ⟨v, rfl, d, rfl, hd, hb⟩
  have HB2 := Lib.hid (HB.out.trans (hb.mono HB.out.size)); clear hb
  go_wp2_with fail
  refine (badForked (H.out.below HB2.out)).mono ?_
  rintro e w3 ⟨v, rfl, rfl, hb⟩
  have HB3 := Lib.hid (HB2.out.trans (hb.mono HB2.out.size)); clear hb
  go_wp2
  go_ret
  exact ⟨rfl, HB3.out⟩
set_option maxHeartbeats 1000000 in
theorem forkLow_good (n : Nat) (l : Lk) (A : Option Addr) (m cap : Nat) (w : World) (h : Good n l A m cap w) :
    Calls Try.prog 3 #[.int .i64 (n : Nat), .slice A m cap] w fun e w' => e = .returned (.bool true) ∧ Below w.heap.size w w' := by
  have H := Lib.hid h; clear h
  have h1 := H.out.ok.h1
  have h6 := H.out.ok.h6
  have h15 := H.out.m15
  go_enter Try.func3, Try.ntmps3
  go_wp2_with fail
  refine (goodLow H.out).mono ?_
  rintro e w1 ⟨v, rfl, rfl, hb⟩
  have HB := Lib.hid hb; clear hb
  go_wp2_with fail
  refine (goodRound (H.out.below HB.out)).mono ?_
  rintro e w2 ⟨v, rfl, rfl, hb⟩
  have HB2 := Lib.hid (HB.out.trans (hb.mono HB.out.size)); clear hb
  go_wp2_with fail
  refine (goodForked (H.out.below HB2.out)).mono ?_
  rintro e w3 ⟨v, rfl, rfl, hb⟩
  have HB3 := Lib.hid (HB2.out.trans (hb.mono HB2.out.size)); clear hb HB2 HB
  have HNZ : Hid (isRound n l = false → low n l ≠ 0) := Lib.hid fun hr => low_some H.out.ok fun hc => by rw [(round_iff H.out.ok).2 hc] at hr; cases hr
  have HFU : Hid (low n l = 2 ^ n - 1 ↔ m = 0) := Lib.hid (by rw [H.out.hm]; exact low_full H.out.ok)
  have HSI : Hid (∀ j, j < m → (low n l).testBit (f1 l j) = false) := Lib.hid fun j hj => low_sinks H.out.ok _ (f_mem (by rw [← H.out.hm]; exact hj))
  have HS := Lib.hid (six_small h6 (low_lt n l))
  generalize low n l = S at HNZ HFU HSI HS ⊢
  have hf0 : ((S : Int) == (2 ^ n - 1) % 4294967296) = ((m : Int) == 0) := by
    have e := full_num h6
    rw [Int.emod_sub_emod] at e
    rw [e, Bool.eq_iff_iff, beq_iff_eq, beq_iff_eq, Int.ofNat_inj, HFU.out]
    omega
  obtain ⟨F, hF2⟩ : ∃ F : Int, ((2 : Int) ^ n - 1) % 4294967296 = F := ⟨_, rfl⟩
  have hF1 : ((2 : Int) ^ n % 4294967296 - 1) % 4294967296 = F := by rw [← hF2, Int.emod_sub_emod]
  rw [hF2] at hf0
  obtain ⟨b, hb⟩ : ∃ b, ((m : Int) == 0) = b := ⟨_, rfl⟩
  rw [hb] at hf0
  obtain ⟨z, hz⟩ : ∃ z, ((S : Int) == 0) = z := ⟨_, rfl⟩
  have HZ : Hid (isRound n l = false → z = false) := Lib.hid fun hr => by
    rw [← hz]
    have := HNZ.out hr
    simp; omega
  have hb2 : (m == 0) = b := by rw [← hb]; exact Bool.eq_iff_iff.2 (by simp)
  have hz2 : (S == 0) = z := by rw [← hz]; exact Bool.eq_iff_iff.2 (by simp)
  clear HNZ HFU
  cases hr : isRound n l
  case' false =>
    obtain rfl : z = false := HZ.out hr
    clear hr HZ
    cases b
  case' true =>
    clear hr HZ
    cases b <;> cases z
  all_goals
    go_wp2
    try simp only [hF1]
    go_loopw [61] (fun i wr => ∃ k : Nat, k ≤ m ∧ i = .int .i64 k ∧ Hid (Below w.heap.size w wr)) (fun i _ => m - (intOf i).toNat)
    case atStart => exact ⟨0, by omega, rfl, HB3⟩
    case round =>
      clear HB3
      obtain ⟨k, hk, rfl, HBr⟩ := hrel
      have hzz := HBr.out.size
      by_cases hlt : k < m
      · obtain ⟨ad, rfl, hbl, c0, c1⟩ := (H.out.rd.below HBr.out).rec2 hlt
        have HB1 : Hid (∀ o, Below w.heap.size w (wr.alloc o)) := fun o => HBr.out.alloc hzz o
        have hbl2 : (ad.add (k * 2)).block < wr.heap.size := by rw [addr_block]; omega
        have HBT := Lib.hid ((bitB_nat S (f1 l k)).trans (HSI.out k hlt))
        go_wp2_with fail
        refine (bit_is _ S (f1 l k : Nat) _ (by have := HS.out; omega) HBT.out).mono ?_
        rintro e w' ⟨rfl, rfl⟩
        go_wp2
        go_roundw
        case rel => exact ⟨k + 1, by omega, by go_num, HB1.out _⟩
        case measure => simp [intOf]; omega
      · obtain rfl : k = m := by omega
        go_wp2
        go_ret
        exact ⟨rfl, HBr.out⟩
theorem forkLow_all (n : Int) (A : Option Addr) (m cap : Nat) (p q : Nat → Int) (w : World) (wn : (Lit.int .i64 n).wf = true) (hc : m ≤ cap ∧ cap ≤ maxLen) (hr : Rd w w.heap.size A (m * 2) (recF2 p q)) :
    Calls Try.prog 3 #[.int .i64 n, .slice A m cap] w fun e w' => e = .returned (.bool true) ∧ Below w.heap.size w w' := by
  rcases good_or_bad n A m cap p q w hc hr with ⟨n', l, rfl, h⟩ | h
  · exact forkLow_good n' l A m cap w h
  · exact forkLow_bad n A m cap w h
end Go.Proofs.Ytgfogcaklcnliaa
