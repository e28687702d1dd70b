/- The law QuorumGifford, walked. -/
import Derived.Test.YtgjmnnbcclgahaaGif2
set_option linter.unusedVariables false
set_option linter.unusedSimpArgs false
namespace Go.Proofs.Ytgjmnnbcclgahaa
open Go.RowKit

set_option maxHeartbeats 400000 in
theorem votes_size (n cap : Nat) (A : Option Addr) (most : Int) (w : World) (hn : n ≤ maxLen) (h : n < 1 ∨ 6 < n) :
    Calls Try.prog 22 #[.slice A n cap, .int .i64 most] w fun e w' => e = .returned (.tuple #[.slice none 0 0, .int .i64 1]) ∧ Below w.heap.size w w' := by
  unfold maxLen at hn
  go_enter Try.func22, Try.ntmps22
  go_wp2
  all_goals first
    | (exfalso; omega)
    | (go_ret2; exact ⟨rfl, (Below.refl _ _).alloc (Nat.le_refl _) _⟩)
set_option maxHeartbeats 400000 in
theorem votes_range (n cap : Nat) (A : Option Addr) (most : Int) (V : Nat → Int) (w : World) (h1 : 1 ≤ n) (h6 : n ≤ 6) (hr : Rd w w.heap.size A n (fun j => .int .i64 (V j))) (h : anyTo (fun j => badV (V j)) n = true ∨ most < 1) :
    Calls Try.prog 22 #[.slice A n cap, .int .i64 most] w fun e w' => e = .returned (.tuple #[.slice none 0 0, .int .i64 4]) ∧ Below w.heap.size w w' := by
  have HR := Lib.hid hr; clear hr
  obtain ⟨y, hy⟩ : ∃ y, anyTo (fun j => badV (V j)) n = y := ⟨_, rfl⟩
  rw [hy] at h
  have HB := Lib.hid hy; clear hy
  cases y
  · have h : most < 1 := by simpa using h
    go_enter Try.func22, Try.ntmps22
    go_wp2_with fail
    refine (contains_Votes false A n cap w.heap.size _ _ (by unfold maxLen; omega) (HR.out.alloc (Nat.le_refl _) _) HB.out).mono ?_
    rintro e W ⟨rfl, rfl⟩
    go_wp2
    go_ret2
    exact ⟨rfl, (Below.refl _ _).alloc (Nat.le_refl _) _⟩
  · clear h
    go_enter Try.func22, Try.ntmps22
    go_wp2_with fail
    refine (contains_Votes true A n cap w.heap.size _ _ (by unfold maxLen; omega) (HR.out.alloc (Nat.le_refl _) _) HB.out).mono ?_
    rintro e W ⟨rfl, rfl⟩
    go_wp2
    go_ret2
    exact ⟨rfl, (Below.refl _ _).alloc (Nat.le_refl _) _⟩
theorem votes_any (n cap : Nat) (A : Option Addr) (most : Int) (V : Nat → Int) (w : World) (hn : n ≤ maxLen) (hr : Rd w w.heap.size A n (fun j => .int .i64 (V j))) :
    Calls Try.prog 22 #[.slice A n cap, .int .i64 most] w (Gives fun x w' => Below w.heap.size w w' ∧ VotesGive n most V x w') := by
  by_cases hs : n < 1 ∨ 6 < n
  · exact (votes_size n cap A most w hn hs).mono fun e w' ⟨he, hb⟩ => ⟨_, he, hb, .inl ⟨1, by omega, rfl⟩⟩
  · by_cases hb : anyTo (fun j => badV (V j)) n = true ∨ most < 1
    · exact (votes_range n cap A most V w (by omega) (by omega) hr hb).mono fun e w' ⟨he, hb⟩ => ⟨_, he, hb, .inl ⟨4, by omega, rfl⟩⟩
    · have hall := anyTo_no.1 (show anyTo (fun j => badV (V j)) n = false by
        cases hq : anyTo (fun j => badV (V j)) n
        · rfl
        · exact absurd (.inl hq) hb)
      obtain ⟨M, rfl⟩ := Int.eq_ofNat_of_zero_le (show 0 ≤ most by omega)
      have hv : ∀ j, j < n → V j = ((V j).toNat : Nat) ∧ (V j).toNat ≤ 100 := fun j hj => by
        have := hall j hj
        simp [badV] at this
        omega
      refine (votes_good n A cap M (fun j => (V j).toNat) w (by omega) (by omega) (by omega) (fun j hj => (hv j hj).2) (hr.congr fun j hj => by rw [← (hv j hj).1])).mono ?_
      rintro e w' ⟨x, rfl, hb1, hx⟩
      refine ⟨x, rfl, hb1, ?_⟩
      rcases hx with h | ⟨e1, e2, v, M', e3, e4, e5, e6⟩
      · exact .inl h
      · exact .inr ⟨e1, e2, v, M', e3, e4, fun j hj => ⟨by rw [(hv j hj).1]; exact (e5 j hj).1, (e5 j hj).2⟩, e6⟩
set_option maxHeartbeats 1600000 in
theorem quorumGifford_all (A : Option Addr) (n cap : Nat) (V : Nat → Int) (most : Int) (w : World) (hmc : n ≤ cap ∧ cap ≤ maxLen) (_ : ∀ j, j < n → (Lit.int .i64 (V j)).wf = true) (hr : Rd w w.heap.size A n (fun j => .int .i64 (V j))) (_ : (Lit.int .i64 most).wf = true) :
    Calls Try.prog 8 #[.slice A n cap, .int .i64 most] w fun e w' => e = .returned (.bool true) ∧ Below w.heap.size w w' := by
  have HR := Lib.hid hr; clear hr
  have hn := Nat.le_trans hmc.1 hmc.2
  have HN := Lib.hid hn
  unfold maxLen at hn
  clear hmc
  go_enter Try.func8, Try.ntmps8
  go_wp2_with fail
  refine (votes_any n cap A most V w HN.out HR.out).mono ?_
  rintro e w1 ⟨x, rfl, hb1, hx⟩
  have HB1 := Lib.hid hb1; clear hb1
  rcases hx with ⟨c, hc, rfl⟩ | ⟨h1, h6, v, M, rfl, hM, hV, A', c', rfl, hpos, hcap, hr⟩
  · have hc2 : (c != 0) = true := by simpa using hc
    clear hc
    go_wp2
    go_ret
    exact ⟨rfl, HB1.out⟩
  · have HV : Hid (∀ j, j < n → v j ≤ 100) := Lib.hid fun j hj => (hV j hj).2
    have HRv : Hid (Rd w1 w.heap.size A n (fun j => .int .i64 (v j : Nat))) := Lib.hid ((HR.out.congr fun j hj => by rw [(hV j hj).1]).below HB1.out)
    obtain ⟨k, hk⟩ : ∃ k, k = (vl v n M (2 ^ n)).length := ⟨_, rfl⟩
    obtain ⟨S, hS⟩ : ∃ S, S = sumN n v := ⟨_, rfl⟩
    have hS600 : S ≤ 600 := by rw [hS]; exact Nat.le_trans (sumN_le HV.out) (by omega)
    have hk64 : k ≤ 64 := by rw [hk]; exact Nat.le_trans (vl_len _ _ _ _) (pow_small h6)
    have hM600 : M ≤ 600 := by
      have : ∃ x, x ∈ vl v n M (2 ^ n) := List.exists_mem_of_length_pos hpos
      obtain ⟨x, hx⟩ := this
      have h2 := (vl_mem.1 hx).2.1
      have h3 := vs_small (s := x) h6 HV.out
      omega
    have HL : Hid (Rd w1 w1.heap.size A' k (fun j => .int .u32 (lf (vl v n M (2 ^ n)) j : Nat))) := Lib.hid (by rw [hk]; exact hr)
    rw [← hk] at hcap hpos ⊢
    have HK := Lib.hid hk
    have HS := Lib.hid hS
    clear hr hV hk hS HR
    have hk0 : ((k : Int) == 0) = false := by rw [beq_eq_false_iff_ne]; omega
    go_wp2
    go_loop [8, 40] (fun y i => ∃ j q : Nat, j ≤ n ∧ i = .int .i64 j ∧ y = .int .i64 q ∧ q ≤ 600 ∧ Hid (q = sumN j v)) (fun _ i => n - (intOf i).toNat)
    case atStart => exact ⟨0, 0, by omega, rfl, rfl, by omega, Lib.hid rfl⟩
    case round =>
      obtain ⟨j, q, hj, rfl, rfl, hq, HQ⟩ := hrel
      by_cases hlt : j < n
      · obtain ⟨ad, rfl, _, hc⟩ := HRv.out (by omega)
        have hck : w1.cell? (ad.add j) = some (.int .i64 (v j : Nat)) := hc j hlt
        clear hc
        have HQ2 : Hid (q + v j = sumN (j + 1) v) := Lib.hid (by rw [HQ.out]; rfl)
        have hq2 : q + v j ≤ 600 := by
          rw [HQ2.out]
          exact Nat.le_trans (sumN_le fun i hi => HV.out i (by omega)) (by omega)
        obtain ⟨x, hx⟩ : ∃ x, x = v j := ⟨_, rfl⟩
        rw [← hx] at hck HQ2 hq2
        clear hx
        go_wp2
        go_round
        case rel => exact ⟨j + 1, q + x, by omega, by go_num, by go_num, hq2, HQ2⟩
        case measure => simp [intOf]; omega
      · obtain rfl : j = n := by omega
        have hqS : q = S := by rw [HQ.out, HS.out]
        subst hqS
        by_cases hbig : 2 * M ≤ q ∨ 20 < k
        · have hbig2 : (decide (2 * (M : Int) ≤ (q : Int)) || decide (20 < (k : Int))) = true := by
            rw [Bool.or_eq_true, decide_eq_true_iff, decide_eq_true_iff]; omega
          by_cases hb3 : 2 * M ≤ q
          all_goals
            go_wp2
            go_ret
            exact ⟨rfl, HB1.out⟩
        · have hb3 : ¬ 2 * M ≤ q := fun h => hbig (.inl h)
          have hb4 : ¬ 20 < k := fun h => hbig (.inr h)
          have HG := Lib.hid (vl_good (v := v) h6 hM (by rw [← HQ.out]; omega) (by rw [← HK.out]; omega))
          have HQC : Hid (quCode j (lf (vl v j M (2 ^ j))) k 0 = 0) := Lib.hid (by rw [HK.out]; exact HG.out.code h1 h6)
          have HT : Hid (meetB (lf (vl v j M (2 ^ j))) k = true) := Lib.hid (by rw [HK.out]; exact (lf_meet _).2 HG.out.two)
          have HF : Hid (2 * M = q + 1 → loserIs (lf (vl v j M (2 ^ j))) k j = false) := Lib.hid (fun h => by rw [HK.out]; exact vl_full h6 (by rw [← HQ.out]; exact h))
          clear hbig
          go_wp2_with fail
          refine (qmeet_is true j A' k c' w1.heap.size _ w1 hcap (Nat.le_refl _) (by unfold maxLen; omega) HL.out HQC.out HT.out).mono ?_
          rintro e w2 ⟨rfl, hb2⟩
          have HB2 := Lib.hid hb2; clear hb2
          have HC := full_good j A' k c' w1.heap.size _ w2 hcap HB2.out.size (by unfold maxLen; omega) (HL.out.below HB2.out) HQC.out HT.out
          cases hlo : loserIs (lf (vl v j M (2 ^ j))) k j
          all_goals
            rw [hlo] at HC
            have HC1 := Lib.hid HC; clear HC
            have HLO := Lib.hid hlo; clear hlo
          · by_cases he : (2 * (M : Int) != (q : Int) + 1) = true
            all_goals
              go_wp2_with fail
              refine HC1.out.mono ?_
              rintro e w3 ⟨rfl, hb3⟩
              have HB3 := Lib.hid (HB1.out.trans ((HB2.out.trans (hb3.mono HB2.out.size)).mono HB1.out.size)); clear hb3
              go_wp2
              all_goals (go_ret; exact ⟨rfl, HB3.out⟩)
          · have he : (2 * (M : Int) != (q : Int) + 1) = true := by
              rw [bne_iff_ne]
              intro h
              have := HF.out (by omega)
              rw [HLO.out] at this; cases this
            go_wp2_with fail
            refine HC1.out.mono ?_
            rintro e w3 ⟨rfl, hb3⟩
            have HB3 := Lib.hid (HB1.out.trans ((HB2.out.trans (hb3.mono HB2.out.size)).mono HB1.out.size)); clear hb3
            go_wp2
            all_goals (go_ret; exact ⟨rfl, HB3.out⟩)
end Go.Proofs.Ytgjmnnbcclgahaa
