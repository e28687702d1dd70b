/- The law TokenFew, walked. -/
import Derived.Test.YtihkbkbbllmliaaTkFew
set_option linter.unusedVariables false
set_option linter.unusedSimpArgs false
namespace Go.Proofs.Ytihkbkbbllmliaa
open Go.RowKit Go.Maps Go.MapKept

theorem wantC_le (n : Nat) (v : Nat → Nat) (r : Nat) (M : Mv) : ∀ j, wantC n v r M j ≤ j ∧ tookC n v r M j ≤ j
  | 0 => ⟨Nat.le_refl _, Nat.le_refl _⟩
  | j + 1 => by
    obtain ⟨h1, h2⟩ := wantC_le n v r M j
    rw [wantC, tookC]
    constructor
    · split <;> omega
    · split <;> omega
theorem zero_bits (n : Nat) (v : Nat → Nat) (r : Nat) : inK (KS0 v r) n = 0 ∧ wantK (KS0 v r) n = 0 := by
  constructor
  · refine Nat.eq_of_testBit_eq fun i => ?_
    rw [inK_bit, Nat.zero_testBit]
    have : (KS0 v r).inn ≠ (i : Int) := by show (-1 : Int) ≠ i; omega
    simp [this]
  · refine Nat.eq_of_testBit_eq fun i => ?_
    rw [wantK_bit, Nat.zero_testBit]
    have : i ∉ (KS0 v r).row i := by show i ∉ []; simp
    simp [this]
theorem few_fin {n r : Nat} {u : Nat → Int} (hn : n ≤ 6) (h1 : 1 ≤ n) (ht : TreeOk n u) (hr : rootsL (vN u) n = [r]) (M : Mv) (m : Nat) :
    (wantC n (vN u) r M m = 0 ∧ tookC n (vN u) r M m = 0 ∧ wayLen n (tkE n (vN u) r M m).way = 0 ∧ inK (tkE n (vN u) r M m) n = 0 ∧ wantK (tkE n (vN u) r M m) n = 0) ∨
    (0 < wantC n (vN u) r M m ∧ tookC n (vN u) r M m + wayLen n (tkE n (vN u) r M m).way ≤ 3 * (n - 1) * wantC n (vN u) r M m) := by
  have h := few_end hn ht hr M m
  by_cases hw : wantC n (vN u) r M m = 0
  · left
    have e := zero_all n r (vN u) M m hw
    rw [hw, Nat.mul_zero] at h
    refine ⟨hw, by omega, by omega, ?_⟩
    rw [e]
    exact zero_bits n _ r
  · exact .inr ⟨by omega, h⟩
set_option maxRecDepth 100000 in
set_option maxHeartbeats 3200000 in
theorem tokenFew_good (n m cap cap1 : Nat) (A A1 : Option Addr) (u : Nat → Int) (M : Mv) (w : World) (hru : Rd w w.heap.size A1 n (fun j => .int .i64 (u j))) (hr : Rd w w.heap.size A (m * 4) (mvF M)) (h1 : 1 ≤ n) (h6 : n ≤ 6) (hm6 : m ≤ 60) (ht : TreeOk n u) :
    Calls Try.prog 8 #[.slice A1 n cap1, .slice A m cap] w fun e w' => e = .returned (.bool true) ∧ Below w.heap.size w w' := by
  have HR := Lib.hid hr; clear hr
  have HRU := Lib.hid hru; clear hru
  have HB : Hid (playedB n m = true ∧ TreeOk n u) := Lib.hid ⟨playedB_iff.2 ⟨by omega, by omega, by omega⟩, ht⟩
  obtain ⟨r, hrt, -⟩ := ht.root
  have HRT := Lib.hid hrt
  have hfew := few_fin h6 h1 ht hrt M m
  obtain ⟨hw60, ht60⟩ := wantC_le n (vN u) r M m
  clear hrt
  go_enter Try.func8, Try.ntmps8
  go_wp2_with fail
  refine (tk_good n w m cap cap1 _ r A A1 u M h1 h6 hm6 (Nat.le_refl _) HRU.out ht HRT.out HR.out).mono ?_
  rintro e w1 ⟨v, rfl, AC, cC, rfl, hL⟩
  generalize wayLen n (tkE n (vN u) r M m).way = l at hfew ⊢
  generalize inK (tkE n (vN u) r M m) n = a at hfew ⊢
  generalize wantK (tkE n (vN u) r M m) n = b at hfew ⊢
  have HF := Lib.hid hfew
  clear hfew ht
  have HL : Hid (Lay w (w1.alloc (.cells #[.slice AC m cC, .int .u32 (a : Nat), .int .u32 (b : Nat), .int .i64 (l : Nat)] 26)) [blkK w1.heap.size [.slice AC m cC, .int .u32 (a : Nat), .int .u32 (b : Nat), .int .i64 (l : Nat)], lstK AC m cC (tkC n (vN u) r M)]) := Lib.hid (hL.newB [.slice AC m cC, .int .u32 (a : Nat), .int .u32 (b : Nat), .int .i64 (l : Nat)] 26 4 rfl _ rfl)
  clear hL
  go_wp2_with (go_at_call 14; refine (treed_any A1 n cap1 w.heap.size m u _ (by unfold maxLen; omega) (HRU.out.below HL.out.bel)).mono ?_; rintro e w3 ⟨b3, rfl, hb3, rfl⟩; obtain rfl := hb3.2 HB.out; clear hb3 HB)
  generalize w1.heap.size = q at HL ⊢
  go_loopw [7, 8, 36] (fun wv tv iv wr => ∃ i : Nat, i ≤ m ∧ iv = .int .i64 i ∧ wv = .int .i64 (wantC n (vN u) r M i : Nat) ∧ tv = .int .i64 (tookC n (vN u) r M i : Nat) ∧ Hid (Lay w wr [blkK q [.slice AC m cC, .int .u32 (a : Nat), .int .u32 (b : Nat), .int .i64 (l : Nat)], lstK AC m cC (tkC n (vN u) r M)])) (fun _ _ iv _ => m - (intOf iv).toNat)
  case atStart => exact ⟨0, by omega, rfl, rfl, rfl, HL⟩
  case round =>
    clear HL
    obtain ⟨i, hi, rfl, rfl, rfl, HQ⟩ := hrel
    have b0 := HQ.out.cellB 0 rfl 0 (by omega)
    simp only [ofL_0] at b0
    have hq := (HQ.out.at_ 0 rfl).2
    by_cases hlt : i < m
    · obtain ⟨gc, rfl, -, hgl, hcc, -⟩ := (HQ.out.own 1 _ rfl).pos1 (show 0 < m by omega)
      have hc : wr.cell? ⟨gc, i, none⟩ = some (.int .i64 (tkC n (vN u) r M i)) := hcc i hlt
      have HW : Hid (wantC n (vN u) r M (i + 1) = wantC n (vN u) r M i + if tkC n (vN u) r M i = 0 ∧ M.k i = 1 then 1 else 0) := Lib.hid rfl
      have HT : Hid (tookC n (vN u) r M (i + 1) = tookC n (vN u) r M i + if tkC n (vN u) r M i = 0 ∧ M.k i = 2 then 1 else 0) := Lib.hid rfl
      obtain ⟨w60, t60⟩ := wantC_le n (vN u) r M i
      obtain ⟨ad, rfl, hbl, m0, m1, m2, m3⟩ := (HR.out.below HQ.out.bel).rec4 hlt
      have HN := Lib.hid (HQ.out.alloc (.cells #[.int .i64 (M.k i), .int .i64 (M.f i), .int .i64 (M.t i), .int .i64 (M.v i)] 35))
      clear hcc hbl HQ
      by_cases c0 : tkC n (vN u) r M i = 0
      · rw [c0] at hc
        by_cases k1 : M.k i = 1
        · rw [if_pos ⟨c0, k1⟩] at HW
          rw [if_neg (fun e => by rw [k1] at e; exact absurd e.2 (by decide)), Nat.add_zero] at HT
          rw [k1] at m0 HN
          clear c0 k1
          go_wp2
          go_roundw
          case rel => exact ⟨i + 1, by omega, by first | go_num | (rw [HW.out]; go_num) | (rw [HW.out]), by first | (rw [HW.out]; go_num) | (rw [HW.out]), by first | (rw [HT.out]; go_num) | (rw [HT.out]), HN⟩
          case measure => simp [intOf]; omega
        · by_cases k2 : M.k i = 2
          · rw [if_neg (fun e => k1 e.2), Nat.add_zero] at HW
            rw [if_pos ⟨c0, k2⟩] at HT
            rw [k2] at m0 HN
            clear c0 k1 k2
            go_wp2
            go_roundw
            case rel => exact ⟨i + 1, by omega, by first | go_num | (rw [HW.out]; go_num) | (rw [HW.out]), by first | (rw [HW.out]; go_num) | (rw [HW.out]), by first | (rw [HT.out]; go_num) | (rw [HT.out]), HN⟩
            case measure => simp [intOf]; omega
          · rw [if_neg (fun e => k1 e.2), Nat.add_zero] at HW
            rw [if_neg (fun e => k2 e.2), Nat.add_zero] at HT
            have e1 : (M.k i == 1) = false := by rw [beq_eq_false_iff_ne]; exact k1
            have e2 : (M.k i == 2) = false := by rw [beq_eq_false_iff_ne]; exact k2
            clear c0 k1 k2
            go_wp2
            go_roundw
            case rel => exact ⟨i + 1, by omega, by first | go_num | (rw [HW.out]; go_num) | (rw [HW.out]), by first | (rw [HW.out]; go_num) | (rw [HW.out]), by first | (rw [HT.out]; go_num) | (rw [HT.out]), HN⟩
            case measure => simp [intOf]; omega
      · rw [if_neg (fun e => c0 e.1), Nat.add_zero] at HW HT
        have e0 : (tkC n (vN u) r M i == 0) = false := by rw [beq_eq_false_iff_ne]; exact c0
        clear c0
        go_wp2
        go_roundw
        case rel => exact ⟨i + 1, by omega, by first | go_num | (rw [HW.out]; go_num) | (rw [HW.out]), by first | (rw [HW.out]; go_num) | (rw [HW.out]), by first | (rw [HT.out]; go_num) | (rw [HT.out]), HN⟩
        case measure => simp [intOf]; omega
    · obtain rfl : i = m := by omega
      have b1 := HQ.out.cellB 0 rfl 1 (by omega)
      have b2 := HQ.out.cellB 0 rfl 2 (by omega)
      have b3 := HQ.out.cellB 0 rfl 3 (by omega)
      simp only [ofL_1, ofL_2, ofL_3] at b1 b2 b3
      generalize wantC n (vN u) r M i = W at hw60 HF ⊢
      generalize tookC n (vN u) r M i = T at ht60 HF ⊢
      rcases HF.out with ⟨rfl, rfl, rfl, rfl, rfl⟩ | ⟨h0, h2⟩
      · clear HF
        rcases (show n = 1 ∨ n = 2 ∨ n = 3 ∨ n = 4 ∨ n = 5 ∨ n = 6 by omega) with h | h | h | h | h | h
        all_goals
          subst h
          go_wp2
          go_ret
          exact ⟨ret_bool (by first | rfl | (simp; done) | (simp; omega)), HQ.out.bel⟩
      · clear HF
        rcases (show n = 1 ∨ n = 2 ∨ n = 3 ∨ n = 4 ∨ n = 5 ∨ n = 6 by omega) with h | h | h | h | h | h
        · subst h
          simp only [Nat.reduceSub, Nat.zero_mul, Nat.mul_zero] at h2
          obtain rfl : T = 0 := by omega
          obtain rfl : l = 0 := by omega
          go_wp2
          go_ret
          exact ⟨ret_bool (by first | rfl | (simp; done) | (simp; omega)), HQ.out.bel⟩
        all_goals
          subst h
          simp only [Nat.reduceSub, Nat.reduceMul, Nat.zero_mul, Nat.mul_zero, Nat.one_mul] at h2
          go_wp2
          go_ret
          exact ⟨ret_bool (by first | rfl | (simp; done) | (simp; omega)), HQ.out.bel⟩
theorem tokenFew_bad (n m cap cap1 : Nat) (A A1 : Option Addr) (u : Nat → Int) (w : World) (hn : n ≤ maxLen) (hm : m ≤ maxLen) (hru : Rd w w.heap.size A1 n (fun j => .int .i64 (u j))) (hb : ¬ (playedB n m = true ∧ TreeOk n u)) :
    Calls Try.prog 8 #[.slice A1 n cap1, .slice A m cap] w fun e w' => e = .returned (.bool true) ∧ Below w.heap.size w w' := by
  have HB := Lib.hid hb; clear hb
  have HM := Lib.hid hm
  have HN := Lib.hid hn
  have HRU := Lib.hid hru; clear hru
  go_enter Try.func8, Try.ntmps8
  go_wp2_with fail
  refine (tk_bad n m cap cap1 A A1 u w HN.out HM.out HRU.out HB.out).mono ?_
  rintro e w1 ⟨c, hc, rfl, hb1⟩
  have e1 : (c != 0) = true := by rw [bne_iff_ne]; exact hc
  have HB1 := Lib.hid (hb1.alloc hb1.size (.cells #[.slice none 0 0, .int .u32 0, .int .u32 0, .int .i64 0] 26)); clear hb1
  unfold maxLen at hm
  go_wp2_with (go_at_call 14; refine (treed_any A1 n cap1 w.heap.size m u _ HN.out (HRU.out.below HB1.out)).mono ?_; rintro e w3 ⟨b3, rfl, hb3, rfl⟩; obtain rfl : b3 = false := by (cases b3; rfl; exact absurd (hb3.1 rfl) HB.out))
  go_ret
  exact ⟨rfl, HB1.out⟩
theorem tokenFew_all (A1 : Option Addr) (n cap1 : Nat) (u : Nat → Int) (A : Option Addr) (m cap : Nat) (M : Mv) (w : World) (hnc : n ≤ cap1 ∧ cap1 ≤ maxLen) (_ : ∀ i, i < n → (Lit.int .i64 (u i)).wf = true) (hru : Rd w w.heap.size A1 n (fun j => .int .i64 (u j))) (hmc : m ≤ cap ∧ cap ≤ maxLen) (hr : Rd w w.heap.size A (m * 4) (mvF M)) :
    Calls Try.prog 8 #[.slice A1 n cap1, .slice A m cap] w fun e w' => e = .returned (.bool true) ∧ Below w.heap.size w w' := by
  by_cases hb : playedB n m = true ∧ TreeOk n u
  · obtain ⟨h1, h2, h3⟩ := playedB_iff.1 hb.1
    exact tokenFew_good n m cap cap1 A A1 u M w hru hr (by omega) (by omega) (by omega) hb.2
  · exact tokenFew_bad n m cap cap1 A A1 u w (Nat.le_trans hnc.1 hnc.2) (Nat.le_trans hmc.1 hmc.2) hru hb
end Go.Proofs.Ytihkbkbbllmliaa
