/- The law TurnFew, walked. -/
import Derived.Test.YtihkbkbbllmliaaTuFew
set_option linter.unusedVariables false
set_option linter.unusedSimpArgs false
namespace Go.Proofs.Ytihkbkbbllmliaa
open Go.RowKit Go.Maps Go.MapKept

theorem wantN_le (n : Nat) (M : Mv) : ∀ j, wantN n M j ≤ j ∧ tookN n M j ≤ j
  | 0 => ⟨Nat.le_refl _, Nat.le_refl _⟩
  | j + 1 => by
    obtain ⟨h1, h2⟩ := wantN_le n M j
    rw [wantN, tookN]
    constructor
    · split <;> omega
    · split <;> omega
theorem way_small {n : Nat} {M : Mv} {m : Nat} (hn : n ≤ 6) (hm : m ≤ 60) : wayLen n (tuE n M m).way ≤ 2160 := by
  have h1 := sum_le (g := fun p => ((tuE n M m).way p).length) (B := 60) (l := pairs n) fun p _ => Nat.le_trans ((tuE_B n M m).1 p) hm
  rw [pairs_len] at h1
  have h2 := Nat.mul_le_mul hn hn
  unfold wayLen; omega
set_option maxRecDepth 100000 in
set_option maxHeartbeats 3200000 in
theorem turnFew_good (n m cap : Nat) (A : Option Addr) (M : Mv) (w : World) (hr : Rd w w.heap.size A (m * 4) (mvF M)) (h1 : 1 ≤ n) (h6 : n ≤ 6) (hm6 : m ≤ 60) :
    Calls Try.prog 5 #[.int .i64 n, .slice A m cap] w fun e w' => e = .returned (.bool true) ∧ Below w.heap.size w w' := by
  have HR := Lib.hid hr; clear hr
  have HB : Hid (playedB n m = true) := Lib.hid (playedB_iff.2 ⟨by omega, by omega, by omega⟩)
  have hfew := few_all n M m
  have hwl := way_small (M := M) h6 hm6
  obtain ⟨hw60, ht60⟩ := wantN_le n M m
  go_enter Try.func5, Try.ntmps5
  go_wp2_with fail
  refine (tu_good n w m cap _ A M h1 h6 hm6 (Nat.le_refl _) HR.out).mono ?_
  rintro e w1 ⟨v, rfl, AC, cC, rfl, hL⟩
  obtain ⟨f1, f2⟩ := hfew
  generalize wayLen n (tuE n M m).way = l at hwl f1 f2 ⊢
  have f2 : tookN n M m + l ≤ 2 * ((n - 1) * wantN n M m) := by omega
  have HF := Lib.hid (And.intro f1 f2)
  clear f1 f2
  generalize inT (tuE n M m) n = a
  generalize wantT (tuE n M m) n = b
  have HL : Hid (Lay w (w1.alloc (.cells #[.slice AC m cC, .int .u32 (a : Nat), .int .u32 (b : Nat), .int .i64 (l : Nat)] 26)) [blkT w1.heap.size [.slice AC m cC, .int .u32 (a : Nat), .int .u32 (b : Nat), .int .i64 (l : Nat)], lstE AC m cC (tuC n M)]) := Lib.hid (hL.newB [.slice AC m cC, .int .u32 (a : Nat), .int .u32 (b : Nat), .int .i64 (l : Nat)] 26 4 rfl _ rfl)
  clear hL
  go_wp2_with (go_at_call 10; refine (bool_is (played_any n m _) HB.out).mono ?_; rintro e w3 ⟨rfl, rfl⟩; clear HB)
  generalize w1.heap.size = q at HL ⊢
  go_loopw [7, 8, 36] (fun wv tv iv wr => ∃ i : Nat, i ≤ m ∧ iv = .int .i64 i ∧ wv = .int .i64 (wantN n M i : Nat) ∧ tv = .int .i64 (tookN n M i : Nat) ∧ Hid (Lay w wr [blkT q [.slice AC m cC, .int .u32 (a : Nat), .int .u32 (b : Nat), .int .i64 (l : Nat)], lstE AC m cC (tuC n M)])) (fun _ _ iv _ => m - (intOf iv).toNat)
  case atStart => exact ⟨0, by omega, rfl, rfl, rfl, HL⟩
  case round =>
    clear HL
    obtain ⟨i, hi, rfl, rfl, rfl, HQ⟩ := hrel
    have b0 := HQ.out.cellB 0 rfl 0 (by omega)
    have b3 := HQ.out.cellB 0 rfl 3 (by omega)
    simp only [ofL_0, ofL_3] at b0 b3
    have hq := (HQ.out.at_ 0 rfl).2
    by_cases hlt : i < m
    · obtain ⟨gc, rfl, -, hgl, hcc, -⟩ := (HQ.out.own 1 _ rfl).pos1 (show 0 < m by omega)
      have hc : wr.cell? ⟨gc, i, none⟩ = some (.int .i64 (tuC n M i)) := hcc i hlt
      have HW : Hid (wantN n M (i + 1) = wantN n M i + if tuC n M i = 0 ∧ M.k i = 1 then 1 else 0) := Lib.hid rfl
      have HT : Hid (tookN n M (i + 1) = tookN n M i + if tuC n M i = 0 ∧ M.k i = 2 then 1 else 0) := Lib.hid rfl
      obtain ⟨w60, t60⟩ := wantN_le n M i
      obtain ⟨ad, rfl, hbl, m0, m1, m2, m3⟩ := (HR.out.below HQ.out.bel).rec4 hlt
      have HN := Lib.hid (HQ.out.alloc (.cells #[.int .i64 (M.k i), .int .i64 (M.f i), .int .i64 (M.t i), .int .i64 (M.v i)] 35))
      clear hcc hbl HQ
      by_cases c0 : tuC n M i = 0
      · rw [c0] at hc
        by_cases k1 : M.k i = 1
        · rw [if_pos ⟨c0, k1⟩] at HW
          rw [if_neg (fun e => by rw [k1] at e; exact absurd e.2 (by decide)), Nat.add_zero] at HT
          rw [k1] at m0 HN
          clear c0 k1
          go_wp2
          go_roundw
          case rel => exact ⟨i + 1, by omega, by first | go_num | (rw [HW.out]; go_num) | (rw [HW.out]), by first | (rw [HW.out]; go_num) | (rw [HW.out]), by first | (rw [HT.out]; go_num) | (rw [HT.out]), HN⟩
          case measure => simp [intOf]; omega
        · by_cases k2 : M.k i = 2
          · rw [if_neg (fun e => k1 e.2), Nat.add_zero] at HW
            rw [if_pos ⟨c0, k2⟩] at HT
            rw [k2] at m0 HN
            clear c0 k1 k2
            go_wp2
            go_roundw
            case rel => exact ⟨i + 1, by omega, by first | go_num | (rw [HW.out]; go_num) | (rw [HW.out]), by first | (rw [HW.out]; go_num) | (rw [HW.out]), by first | (rw [HT.out]; go_num) | (rw [HT.out]), HN⟩
            case measure => simp [intOf]; omega
          · rw [if_neg (fun e => k1 e.2), Nat.add_zero] at HW
            rw [if_neg (fun e => k2 e.2), Nat.add_zero] at HT
            have e1 : (M.k i == 1) = false := by rw [beq_eq_false_iff_ne]; exact k1
            have e2 : (M.k i == 2) = false := by rw [beq_eq_false_iff_ne]; exact k2
            clear c0 k1 k2
            go_wp2
            go_roundw
            case rel => exact ⟨i + 1, by omega, by first | go_num | (rw [HW.out]; go_num) | (rw [HW.out]), by first | (rw [HW.out]; go_num) | (rw [HW.out]), by first | (rw [HT.out]; go_num) | (rw [HT.out]), HN⟩
            case measure => simp [intOf]; omega
      · rw [if_neg (fun e => c0 e.1), Nat.add_zero] at HW HT
        have e0 : (tuC n M i != 0) = true := by rw [bne_iff_ne]; exact c0
        clear c0
        go_wp2
        go_roundw
        case rel => exact ⟨i + 1, by omega, by first | go_num | (rw [HW.out]; go_num) | (rw [HW.out]), by first | (rw [HW.out]; go_num) | (rw [HW.out]), by first | (rw [HT.out]; go_num) | (rw [HT.out]), HN⟩
        case measure => simp [intOf]; omega
    · obtain rfl : i = m := by omega
      generalize wantN n M i = W at hw60 HF ⊢
      generalize tookN n M i = T at ht60 HF ⊢
      have hf := HF.out
      clear HF
      rcases (show n = 1 ∨ n = 2 ∨ n = 3 ∨ n = 4 ∨ n = 5 ∨ n = 6 by omega) with h | h | h | h | h | h
      all_goals
        subst h
        obtain ⟨f1, f2⟩ := hf
        simp only [Nat.reduceSub, Nat.zero_mul, Nat.mul_zero, Nat.one_mul] at f1 f2
        go_wp2
        go_ret
        exact ⟨ret_bool (by first | rfl | (simp; done) | (simp; omega)), HQ.out.bel⟩
theorem turnFew_bad (n : Int) (m cap : Nat) (A : Option Addr) (w : World) (hm : m ≤ maxLen) (hb : playedB n m = false) :
    Calls Try.prog 5 #[.int .i64 n, .slice A m cap] w fun e w' => e = .returned (.bool true) ∧ Below w.heap.size w w' := by
  have HB := Lib.hid hb; clear hb
  have HM := Lib.hid hm
  go_enter Try.func5, Try.ntmps5
  go_wp2_with fail
  refine (tu_bad n m cap A w HM.out HB.out).mono ?_
  rintro e w1 ⟨rfl, hb1⟩
  have HB1 := Lib.hid (hb1.alloc hb1.size (.cells #[.slice none 0 0, .int .u32 0, .int .u32 0, .int .i64 0] 26)); clear hb1
  unfold maxLen at hm
  go_wp2_with (go_at_call 10; refine (bool_is (played_any n m _) HB.out).mono ?_; rintro e w3 ⟨rfl, rfl⟩; clear HB)
  go_ret
  exact ⟨rfl, HB1.out⟩
theorem turnFew_all (n : Int) (A : Option Addr) (m cap : Nat) (M : Mv) (w : World) (_ : (Lit.int .i64 n).wf = true) (hmc : m ≤ cap ∧ cap ≤ maxLen) (hr : Rd w w.heap.size A (m * 4) (mvF M)) :
    Calls Try.prog 5 #[.int .i64 n, .slice A m cap] w fun e w' => e = .returned (.bool true) ∧ Below w.heap.size w w' := by
  cases hb : playedB n m
  · exact turnFew_bad n m cap A w (Nat.le_trans hmc.1 hmc.2) hb
  · obtain ⟨h1, h2, h3⟩ := playedB_iff.1 hb
    obtain ⟨n, rfl⟩ := Int.eq_ofNat_of_zero_le (show 0 ≤ n by omega)
    exact turnFew_good n m cap A M w hr (by omega) (by omega) (by omega)
end Go.Proofs.Ytihkbkbbllmliaa
