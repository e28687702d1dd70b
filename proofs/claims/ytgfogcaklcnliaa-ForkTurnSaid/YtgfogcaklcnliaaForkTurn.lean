/- The law ForkTurn, walked. -/
import Derived.Test.YtgfogcaklcnliaaFkLaw
set_option linter.unusedVariables false
set_option linter.unusedSimpArgs false
namespace Go.Proofs.Ytgfogcaklcnliaa
open Go.RowKit

theorem sinks_one {n : Nat} {l : Lk} (h : LOk n l) {i : Nat} (hb : (low n l).testBit i = true) : Sinks l (2 ^ i) := by
  intro x hx
  rw [Nat.testBit_two_pow, decide_eq_false_iff_not]
  intro e
  exact ((low_bit h.h6 (fun x hx => (h.rg x hx).1) i).1 hb).2 x hx e.symm
theorem turn_one {n : Nat} {l : Lk} (h : LOk n l) {i : Nat} (hb : (low n l).testBit i = true) :
    isRound n (turnL l (2 ^ i)) = isRound n l ∧ (low n (turnL l (2 ^ i))).testBit i = !anyTo (fun j => f2 l j == i) l.length ∧ ∀ k, (low n l).testBit k = true → (low n (turnL l (2 ^ i))).testBit k = true ∨ k = i := by
  have hs := sinks_one h hb
  have h' := turn_ok h (2 ^ i)
  have hlow := low_bit h.h6 (fun x hx => (h.rg x hx).1)
  have hlow' := low_bit h'.h6 (fun x hx => (h'.rg x hx).1)
  have hin := ((hlow i).1 hb)
  refine ⟨?_, ?_, fun k hk => ?_⟩
  · rw [Bool.eq_iff_iff, round_iff h', round_iff h, turn_cyc h hs]
  · rw [Bool.eq_iff_iff, hlow', Bool.not_eq_true', anyTo_no]
    constructor
    · rintro ⟨_, h2⟩ j hj
      rw [beq_eq_false_iff_ne]
      intro e
      refine h2 (f2 l j, f1 l j) (turn_mem.2 (.inr ⟨f_mem hj, ?_⟩)) e
      simp [e]
    · intro h2
      refine ⟨hin.1, fun x hx e => ?_⟩
      rcases turn_mem.1 hx with ⟨h3, _⟩ | ⟨h3, _⟩
      · exact hin.2 x h3 e
      · obtain ⟨j, hj, _, e2⟩ := mem_f h3
        have := h2 j hj
        rw [beq_eq_false_iff_ne] at this
        exact this (e2.trans e)
  · by_cases e : k = i
    · exact .inr e
    · refine .inl ((hlow' k).2 ⟨((hlow k).1 hk).1, fun x hx ex => ?_⟩)
      rcases turn_mem.1 hx with ⟨h3, _⟩ | ⟨_, h3⟩
      · exact ((hlow k).1 hk).2 x h3 ex
      · rw [Nat.testBit_two_pow, decide_eq_true_iff] at h3
        exact e (ex.symm.trans h3.symm)
theorem three_off {S T i : Nat} (hS : S < 4294967296) (hT : T < 4294967296) (hi : i < 32) (h : ∀ k, S.testBit k = true → T.testBit k = true ∨ k = i) :
    (bits .andNot .u32 (bits .andNot .u32 (S : Int) (T : Int)) (2 ^ i % 4294967296) == 0) = true := by
  rw [pow_mod hi, u32_andNot_nat S T hS hT, andNot_zero (Nat.lt_of_le_of_lt Nat.and_le_left hS) (pow_lt32 hi)]
  intro k hk
  have e : 4294967295 - T = 2 ^ 32 - (T + 1) := by omega
  rw [Nat.testBit_and, e, Nat.testBit_two_pow_sub_succ hT] at hk
  simp only [Bool.and_eq_true, decide_eq_true_iff, Bool.not_eq_true'] at hk
  rcases h k hk.1 with h1 | rfl
  · rw [hk.2.2] at h1; cases h1
  · simp

set_option maxHeartbeats 400000 in
theorem badTurn {n i : Int} {A : Option Addr} {m cap : Nat} {w : World} (h : Bad n A m cap w) :
    Calls Try.prog 14 #[.int .i64 n, .slice A m cap, .int .i64 i] w (Gives fun v w' => ∃ c : Int, v = .tuple #[.slice none 0 0, .int .i64 c] ∧ (c != 0) = true ∧ Below w.heap.size w w') := by
  have H := Lib.hid h; clear h
  go_enter Try.func14, Try.ntmps14
  go_wp2_with fail
  refine (badLow H.out).mono ?_
  rintro e w1 ⟨v, rfl, c, rfl, hc, hb⟩
  have HB := Lib.hid hb; clear hb
  have HC := Lib.hid hc
  go_wp2
  go_ret2
  exact ⟨_, rfl, c, rfl, HC.out, HB.out⟩
set_option maxHeartbeats 400000 in
theorem badTurn2 {n : Nat} {l : Lk} {i : Int} {A : Option Addr} {m cap : Nat} {w : World} (h : Good n l A m cap w) (hi : ¬ (0 ≤ i ∧ i < n ∧ (low n l).testBit i.toNat = true)) :
    Calls Try.prog 14 #[.int .i64 (n : Nat), .slice A m cap, .int .i64 i] w (Gives fun v w' => ∃ c : Int, v = .tuple #[.slice none 0 0, .int .i64 c] ∧ (c != 0) = true ∧ Below w.heap.size w w') := by
  have H := Lib.hid h; clear h
  have h6 := H.out.ok.h6
  have HS := Lib.hid (six_small h6 (low_lt n l))
  go_enter Try.func14, Try.ntmps14
  go_wp2_with fail
  refine (goodLow H.out).mono ?_
  rintro e w1 ⟨v, rfl, rfl, hb⟩
  have HB := Lib.hid hb; clear hb
  generalize low n l = S at hi HS ⊢
  by_cases hr : 0 ≤ i ∧ i < n
  · obtain ⟨h0, h1⟩ := hr
    obtain ⟨k, rfl⟩ := Int.eq_ofNat_of_zero_le h0
    have hb : S.testBit k = false := by
      cases hb : S.testBit k
      · rfl
      · exact absurd ⟨h0, h1, hb⟩ hi
    have hbn := bit_num (P := S) (i := k) (by have := HS.out; omega)
    rw [hb] at hbn
    simp only [Bool.false_eq_true, if_false] at hbn
    clear hi hb
    go_wp2
    go_ret2
    exact ⟨_, rfl, _, rfl, by decide, HB.out⟩
  · clear hi
    go_wp2
    all_goals first
      | (exfalso; omega)
      | (go_ret2; exact ⟨_, rfl, _, rfl, by decide, HB.out⟩)
set_option maxHeartbeats 400000 in
theorem goodTurn {n : Nat} {l : Lk} {i : Nat} {A : Option Addr} {m cap : Nat} {w : World} (h : Good n l A m cap w) (hi : i < n) (hb : (low n l).testBit i = true) :
    Calls Try.prog 14 #[.int .i64 (n : Nat), .slice A m cap, .int .i64 (i : Nat)] w (Gives fun v w' => ∃ A' cap', v = .tuple #[.slice A' m cap', .int .i64 0] ∧ Lay w w' [lkA A' cap' (turnL l (2 ^ i))]) := by
  have H := Lib.hid h; clear h
  have h6 := H.out.ok.h6
  have HS := Lib.hid (six_small h6 (low_lt n l))
  have hpm := pow_mod (show i < 32 by omega)
  have HP := Lib.hid (pow_lt32 (show i < 32 by omega))
  have HG : Hid (∀ W, Below w.heap.size w W → Calls Try.prog 22 #[.slice A m cap, .int .u32 (2 ^ i : Nat)] W (Gives fun v w' => ∃ A' cap', v = .slice A' m cap' ∧ Lay W w' [lkA A' cap' (turnL l (2 ^ i))])) := Lib.hid fun W hb => by
    have HG := H.out.below hb
    exact turn_any l (2 ^ i) A m cap _ W HG.hm HG.m15 HG.hn HG.f32 HP.out (Nat.le_refl _) HG.rd
  go_enter Try.func14, Try.ntmps14
  go_wp2_with fail
  refine (goodLow H.out).mono ?_
  rintro e w1 ⟨v, rfl, rfl, hb1⟩
  have HB := Lib.hid hb1; clear hb1
  generalize low n l = S at hb HS ⊢
  have hbn := bit_num (P := S) (i := i) (by have := HS.out; omega)
  rw [hb] at hbn
  simp only [if_true] at hbn
  clear hb
  generalize hpp : 2 ^ i = p at HG hpm
  have HPP := Lib.hid hpp
  clear hpp HP
  go_wp2_with fail
  refine (HG.out w1 HB.out).mono ?_
  rintro e w2 ⟨v, rfl, A1, c1, rfl, hL⟩
  have HL := Lib.hid (((Lay.nil w).keep HB.out).join hL); clear hL
  go_wp2
  go_ret2
  exact ⟨_, rfl, A1, c1, rfl, by rw [HPP.out]; exact HL.out⟩

theorem forkTurn_bad (n i : Int) (A : Option Addr) (m cap : Nat) (w : World) (h : Bad n A m cap w) :
    Calls Try.prog 6 #[.int .i64 n, .slice A m cap, .int .i64 i] w fun e w' => e = .returned (.bool true) ∧ Below w.heap.size w w' := by
  have H := Lib.hid h; clear h
  go_enter Try.func6, Try.ntmps6
  go_wp2_with fail
  refine (badTurn H.out).mono ?_
  rintro e w1 ⟨v, rfl, c, rfl, hc, hb⟩
  have HB := Lib.hid hb; clear hb
  go_wp2_with fail
  refine (badForked (H.out.below HB.out)).mono ?_
  rintro e w3 ⟨v, rfl, rfl, hb⟩
  have HB3 := Lib.hid (HB.out.trans (hb.mono HB.out.size)); clear hb
  go_wp2
  go_ret
  exact ⟨rfl, HB3.out⟩
theorem one_cells (i : Int) : ∀ j, j < 1 → (#[Value.int .i64 i])[j]? = some (.int .i64 ((fun _ => i) j)) := fun j hj => by
  obtain rfl : j = 0 := by omega
  rfl
theorem inside_one (b : Bool) (n i : Int) (w : World) (hb : decide (0 ≤ i ∧ i < n) = b) :
    Calls Try.prog 15 #[.int .i64 n, .slice (some ⟨w.heap.size, 0, none⟩) 1 1] (w.alloc (.cells #[.int .i64 i] 3)) fun e w' => e = .returned (.bool b) ∧ w.alloc (.cells #[.int .i64 i] 3) = w' := by
  have := inside_any n (some ⟨w.heap.size, 0, none⟩) 1 1 _ (fun _ => i) (w.alloc (.cells #[.int .i64 i] 3)) (by unfold maxLen; omega) (cell_new _ _ _ _ _ rfl (one_cells i))
  have e : insideB n (fun _ => i) 1 = b := by
    rw [← hb, Bool.eq_iff_iff, insideB_iff, decide_eq_true_iff]
    exact ⟨fun h => h 0 (by omega), fun h _ _ => h⟩
  rw [e] at this
  exact this
set_option maxHeartbeats 1000000 in
theorem forkTurn_out (n : Nat) (l : Lk) (i : Int) (A : Option Addr) (m cap : Nat) (w : World) (h : Good n l A m cap w) (hi : ¬ (0 ≤ i ∧ i < n)) :
    Calls Try.prog 6 #[.int .i64 (n : Nat), .slice A m cap, .int .i64 i] w fun e w' => e = .returned (.bool true) ∧ Below w.heap.size w w' := by
  have H := Lib.hid h; clear h
  have HI := Lib.hid hi; clear hi
  go_enter Try.func6, Try.ntmps6
  go_wp2_with fail
  refine (badTurn2 H.out fun h => HI.out ⟨h.1, h.2.1⟩).mono ?_
  rintro e w1 ⟨v, rfl, c, rfl, hc, hb⟩
  have HB := Lib.hid hb; clear hb
  go_wp2_with fail
  refine (goodForked (H.out.below HB.out)).mono ?_
  rintro e w3 ⟨v, rfl, rfl, hb⟩
  have HB3 := Lib.hid (HB.out.trans (hb.mono HB.out.size)); clear hb
  go_wp2_with fail
  refine (inside_one false n i _ (by rw [decide_eq_false_iff_not]; exact HI.out)).mono ?_
  rintro e w4 ⟨rfl, rfl⟩
  go_wp2
  go_ret
  exact ⟨rfl, HB3.out.alloc HB3.out.size _⟩
set_option maxHeartbeats 1000000 in
theorem forkTurn_none (n : Nat) (l : Lk) (i : Nat) (A : Option Addr) (m cap : Nat) (w : World) (h : Good n l A m cap w) (hi : i < n) (hb : (low n l).testBit i = false) :
    Calls Try.prog 6 #[.int .i64 (n : Nat), .slice A m cap, .int .i64 (i : Nat)] w fun e w' => e = .returned (.bool true) ∧ Below w.heap.size w w' := by
  have H := Lib.hid h; clear h
  have HI := Lib.hid hb; clear hb
  have HS := Lib.hid (six_small H.out.ok.h6 (low_lt n l))
  go_enter Try.func6, Try.ntmps6
  go_wp2_with fail
  refine (badTurn2 H.out fun h => by have := h.2.2; rw [Int.toNat_natCast, HI.out] at this; cases this).mono ?_
  rintro e w1 ⟨v, rfl, c, rfl, hc, hb⟩
  have HB := Lib.hid hb; clear hb
  have hc0 : (c == 0) = false := by simpa using hc
  go_wp2_with fail
  refine (goodForked (H.out.below HB.out)).mono ?_
  rintro e w3 ⟨v, rfl, rfl, hb⟩
  have HB3 := Lib.hid (HB.out.trans (hb.mono HB.out.size)); clear hb
  go_wp2_with fail
  refine (inside_one true n i _ (by rw [decide_eq_true_iff]; omega)).mono ?_
  rintro e w4 ⟨rfl, rfl⟩
  have HB4 := Lib.hid (HB3.out.alloc HB3.out.size (.cells #[.int .i64 (i : Nat)] 3))
  go_wp2_with fail
  refine (goodLow (H.out.below HB4.out)).mono ?_
  rintro e w5 ⟨v, rfl, rfl, hb⟩
  have HB5 := Lib.hid (HB4.out.trans (hb.mono HB4.out.size)); clear hb
  go_wp2_with fail
  refine (bit_is false _ (i : Nat) _ (by have := HS.out; omega) (by rw [bitB_nat]; exact HI.out)).mono ?_
  rintro e w' ⟨rfl, rfl⟩
  go_wp2
  go_ret
  exact ⟨rfl, HB5.out⟩
set_option maxRecDepth 100000 in
set_option maxHeartbeats 2000000 in
theorem forkTurn_good (n : Nat) (l : Lk) (i : Nat) (A : Option Addr) (m cap : Nat) (w : World) (h : Good n l A m cap w) (hi : i < n) (hb : (low n l).testBit i = true) :
    Calls Try.prog 6 #[.int .i64 (n : Nat), .slice A m cap, .int .i64 (i : Nat)] w fun e w' => e = .returned (.bool true) ∧ Below w.heap.size w w' := by
  have H := Lib.hid h; clear h
  have HI := Lib.hid hb; clear hb
  have h6 := H.out.ok.h6
  have h15 := H.out.m15
  have HS := Lib.hid (six_small h6 (low_lt n l))
  have HT := Lib.hid (six_small h6 (low_lt n (turnL l (2 ^ i))))
  have HLAW := Lib.hid (turn_one H.out.ok HI.out)
  rw [← H.out.hm] at HLAW
  have HOK := Lib.hid (turn_ok H.out.ok (2 ^ i))
  go_enter Try.func6, Try.ntmps6
  go_wp2_with fail
  refine (goodTurn H.out hi HI.out).mono ?_
  rintro e w1 ⟨v, rfl, A1, c1, rfl, hL⟩
  have HB := Lib.hid hL.bel
  have HG1 := Lib.hid (good_of_lay 0 hL rfl HOK.out m (by rw [turn_len]; exact H.out.hm))
  clear hL
  go_wp2_with fail
  refine (goodForked (H.out.below HB.out)).mono ?_
  rintro e w3 ⟨v, rfl, rfl, hb⟩
  have HB3 := Lib.hid (HB.out.trans (hb.mono HB.out.size))
  have HG3 := Lib.hid (HG1.out.below hb); clear hb HG1
  go_wp2_with fail
  refine (inside_one true n i _ (by rw [decide_eq_true_iff]; omega)).mono ?_
  rintro e w4 ⟨rfl, rfl⟩
  have HB4 := Lib.hid (HB3.out.alloc HB3.out.size (.cells #[.int .i64 (i : Nat)] 3))
  have HG4 := Lib.hid (HG3.out.below ((Below.refl _ _).alloc (Nat.le_refl _) (.cells #[.int .i64 (i : Nat)] 3)))
  clear HG3 HB3 HB
  go_wp2_with fail
  refine (goodLow (H.out.below HB4.out)).mono ?_
  rintro e w5 ⟨v, rfl, rfl, hb⟩
  have HB5 := Lib.hid (HB4.out.trans (hb.mono HB4.out.size))
  have HG5 := Lib.hid (HG4.out.below hb); clear hb HG4
  go_wp2_with fail
  refine (bit_is true _ (i : Nat) _ (by have := HS.out; omega) (by rw [bitB_nat]; exact HI.out)).mono ?_
  rintro e w' ⟨rfl, rfl⟩
  go_wp2_with fail
  refine (goodRound (H.out.below HB5.out)).mono ?_
  rintro e w6 ⟨v, rfl, rfl, hb⟩
  have HB6 := Lib.hid (HB5.out.trans (hb.mono HB5.out.size))
  have HG6 := Lib.hid (HG5.out.below hb); clear hb HG5
  go_wp2_with fail
  refine (goodRound HG6.out).mono ?_
  rintro e w7 ⟨v, rfl, rfl, hb⟩
  have HB7 := Lib.hid (HB6.out.trans (hb.mono HB6.out.size))
  have HG7 := Lib.hid (HG6.out.below hb); clear hb HG6
  go_wp2_with fail
  refine (goodLow HG7.out).mono ?_
  rintro e w8 ⟨v, rfl, rfl, hb⟩
  have HB8 := Lib.hid (HB7.out.trans (hb.mono HB7.out.size))
  clear hb HG7 HB7 HB6 HB5 HB4
  have H3 := Lib.hid (three_off (by have := HS.out; omega : low n l < 4294967296) (by have := HT.out; omega) (by omega) HLAW.out.2.2)
  rw [HLAW.out.1]
  have HTB : Hid ((low n (turnL l (2 ^ i))).testBit i = !anyTo (fun j => f2 l j == i) m) := Lib.hid HLAW.out.2.1
  clear HLAW HOK
  generalize low n (turnL l (2 ^ i)) = T at HT HTB H3 ⊢
  generalize low n l = S at HS H3 HI ⊢
  cases hrr : isRound n l
  all_goals
    clear hrr
    go_wp2
    go_loopw [16, 102] (fun o y wr => ∃ (k : Nat) (b : Bool), k ≤ m ∧ o = .bool b ∧ y = .int .i64 k ∧ Hid (Below w.heap.size w wr) ∧ Hid (anyTo (fun j => f2 l j == i) k = b)) (fun _ y _ => m - (intOf y).toNat)
    case atStart => exact ⟨0, false, by omega, rfl, rfl, HB8, rfl⟩
    case round =>
      clear HB8
      obtain ⟨k, b, hk, rfl, rfl, HBr, HO⟩ := hrel
      have hzz := HBr.out.size
      by_cases hlt : k < m
      · obtain ⟨ad, rfl, hbl, c0, c1⟩ := (H.out.rd.below HBr.out).rec2 hlt
        have HB1 : Hid (∀ o, Below w.heap.size w (wr.alloc o)) := fun o => HBr.out.alloc hzz o
        have hbl2 : (ad.add (k * 2)).block < wr.heap.size := by rw [addr_block]; omega
        have HN : Hid (anyTo (fun j => f2 l j == i) (k + 1) = (b || f2 l k == i)) := Lib.hid (by rw [anyTo, HO.out])
        obtain ⟨q, hq⟩ : ∃ q, f2 l k = q := ⟨_, rfl⟩
        rw [hq] at c1 HN
        clear hq
        obtain ⟨d, hd⟩ : ∃ d, ((q : Int) == (i : Int)) = d := ⟨_, rfl⟩
        have HD : Hid ((q == i) = d) := Lib.hid (by rw [← hd]; exact Bool.eq_iff_iff.2 (by simp only [beq_iff_eq]; exact Int.ofNat_inj.symm))
        cases b <;> cases d
        all_goals
          go_wp2
          go_roundw
          case rel => exact ⟨k + 1, _, by omega, rfl, by go_num, HB1.out _, by rw [HN.out, HD.out]; rfl⟩
          case measure => simp [intOf]; omega
      · obtain rfl : k = m := by omega
        have HTT : Hid (bitB T i = !b) := Lib.hid (by rw [bitB_nat, HTB.out, HO.out])
        have h3 := H3.out
        cases b
        all_goals
          go_wp2_with fail
          refine (bit_is _ T (i : Nat) _ (by have := HT.out; omega) HTT.out).mono ?_
          rintro e w' ⟨rfl, rfl⟩
          go_wp2
          go_ret
          exact ⟨rfl, HBr.out⟩
theorem forkTurn_all (n : Int) (A : Option Addr) (m cap : Nat) (p q : Nat → Int) (i : Int) (w : World) (wn : (Lit.int .i64 n).wf = true) (hc : m ≤ cap ∧ cap ≤ maxLen) (hr : Rd w w.heap.size A (m * 2) (recF2 p q)) (wi : (Lit.int .i64 i).wf = true) :
    Calls Try.prog 6 #[.int .i64 n, .slice A m cap, .int .i64 i] w fun e w' => e = .returned (.bool true) ∧ Below w.heap.size w w' := by
  rcases good_or_bad n A m cap p q w hc hr with ⟨n', l, rfl, h⟩ | h
  · by_cases hi : 0 ≤ i ∧ i < n'
    · obtain ⟨h0, h1⟩ := hi
      obtain ⟨k, rfl⟩ := Int.eq_ofNat_of_zero_le h0
      cases hb : (low n' l).testBit k
      · exact forkTurn_none n' l k A m cap w h (by omega) hb
      · exact forkTurn_good n' l k A m cap w h (by omega) hb
    · exact forkTurn_out n' l i A m cap w h hi
  · exact forkTurn_bad n i A m cap w h
end Go.Proofs.Ytgfogcaklcnliaa
