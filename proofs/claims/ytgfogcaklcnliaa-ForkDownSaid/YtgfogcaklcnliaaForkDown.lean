/- The law ForkDown, walked. -/
import Derived.Test.YtgfogcaklcnliaaForkFair
import Derived.Test.YtgfogcaklcnliaaTwos
set_option linter.unusedVariables false
set_option linter.unusedSimpArgs false
namespace Go.Proofs.Ytgfogcaklcnliaa
open Go.RowKit

def GB (n : Int) (A : Option Addr) (m cap : Nat) (w : World) : Prop := (∃ (n' : Nat) (l : Lk), n = n' ∧ Good n' l A m cap w) ∨ Bad n A m cap w
theorem GB.below {n : Int} {A : Option Addr} {m cap : Nat} {w w' : World} (h : GB n A m cap w) (hb : Below w.heap.size w w') : GB n A m cap w' := by
  rcases h with ⟨n', l, e, h⟩ | h
  · exact .inl ⟨n', l, e, h.below hb⟩
  · exact .inr (h.below hb)
theorem gb_nil (n : Int) (w : World) : GB n none 0 0 w := good_or_bad n none 0 0 (fun _ => 0) (fun _ => 0) w ⟨Nat.le_refl _, by unfold maxLen; omega⟩ (Rd.zero _ _ _ _)
theorem runAny_good {n : Nat} {l : Lk} {many : Int} {A : Option Addr} {m cap : Nat} {w : World} (h : Good n l A m cap w) :
    Calls Try.prog 11 #[.int .i64 (n : Nat), .slice A m cap, .int .i64 many] w
      (Gives fun v w' => ∃ A' m' c' Y, ∃ c : Int, v = .tuple #[.slice A' m' c', Y, .int .i64 c] ∧ Below w.heap.size w w' ∧ GB n A' m' c' w' ∧ (c = 0 → 0 ≤ many ∧ many ≤ 60 ∧ isRound n l = false)) := by
  by_cases hb : ¬ (0 ≤ many ∧ many ≤ 60) ∨ isRound n l = true
  · refine (badRun2 h hb).mono ?_
    rintro e w' ⟨v, rfl, c, rfl, hc, hbl⟩
    exact ⟨_, rfl, _, _, _, _, c, rfl, hbl, gb_nil _ _, fun e => by subst e; simp at hc⟩
  · have h0 : 0 ≤ many ∧ many ≤ 60 := Classical.byContradiction fun h => hb (.inl h)
    have hr : isRound n l = false := by
      cases hr : isRound n l
      · rfl
      · exact absurd (.inr hr) hb
    obtain ⟨k, rfl⟩ := Int.eq_ofNat_of_zero_le h0.1
    refine (goodRun h (by omega : k ≤ 60) hr).mono ?_
    rintro e w' ⟨v, rfl, A1, c1, g, rfl, hL⟩
    exact ⟨_, rfl, _, _, _, _, 0, rfl, hL.bel, .inl ⟨n, _, rfl, good_of_lay 0 hL rfl (runL_ok h.ok k) m (by rw [runL_len]; exact h.hm)⟩, fun _ => ⟨h0.1, h0.2, hr⟩⟩
theorem runAny {n many : Int} {A : Option Addr} {m cap : Nat} {w : World} (h : GB n A m cap w) :
    Calls Try.prog 11 #[.int .i64 n, .slice A m cap, .int .i64 many] w
      (Gives fun v w' => ∃ A' m' c' Y, ∃ c : Int, v = .tuple #[.slice A' m' c', Y, .int .i64 c] ∧ Below w.heap.size w w' ∧ (c = 0 → 0 ≤ many ∧ many ≤ 60)) := by
  rcases h with ⟨n', l, rfl, h⟩ | h
  · refine (runAny_good h).mono ?_
    rintro e w' ⟨v, rfl, A', m', c', Y, c, rfl, hb, _, hc⟩
    exact ⟨_, rfl, _, _, _, _, c, rfl, hb, fun e => ⟨(hc e).1, (hc e).2.1⟩⟩
  · refine (badRun h).mono ?_
    rintro e w' ⟨v, rfl, c, rfl, hc, hb⟩
    exact ⟨_, rfl, _, _, _, _, c, rfl, hb, fun e => by subst e; simp at hc⟩
theorem forkDown_bad (n a b : Int) (A : Option Addr) (m cap : Nat) (w : World) (h : Bad n A m cap w) :
    Calls Try.prog 5 #[.int .i64 n, .slice A m cap, .int .i64 a, .int .i64 b] w fun e w' => e = .returned (.bool true) ∧ Below w.heap.size w w' := by
  have H := Lib.hid h; clear h
  go_enter Try.func5, Try.ntmps5
  go_wp2_with fail
  refine (badRun H.out).mono ?_
  rintro e w1 ⟨v, rfl, c, rfl, hc, hb⟩
  have HB := Lib.hid hb; clear hb
  go_wp2_with fail
  refine (runAny (gb_nil n w1)).mono ?_
  rintro e w2 ⟨v, rfl, A', m', c', Y, d, rfl, hb, -⟩
  have HB2 := Lib.hid (HB.out.trans (hb.mono HB.out.size)); clear hb
  go_wp2_with fail
  refine (badForked (H.out.below HB2.out)).mono ?_
  rintro e w3 ⟨v, rfl, rfl, hb⟩
  have HB3 := Lib.hid (HB2.out.trans (hb.mono HB2.out.size)); clear hb
  go_wp2
  go_ret
  exact ⟨rfl, HB3.out⟩
set_option maxHeartbeats 2000000 in
theorem forkDown_out (n : Nat) (l : Lk) (a b : Int) (A : Option Addr) (m cap : Nat) (w : World) (h : Good n l A m cap w) (wa : (Lit.int .i64 a).wf = true) (wb : (Lit.int .i64 b).wf = true)
    (hf : a < 0 ∨ b < 0 ∨ 60 < a ∨ 60 < b ∨ 60 < a + b ∨ isRound n l = true) :
    Calls Try.prog 5 #[.int .i64 (n : Nat), .slice A m cap, .int .i64 a, .int .i64 b] w fun e w' => e = .returned (.bool true) ∧ Below w.heap.size w w' := by
  have H := Lib.hid h; clear h
  have HF := Lib.hid hf; clear hf wa wb
  go_enter Try.func5, Try.ntmps5
  go_wp2_with fail
  refine (runAny_good H.out).mono ?_
  rintro e w1 ⟨v, rfl, A1, m1, c1, Y1, c, rfl, hb, hgb, hc⟩
  have HB := Lib.hid hb; clear hb
  have HC := Lib.hid hc; clear hc
  have HGB := Lib.hid hgb; clear hgb
  go_wp2_with fail
  refine (runAny HGB.out).mono ?_
  rintro e w2 ⟨v, rfl, A', m', c', Y, d, rfl, hb, hd⟩
  have HB2 := Lib.hid (HB.out.trans (hb.mono HB.out.size)); clear hb
  have HD := Lib.hid hd; clear hd
  go_wp2_with fail
  refine (goodForked (H.out.below HB2.out)).mono ?_
  rintro e w3 ⟨v, rfl, rfl, hb⟩
  have HB3 := Lib.hid (HB2.out.trans (hb.mono HB2.out.size)); clear hb HGB
  by_cases hc0 : c = 0
  · obtain ⟨a0, a1, hr⟩ := HC.out hc0
    subst hc0
    by_cases hd0 : d = 0
    · obtain ⟨b0, b1⟩ := HD.out hd0
      subst hd0
      have h60 : 60 < a + b := by
        rcases HF.out with h | h | h | h | h | h
        all_goals first
          | omega
          | (rw [hr] at h; cases h)
      clear hr
      all_goals first
        | (exfalso; omega)
        | (go_wp2; go_ret; exact ⟨rfl, HB3.out⟩)
    · have hd1 : (d != 0) = true := by simpa using hd0
      clear hd0
      rcases HF.out with h | h | h | h | h | h
      case inr.inr.inr.inr.inr => rw [hr] at h; cases h
      all_goals clear hr
      all_goals rcases (by omega : a < 0 ∨ b < 0 ∨ 0 ≤ b ∧ 60 < a ∨ 0 ≤ b ∧ a ≤ 60 ∧ 60 < b ∨ 0 ≤ b ∧ b ≤ 60 ∧ 60 < a + b) with h | h | ⟨h, h2⟩ | ⟨h, h2, h3⟩ | ⟨h, h2, h3⟩
      all_goals first
        | (exfalso; omega)
        | (go_wp2; go_ret; exact ⟨rfl, HB3.out⟩)
  · have hc1 : (c != 0) = true := by simpa using hc0
    clear hc0
    by_cases hall : 0 ≤ a ∧ a ≤ 60 ∧ 0 ≤ b ∧ b ≤ 60 ∧ a + b ≤ 60
    · obtain ⟨a0, a1, b0, b1, ab⟩ := hall
      have HR : Hid (isRound n l = true) := Lib.hid (by
        rcases HF.out with h | h | h | h | h | h
        all_goals first | exact h | omega)
      go_wp2_with fail
      refine (H.out.below HB3.out).rround.mono ?_
      rintro e w4 ⟨v, rfl, rfl, hb⟩
      have HB4 := Lib.hid (HB3.out.trans (hb.mono HB3.out.size)); clear hb
      rw [HR.out]
      go_wp2
      go_ret
      exact ⟨rfl, HB4.out⟩
    · rcases (by omega : a < 0 ∨ 0 ≤ a ∧ b < 0 ∨ 0 ≤ a ∧ 0 ≤ b ∧ 60 < a ∨ 0 ≤ a ∧ 0 ≤ b ∧ a ≤ 60 ∧ 60 < b ∨ 0 ≤ a ∧ 0 ≤ b ∧ a ≤ 60 ∧ b ≤ 60 ∧ 60 < a + b) with h | ⟨h, h2⟩ | ⟨h, h2, h3⟩ | ⟨h, h2, h3, h4⟩ | ⟨h, h2, h3, h4, h5⟩
      all_goals clear hall
      all_goals first
        | (exfalso; omega)
        | (go_wp2; go_ret; exact ⟨rfl, HB3.out⟩)
set_option maxRecDepth 100000 in
set_option maxHeartbeats 2000000 in
theorem forkDown_good (n : Nat) (l : Lk) (a b : Nat) (A : Option Addr) (m cap : Nat) (w : World) (h : Good n l A m cap w) (hab : a + b ≤ 60) (hrd : isRound n l = false) :
    Calls Try.prog 5 #[.int .i64 (n : Nat), .slice A m cap, .int .i64 (a : Nat), .int .i64 (b : Nat)] w fun e w' => e = .returned (.bool true) ∧ Below w.heap.size w w' := by
  have H := Lib.hid h; clear h
  have HRD := Lib.hid hrd; clear hrd
  have h1 := H.out.ok.h1
  have h6 := H.out.ok.h6
  have h15 := H.out.m15
  have HOK1 := Lib.hid (runL_ok H.out.ok a)
  have HRD1 : Hid (isRound n (runL n l a) = false) := Lib.hid (by
    rw [← HRD.out, Bool.eq_iff_iff, round_iff HOK1.out, round_iff H.out.ok, runL_cyc H.out.ok])
  have HLEN1 : Hid (m = (runL n l a).length) := Lib.hid (by rw [runL_len]; exact H.out.hm)
  have HLEN2 : Hid (m = (runL n (runL n l a) b).length) := Lib.hid (by rw [runL_len]; exact HLEN1.out)
  obtain ⟨e1, e2⟩ := runL_add n l a b
  have HE1 := Lib.hid e1
  have HE2 := Lib.hid e2
  have HLE := Lib.hid (oft_le n l)
  have HLE2 := Lib.hid (oft_le n (runL n l a) b)
  clear e1 e2
  obtain ⟨c, hc⟩ : ∃ c, a + b = c := ⟨_, rfl⟩
  rw [hc] at HE1 HE2 hab
  have hcc : (a : Int) + (b : Int) = (c : Int) := by omega
  go_enter Try.func5, Try.ntmps5
  go_wp2_with fail
  refine (goodRun H.out (by omega : a ≤ 60) HRD.out).mono ?_
  rintro e w1 ⟨v, rfl, A1, c1, g1, rfl, hL⟩
  have HL1 := Lib.hid hL
  have HG1 := Lib.hid (good_of_lay 0 hL rfl HOK1.out m HLEN1.out); clear hL
  go_wp2_with fail
  refine (goodRun HG1.out (by omega : b ≤ 60) HRD1.out).mono ?_
  rintro e w2 ⟨v, rfl, A2, c2, g2, rfl, hL⟩
  have HL2 := Lib.hid (HL1.out.join hL); clear hL HG1 HL1
  go_wp2_with fail
  refine (goodForked (H.out.below HL2.out.bel)).mono ?_
  rintro e w3 ⟨v, rfl, rfl, hb⟩
  have HL3 := Lib.hid (HL2.out.keep hb); clear hb HL2
  go_wp2_with fail
  refine (H.out.below HL3.out.bel).rround.mono ?_
  rintro e w4 ⟨v, rfl, rfl, hb⟩
  have HL4 := Lib.hid (HL3.out.keep hb); clear hb HL3
  rw [HRD.out]
  go_wp2_with fail
  refine (goodRun (H.out.below HL4.out.bel) hab HRD.out).mono ?_
  rintro e w5 ⟨v, rfl, A3, c3, g3, rfl, hL⟩
  have HL5 : Hid (Lay w w5 [lkA A3 c3 (runL n (runL n l a) b), arr g3 3 n (oftF n l c), lkA A2 c2 (runL n (runL n l a) b), arr g2 3 n (oftF n (runL n l a) b), lkA A1 c1 (runL n l a), arr g1 3 n (oftF n l a)]) := Lib.hid (by
    have := HL4.out.join hL
    rw [HE1.out] at this
    exact this)
  clear hL HL4
  unfold oftF at HL5
  go_wp2
  go_loopw [18] (fun i wr => ∃ j : Nat, j ≤ n ∧ i = .int .i64 j ∧ Hid (Below w5.heap.size w5 wr)) (fun i _ => n - (intOf i).toNat)
  case atStart => exact ⟨0, by omega, rfl, Below.refl _ _⟩
  case round =>
    obtain ⟨j, hj, rfl, HBr⟩ := hrel
    have HL6 := Lib.hid (HL5.out.keep HBr.out)
    by_cases hlt : j < n
    · have k1 := HL6.out.cell1 5 rfl hlt
      have k2 := HL6.out.cell1 3 rfl hlt
      have k3 := HL6.out.cell1 1 rfl hlt
      have s1 := HLE.out a j
      have s2 := HLE2.out j
      have s3 := HE2.out j
      generalize oft n l a j = x at k1 s1 s3
      generalize oft n (runL n l a) b j = y at k2 s2 s3
      generalize oft n l c j = z at k3 s3
      have s4 : (x : Int) + (y : Int) = (z : Int) := by omega
      have s5 : z ≤ 60 := by omega
      clear s3
      clear HL6
      go_wp2
      refine wp_text_all (by kernel_rfl) (by kernel_rfl) (by kernel_rfl) (by repeat' (first | (with_reducible apply tame_then) | (with_reducible apply tame_block) | (with_reducible apply tame_scope) | exact tame_gives | exact tame_body (fun _ _ h => ⟨_, h.1⟩))) ?_
      go_wp2
      refine headed ?_
      go_wp2
      go_roundw
      case rel => exact ⟨j + 1, by omega, by go_num, Lib.hid HBr.out.drew⟩
      case measure => simp [intOf]; omega
    · obtain rfl : j = n := by omega
      have R2 : Hid (Rd wr wr.heap.size A2 (m * 2) (lkR (runL j (runL j l a) b))) := Lib.hid (by
        have := HL6.out.rd 2 rfl
        unfold lkA at this
        dsimp only at this
        rw [← HLEN2.out] at this
        exact this)
      have R3 : Hid (Rd wr wr.heap.size A3 (m * 2) (lkR (runL j (runL j l a) b))) := Lib.hid (by
        have := HL6.out.rd 0 rfl
        unfold lkA at this
        dsimp only at this
        rw [← HLEN2.out] at this
        exact this)
      unfold lkR at R2 R3
      go_wp2_with fail
      refine (twos_same A2 A3 m c2 c3 _ _ _ wr (by unfold maxLen; omega) (Nat.le_refl _) R2.out R3.out).mono ?_
      rintro e w7 ⟨v, rfl, rfl, hb⟩
      have HB7 := Lib.hid (HL6.out.keep hb).bel; clear hb
      go_wp2
      go_ret
      exact ⟨rfl, HB7.out⟩
theorem forkDown_all (n : Int) (A : Option Addr) (m cap : Nat) (p q : Nat → Int) (a b : Int) (w : World) (wn : (Lit.int .i64 n).wf = true) (hc : m ≤ cap ∧ cap ≤ maxLen) (hr : Rd w w.heap.size A (m * 2) (recF2 p q)) (wa : (Lit.int .i64 a).wf = true) (wb : (Lit.int .i64 b).wf = true) :
    Calls Try.prog 5 #[.int .i64 n, .slice A m cap, .int .i64 a, .int .i64 b] w fun e w' => e = .returned (.bool true) ∧ Below w.heap.size w w' := by
  rcases good_or_bad n A m cap p q w hc hr with ⟨n', l, rfl, h⟩ | h
  · by_cases hi : a < 0 ∨ b < 0 ∨ 60 < a ∨ 60 < b ∨ 60 < a + b ∨ isRound n' l = true
    · exact forkDown_out n' l a b A m cap w h wa wb hi
    · obtain ⟨x, rfl⟩ := Int.eq_ofNat_of_zero_le (show 0 ≤ a by omega)
      obtain ⟨y, rfl⟩ := Int.eq_ofNat_of_zero_le (show 0 ≤ b by omega)
      refine forkDown_good n' l x y A m cap w h (by omega) ?_
      cases hb : isRound n' l
      · rfl
      · exact absurd hb (by intro h; exact hi (by right; right; right; right; right; exact h))
  · exact forkDown_bad n a b A m cap w h
end Go.Proofs.Ytgfogcaklcnliaa
