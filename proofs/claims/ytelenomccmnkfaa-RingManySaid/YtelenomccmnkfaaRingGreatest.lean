/- The law RingGreatest, walked. -/
import Derived.Test.YtelenomccmnkfaaLead2
import Derived.Test.YtelenomccmnkfaaInside
set_option linter.unusedVariables false
set_option linter.unusedSimpArgs false
namespace Go.Proofs.Ytelenomccmnkfaa
open Go.RowKit

set_option maxRecDepth 100000 in
set_option maxHeartbeats 1600000 in
theorem lead_bad (A1 A2 : Option Addr) (n n2 cap1 cap2 B : Nat) (f : Nat → Int) (b : Nat → Bool) (w : World) (hc1 : n ≤ cap1) (hm1 : cap1 ≤ maxLen) (hc2 : n2 ≤ cap2) (hm2 : cap2 ≤ maxLen) (hr1 : Rd w B A1 n (fun j => .int .i64 (f j))) (hr2 : Rd w B A2 n2 (fun j => .bool (b j))) (hbad : ¬ (ringCode f n = 0 ∧ n2 = n ∧ anyTo b n2 = true)) :
    Calls Try.prog 11 #[.slice A1 n cap1, .slice A2 n2 cap2] w fun e w' => ∃ c : Int, c ≠ 0 ∧ e = .returned (.tuple #[.int .i64 0, .int .i64 0, .int .i64 c]) ∧ w = w' := by
  have HR1 := Lib.hid hr1
  have HR2 := Lib.hid hr2
  have HM1 := Lib.hid hm1
  have HM2 := Lib.hid hm2
  unfold maxLen at hm1 hm2
  clear hr1 hr2
  by_cases h1 : ringCode f n = 0
  · have hR := ringCode_zero.1 h1
    have HC0 := Lib.hid h1
    obtain ⟨hn1, hn12⟩ := hR.sz
    clear hR
    by_cases h2 : n2 = n
    · subst h2
      have HANY : Hid (anyTo b n2 = false) := Lib.hid (by
        cases h : anyTo b n2
        · rfl
        · exact absurd ⟨h1, rfl, h⟩ hbad)
      clear h1 hbad
      go_enter Try.func11, Try.ntmps11
      go_wp2_with fail
      refine (int_is (ringWrong_any A1 n2 cap1 B f w hc1 HM1.out HR1.out) HC0.out).mono ?_
      rintro e w1 ⟨rfl, rfl⟩
      go_wp2_with fail
      refine (contB_is false A2 n2 cap2 B b w (by unfold maxLen; omega) HR2.out HANY.out).mono ?_
      rintro e w1 ⟨rfl, rfl⟩
      go_wp2
      exact bodyPost_ret (v := .tuple #[.int .i64 0, .int .i64 0, .int .i64 5]) (by simp [results, Try.results11, go_sem]) rfl ⟨5, by decide, rfl, rfl⟩
    · have e1 : ((n2 : Int) != (n : Int)) = true := by rw [bne_iff_ne]; omega
      clear h1 hbad h2
      go_enter Try.func11, Try.ntmps11
      go_wp2_with fail
      refine (int_is (ringWrong_any A1 n cap1 B f w hc1 HM1.out HR1.out) HC0.out).mono ?_
      rintro e w1 ⟨rfl, rfl⟩
      go_wp2
      exact bodyPost_ret (v := .tuple #[.int .i64 0, .int .i64 0, .int .i64 3]) (by simp [results, Try.results11, go_sem]) rfl ⟨3, by decide, rfl, rfl⟩
  · have HC := Lib.hid (ringWrong_any A1 n cap1 B f w hc1 HM1.out HR1.out)
    generalize ringCode f n = c at HC h1
    have e1 : (c != 0) = true := bne_iff_ne.2 h1
    clear hbad
    go_enter Try.func11, Try.ntmps11
    go_wp2_with fail
    refine HC.out.mono ?_
    rintro e w1 ⟨rfl, rfl⟩
    go_wp2
    exact bodyPost_ret (v := .tuple #[.int .i64 0, .int .i64 0, .int .i64 c]) (by simp [results, Try.results11, go_sem]) rfl ⟨c, h1, rfl, rfl⟩
set_option maxRecDepth 100000 in
set_option maxHeartbeats 3200000 in
theorem ringGreatest_good (A1 A2 : Option Addr) (n cap1 cap2 : Nat) (f : Nat → Int) (b : Nat → Bool) (w : World) (hc1 : n ≤ cap1) (hm1 : cap1 ≤ maxLen) (hr1 : Rd w w.heap.size A1 n (fun j => .int .i64 (f j))) (hr2 : Rd w w.heap.size A2 n (fun j => .bool (b j))) (hR : RingOk f n) (hb : anyTo b n = true) :
    Calls Try.prog 5 #[.slice A1 n cap1, .slice A2 n cap2] w fun e w' => e = .returned (.bool true) ∧ Below w.heap.size w w' := by
  have HR1 := Lib.hid hr1
  have HR2 := Lib.hid hr2
  have HC := Lib.hid (ringCode_zero.2 hR)
  have HBB := Lib.hid hb
  obtain ⟨hn1, hn12⟩ := hR.sz
  have HRO := Lib.hid hR
  have HM1 := Lib.hid hm1
  obtain ⟨i0, hi0⟩ := anyTo_iff.1 hb
  have HI0 := Lib.hid hi0
  clear hr1 hr2 hb hR hm1 hi0
  go_enter Try.func5, Try.ntmps5
  go_wp2_with fail
  refine (lead_good A1 A2 n cap1 cap2 w.heap.size f b w HRO.out ⟨i0, HI0.out⟩ hc1 HM1.out (Nat.le_refl _) HR1.out HR2.out).mono ?_
  rintro e w1 ⟨v, rfl, t, p, hp, hno, hh, rfl, hbl⟩
  obtain ⟨hg, hg2, hg3⟩ := home_great HRO.out ⟨i0, HI0.out⟩ hno hp hh
  have HG := Lib.hid hg
  have HBL := Lib.hid hbl
  generalize tot n f b t = T at hg3 ⊢
  clear hno hh hbl hg hg2
  go_wp2
  go_loopw [8, 22] (fun sv iv wr => ∃ (k : Nat) (s : Bool), k ≤ n ∧ iv = .int .i64 (k : Nat) ∧ sv = .bool s ∧ Hid (anyTo b k = s) ∧ wr = w1) (fun _ iv _ => n - (intOf iv).toNat)
  case atStart => exact ⟨0, false, by omega, rfl, rfl, Lib.hid rfl, rfl⟩
  case round =>
    obtain ⟨k, s, hk, rfl, rfl, HS, rfl⟩ := hrel
    by_cases hlt : k < n
    · obtain ⟨ad2, rfl, _, hcl⟩ := (HR2.out.below HBL.out) (by omega)
      have c2 : wr.cell? (ad2.add k) = some (.bool (b k)) := hcl k hlt
      clear hcl
      have HN : Hid (∀ c, b k = c → anyTo b (k + 1) = (s || c)) := Lib.hid (fun c hc => by rw [anyTo, HS.out, hc])
      cases hbk : b k
      all_goals
        have HN2 := Lib.hid (HN.out _ hbk)
        rw [hbk] at c2
        clear hbk
        cases s
        all_goals
          simp only [Bool.or_false, Bool.or_true] at HN2
          go_wp2
          go_roundw
          case rel => exact ⟨k + 1, _, by omega, by go_num, rfl, HN2, by first | rfl | trivial⟩
          case measure => simp [intOf]; omega
    · obtain rfl : k = n := by omega
      have hs : s = true := HS.out.symm.trans HBB.out
      subst hs
      go_wp2_with (first
        | (go_at_call 8; refine (ringed_any true A1 k cap1 w.heap.size f wr (by have := HM1.out; omega) (HR1.out.below HBL.out) (by rw [HC.out]; rfl)).mono ?_; rintro e w2 ⟨rfl, hs2⟩; have HB2 := Lib.hid (below_sim HBL.out hs2); clear hs2)
        | (go_at_call 12; refine (inside1 true (k : Int) (p : Int) w2 _ _ rfl (by simp; omega)).mono ?_; rintro e w3 ⟨rfl, rfl⟩; have HB3 := Lib.hid (HB2.out.alloc HB2.out.size (.cells #[.int .i64 (p : Int)] 3)))
        | fail)
      obtain ⟨ad1, rfl, _, hcl⟩ := (HR1.out.below HB3.out) (by omega)
      have HCL := Lib.hid hcl
      have cp : (w2.alloc (.cells #[.int .i64 (p : Int)] 3)).cell? (ad1.add p) = some (.int .i64 (f p)) := hcl p hp
      clear hcl
      generalize w2.alloc (.cells #[.int .i64 (p : Int)] 3) = w3 at *
      go_loopw [65] (fun iv wr => ∃ i : Nat, i ≤ k ∧ iv = .int .i64 (i : Nat) ∧ wr = w3) (fun iv _ => k - (intOf iv).toNat)
      case atStart => exact ⟨0, by omega, rfl, rfl⟩
      case round =>
        obtain ⟨i, hi, rfl, rfl⟩ := hrel
        by_cases hlt2 : i < k
        · have c3 := HCL.out i hlt2
          have hle := HG.out i hlt2
          go_wp2
          go_roundw
          case rel => exact ⟨i + 1, by omega, by go_num, by first | rfl | trivial⟩
          case measure => simp [intOf]; omega
        · obtain rfl : i = k := by omega
          go_wp2
          go_ret
          exact ⟨rfl, HB3.out⟩
set_option maxRecDepth 100000 in
set_option maxHeartbeats 3200000 in
theorem ringGreatest_bad (A1 A2 : Option Addr) (n n2 cap1 cap2 : Nat) (f : Nat → Int) (b : Nat → Bool) (w : World) (hc1 : n ≤ cap1) (hm1 : cap1 ≤ maxLen) (hc2 : n2 ≤ cap2) (hm2 : cap2 ≤ maxLen) (hr1 : Rd w w.heap.size A1 n (fun j => .int .i64 (f j))) (hr2 : Rd w w.heap.size A2 n2 (fun j => .bool (b j))) (hbad : ¬ (ringCode f n = 0 ∧ n2 = n ∧ anyTo b n2 = true)) :
    Calls Try.prog 5 #[.slice A1 n cap1, .slice A2 n2 cap2] w fun e w' => e = .returned (.bool true) ∧ Below w.heap.size w w' := by
  have HR1 := Lib.hid hr1
  have HR2 := Lib.hid hr2
  have HBAD := Lib.hid hbad
  have HL := Lib.hid (lead_bad A1 A2 n n2 cap1 cap2 w.heap.size f b w hc1 hm1 hc2 hm2 hr1 hr2 hbad)
  have HM1 : Hid (n ≤ maxLen) := Lib.hid (by omega)
  have hm2' : n2 ≤ 9223372036854775807 := by unfold maxLen at hm2; omega
  have hm1' : n ≤ 9223372036854775807 := by unfold maxLen at hm1; omega
  clear hr1 hr2 hbad hm1 hm2
  go_enter Try.func5, Try.ntmps5
  go_wp2_with fail
  refine HL.out.mono ?_
  rintro e w1 ⟨c, hc, rfl, rfl⟩
  have ec : (c != 0) = true := bne_iff_ne.2 hc
  obtain ⟨w1, hw1⟩ : ∃ w1, w = w1 := ⟨_, rfl⟩
  have HW1 := Lib.hid hw1
  rw [hw1]
  clear hw1 HL
  go_wp2
  go_loopw [8, 22] (fun sv iv wr => ∃ (k : Nat) (s : Bool), k ≤ n2 ∧ iv = .int .i64 (k : Nat) ∧ sv = .bool s ∧ Hid (anyTo b k = s) ∧ wr = w1) (fun _ iv _ => n2 - (intOf iv).toNat)
  case atStart => exact ⟨0, false, by omega, rfl, rfl, Lib.hid rfl, rfl⟩
  case round =>
    obtain ⟨k, s, hk, rfl, rfl, HS, rfl⟩ := hrel
    have hw := HW1.out
    subst hw
    by_cases hlt : k < n2
    · obtain ⟨ad2, rfl, _, hcl⟩ := HR2.out (by omega)
      have c2 : w.cell? (ad2.add k) = some (.bool (b k)) := hcl k hlt
      clear hcl
      have HN : Hid (∀ c, b k = c → anyTo b (k + 1) = (s || c)) := Lib.hid (fun c hc => by rw [anyTo, HS.out, hc])
      cases hbk : b k
      all_goals
        have HN2 := Lib.hid (HN.out _ hbk)
        rw [hbk] at c2
        clear hbk
        cases s
        all_goals
          simp only [Bool.or_false, Bool.or_true] at HN2
          go_wp2
          go_roundw
          case rel => exact ⟨k + 1, _, by omega, by go_num, rfl, HN2, by first | rfl | trivial⟩
          case measure => simp [intOf]; omega
    · obtain rfl : k = n2 := by omega
      obtain ⟨r, hr⟩ : ∃ r, (ringCode f n == 0) = r := ⟨_, rfl⟩
      have HRR := Lib.hid hr
      cases r
      · clear hr
        go_wp2_with (first
          | (go_at_call 8; refine (ringed_any false A1 n cap1 w.heap.size f w HM1.out HR1.out HRR.out).mono ?_; rintro e w2 ⟨rfl, hs2⟩; have HB2 := Lib.hid (below_sim (Below.refl w.heap.size w) hs2); clear hs2)
          | fail)
        go_ret
        exact ⟨rfl, HB2.out⟩
      · have h0 : ringCode f n = 0 := by simpa using hr
        clear hr
        by_cases hnn : k = n
        · have hs : s = false := by
            cases s
            · rfl
            · exact absurd ⟨h0, hnn, HS.out⟩ HBAD.out
          have e1 : ((k : Int) != (n : Int)) = false := by rw [bne_eq_false_iff_eq]; omega
          subst hs
          clear h0 hnn
          go_wp2_with (first
            | (go_at_call 8; refine (ringed_any true A1 n cap1 w.heap.size f w HM1.out HR1.out HRR.out).mono ?_; rintro e w2 ⟨rfl, hs2⟩; have HB2 := Lib.hid (below_sim (Below.refl w.heap.size w) hs2); clear hs2)
            | fail)
          go_ret
          exact ⟨rfl, HB2.out⟩
        · have e1 : ((k : Int) != (n : Int)) = true := by rw [bne_iff_ne]; omega
          clear h0 hnn
          go_wp2_with (first
            | (go_at_call 8; refine (ringed_any true A1 n cap1 w.heap.size f w HM1.out HR1.out HRR.out).mono ?_; rintro e w2 ⟨rfl, hs2⟩; have HB2 := Lib.hid (below_sim (Below.refl w.heap.size w) hs2); clear hs2)
            | fail)
          go_ret
          exact ⟨rfl, HB2.out⟩
theorem ringGreatest_all (A1 : Option Addr) (n cap1 : Nat) (f : Nat → Int) (A2 : Option Addr) (n2 cap2 : Nat) (b : Nat → Bool) (w : World) (hm : n ≤ cap1 ∧ cap1 ≤ maxLen) (_ : ∀ j, j < n → (Lit.int .i64 (f j)).wf = true) (hr1 : Rd w w.heap.size A1 n (fun j => .int .i64 (f j))) (hm2 : n2 ≤ cap2 ∧ cap2 ≤ maxLen) (hr2 : Rd w w.heap.size A2 n2 (fun j => .bool (b j))) :
    Calls Try.prog 5 #[.slice A1 n cap1, .slice A2 n2 cap2] w fun e w' => e = .returned (.bool true) ∧ Below w.heap.size w w' := by
  by_cases h : ringCode f n = 0 ∧ n2 = n ∧ anyTo b n2 = true
  · obtain ⟨h1, rfl, h3⟩ := h
    exact ringGreatest_good A1 A2 n2 cap1 cap2 f b w hm.1 hm.2 hr1 hr2 (ringCode_zero.1 h1) h3
  · exact ringGreatest_bad A1 A2 n n2 cap1 cap2 f b w hm.1 hm.2 hm2.1 hm2.2 hr1 hr2 h
end Go.Proofs.Ytelenomccmnkfaa
