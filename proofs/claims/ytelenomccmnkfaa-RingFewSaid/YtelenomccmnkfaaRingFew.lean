/- The law RingFew, walked. -/
import Derived.Test.YtelenomccmnkfaaRing2
set_option linter.unusedVariables false
set_option linter.unusedSimpArgs false
namespace Go.Proofs.Ytelenomccmnkfaa
open Go.RowKit

set_option maxRecDepth 100000 in
set_option maxHeartbeats 3200000 in
theorem ringFew_good (A : Option Addr) (n cap : Nat) (f : Nat → Int) (w : World) (hnc : n ≤ cap) (hm : cap ≤ maxLen) (hr : Rd w w.heap.size A n (fun j => .int .i64 (f j))) (hok : RingOk f n) :
    Calls Try.prog 3 #[.slice A n cap] w fun e w' => e = .returned (.bool true) ∧ Below w.heap.size w w' := by
  have h1 := hok.sz
  have HC := Lib.hid (ringCode_zero.2 hok)
  have HO := Lib.hid hok
  have HR := Lib.hid hr; clear hr
  have HM := Lib.hid hm; clear hm
  have hh := hf_ok hok
  obtain ⟨l, hlE⟩ : ∃ l, hf f n = l := ⟨_, rfl⟩
  have HLE := Lib.hid hlE
  rw [hlE] at hh
  have HH := Lib.hid hh
  have hless := hh.less
  have hsz := hh.ok.sz
  clear hh hlE hok
  go_enter Try.func3, Try.ntmps3
  go_wp2_with fail
  refine (Half_any A n cap _ f w (Nat.le_refl _) hnc HM.out HR.out HO.out).mono ?_
  rintro e w1 ⟨v, rfl, A2, c2, rfl, hl⟩
  rw [HLE.out] at hl ⊢
  have HL := Lib.hid hl
  have hle := hl.own.le
  obtain ⟨hle1, hle2⟩ := hle
  have HLE2 := Lib.hid hle2
  clear hl hle2
  go_wp2_with fail
  refine (ringed_any true A n cap w.heap.size f w1 (by have := HM.out; omega) (HR.out.below HL.out.bel) (by rw [HC.out]; rfl)).mono ?_
  rintro e w2 ⟨rfl, hs2⟩
  have HL2 := Lib.hid (HL.out.sim hs2)
  clear hs2 HL
  obtain ⟨ad, hA, _, hc⟩ := HR.out.below HL2.out.bel (by omega)
  subst hA
  have c0 : w2.cell? ad = some (.int .i64 (f 0)) := by have := hc 0 (by omega); simpa [Addr.add] using this
  have hown := HL2.out.own
  obtain ⟨m, hlm⟩ : ∃ m, l.length = m := ⟨_, rfl⟩
  rw [hlm] at hown hle1 hless hsz ⊢
  have HLM := Lib.hid hlm
  obtain ⟨g, hA2, _, _, hc2, _⟩ := hown.pos1 (by omega)
  subst hA2
  have HW := Lib.hid hown.rd1
  have HX := Lib.hid hc
  have HX2 := Lib.hid hc2
  clear hc hc2 hown hlm
  have hq : n ≤ 1 ∨ (1 < n ∧ 2 * m ≤ n) := by omega
  have hm63 : cap ≤ 9223372036854775807 := by have := HM.out; unfold maxLen at this; omega
  have hc63 : c2 ≤ 9223372036854775807 := by have := HLE2.out; unfold maxLen at this; omega
  clear hless
  have hd1 : ((m : Int) == 0) = false := beq_eq_false_iff_ne.2 (by omega)
  have hd1' : (m == 0) = false := beq_eq_false_iff_ne.2 (by omega)
  have HB := Lib.hid HL2.out.bel
  rcases hq with hq | ⟨hq, hq2⟩
  all_goals
    go_wp2
    go_loop [5, 45] (fun x i => ∃ k : Nat, k ≤ n ∧ i = .int .i64 k ∧ x = .int .i64 (maxTo f k)) (fun _ i => n - (intOf i).toNat)
    case atStart => exact ⟨0, by omega, rfl, rfl⟩
    case round =>
      obtain ⟨k, hk, rfl, rfl⟩ := hrel
      by_cases hlt : k < n
      · have c1 := HX.out k hlt
        have HN := Lib.hid (show maxTo f (k + 1) = if maxTo f k < f k then f k else maxTo f k from rfl)
        obtain ⟨y, hy⟩ : ∃ y, maxTo f k = y := ⟨_, rfl⟩
        rw [hy] at HN ⊢
        clear hy
        by_cases hyk : y < f k
        · have HN := Lib.hid (HN.out.trans (if_pos hyk))
          go_wp2
          go_round
          case rel => exact ⟨k + 1, by omega, by go_num, by rw [HN.out]⟩
          case measure => simp [intOf]; omega
        · have HN := Lib.hid (HN.out.trans (if_neg hyk))
          go_wp2
          go_round
          case rel => exact ⟨k + 1, by omega, by go_num, by rw [HN.out]⟩
          case measure => simp [intOf]; omega
      · obtain rfl : k = n := by omega
        clear c0
        go_wp2
        go_loop [56] (fun i => ∃ j : Nat, j ≤ m ∧ i = .int .i64 j) (fun i => m - (intOf i).toNat)
        case atStart => exact ⟨0, by omega, rfl⟩
        case round =>
          obtain ⟨j, hj, rfl⟩ := hrel
          by_cases hlt : j < m
          · have c1 := HX2.out j hlt
            have H1 := Lib.hid (show hasB f k (gd l j) = true by obtain ⟨p, h2, h3⟩ := HH.out.mem j (by rw [HLM.out]; exact hlt); exact hasB_iff.2 ⟨p, h2, h3⟩)
            have H2 := Lib.hid (show hasB (gd l) j (gd l j) = false from hasB_no.2 fun t ht => HH.out.ok.inj j t (by rw [HLM.out]; exact hlt) ht)
            go_wp2_with (first | (go_at_call 9; (with_reducible refine (has_is true _ k cap w.heap.size f _ w2 (by have := HM.out; omega) (HR.out.below HB.out) H1.out).mono ?_); rintro e w3 ⟨rfl, rfl⟩) | (go_at_call 9; (with_reducible refine (has_is false _ j c2 w2.heap.size (gd l) _ w2 (by have := HLE2.out; omega) (HW.out.less (by omega)) H2.out).mono ?_); rintro e w3 ⟨rfl, rfl⟩))
            go_round
            case rel => exact ⟨j + 1, by omega, by go_num⟩
            case measure => simp [intOf]; omega
          · obtain rfl : j = m := by omega
            have H1 := Lib.hid (show hasB (gd l) j (maxTo f k) = true by obtain ⟨t, h2, h3⟩ := HH.out.max; exact hasB_iff.2 ⟨t, by rw [← HLM.out]; exact h2, h3.symm⟩)
            go_wp2_with (go_at_call 9; refine (has_is true _ j c2 w2.heap.size (gd l) _ w2 (by have := HLE2.out; omega) HW.out H1.out).mono ?_; rintro e w3 ⟨rfl, rfl⟩)
            go_ret
            exact ⟨rfl, HB.out⟩
set_option maxHeartbeats 800000 in
theorem ringFew_bad (A : Option Addr) (n cap : Nat) (f : Nat → Int) (w : World) (hnc : n ≤ cap) (hm : cap ≤ maxLen) (hr : Rd w w.heap.size A n (fun j => .int .i64 (f j))) (hok : ringCode f n ≠ 0) :
    Calls Try.prog 3 #[.slice A n cap] w fun e w' => e = .returned (.bool true) ∧ Below w.heap.size w w' := by
  have HR := Lib.hid hr; clear hr
  have HM := Lib.hid hm; clear hm
  have hb : (ringCode f n != 0) = true := bne_iff_ne.2 hok
  have HC := Lib.hid hok
  have HB := Lib.hid (show (ringCode f n == 0) = false from beq_eq_false_iff_ne.2 hok)
  clear hok
  go_enter Try.func3, Try.ntmps3
  go_wp2_with fail
  refine (Half_bad A n cap _ f w hnc HM.out HR.out HC.out).mono ?_
  rintro e w1 ⟨rfl, rfl⟩
  go_wp2_with fail
  refine (ringed_any false A n cap w.heap.size f w (by have := HM.out; omega) HR.out HB.out).mono ?_
  rintro e w2 ⟨rfl, hs2⟩
  have HS2 := Lib.hid hs2
  clear hs2
  go_wp2
  go_ret
  exact ⟨rfl, below_sim (Below.refl _ _) HS2.out⟩
theorem ringFew_all (A : Option Addr) (n cap : Nat) (f : Nat → Int) (w : World) (hm : n ≤ cap ∧ cap ≤ maxLen) (_ : ∀ j, j < n → (Lit.int .i64 (f j)).wf = true) (hr : Rd w w.heap.size A n (fun j => .int .i64 (f j))) :
    Calls Try.prog 3 #[.slice A n cap] w fun e w' => e = .returned (.bool true) ∧ Below w.heap.size w w' := by
  by_cases h : ringCode f n = 0
  · exact ringFew_good A n cap f w hm.1 hm.2 hr (ringCode_zero.1 h)
  · exact ringFew_bad A n cap f w hm.1 hm.2 hr h
end Go.Proofs.Ytelenomccmnkfaa
