/- The law RingSoon, walked. -/
import Derived.Test.YtelenomccmnkfaaRing2
set_option linter.unusedVariables false
set_option linter.unusedSimpArgs false
namespace Go.Proofs.Ytelenomccmnkfaa
open Go.RowKit

set_option maxRecDepth 100000 in
set_option maxHeartbeats 3200000 in
theorem ringSoon_good (A : Option Addr) (n cap : Nat) (f : Nat → Int) (w : World) (hnc : n ≤ cap) (hm : cap ≤ maxLen) (hr : Rd w w.heap.size A n (fun j => .int .i64 (f j))) (hok : RingOk f n) :
    Calls Try.prog 4 #[.slice A n cap] w fun e w' => e = .returned (.bool true) ∧ Below w.heap.size w w' := by
  have h1 := hok.sz
  have HC := Lib.hid (ringCode_zero.2 hok)
  have HO := Lib.hid hok
  have HR := Lib.hid hr; clear hr
  have HM := Lib.hid hm; clear hm hok
  go_enter Try.func4, Try.ntmps4
  go_wp2_with fail
  refine (Halves_any A n cap _ f w (Nat.le_refl _) hnc HM.out HR.out HO.out).mono ?_
  rintro e w1 ⟨v, rfl, q, rfl, hq1, hq2, hb⟩
  have HQ1 := Lib.hid hq1
  have HQ2 := Lib.hid hq2
  have HB := Lib.hid hb
  have hq12 : q ≤ 12 := by have := Nat.lt_two_pow_self (n := q); omega
  clear hq1 hq2 hb
  go_wp2_with fail
  refine (ringed_any true A n cap w.heap.size f w1 (by have := HM.out; omega) (HR.out.below HB.out) (by rw [HC.out]; rfl)).mono ?_
  rintro e w2 ⟨rfl, hs2⟩
  have HB2 := Lib.hid (below_sim HB.out hs2)
  clear hs2
  go_wp2
  go_loop [5, 6] (fun x i => ∃ (t y : Nat), t ≤ 12 ∧ y ≤ 12 ∧ x = .int .i64 t ∧ i = .int .i64 y ∧ t + y ≤ n ∧ Hid (y = n / 2 ^ t)) (fun _ i => (intOf i).toNat)
  case atStart => exact ⟨0, n, by omega, by omega, rfl, rfl, by omega, by show n = n / 2 ^ 0; simp⟩
  case round =>
    obtain ⟨t, y, ht, hy, rfl, rfl, hty, HY⟩ := hrel
    by_cases hlt : 1 < y
    · go_wp2
      go_round
      case rel => exact ⟨t + 1, y / 2, by omega, by omega, by go_num, by go_num, by omega, by show y / 2 = _; rw [HY.out, Nat.pow_succ, Nat.div_div_eq_div_mul]⟩
      case measure => simp [intOf]; omega
    · have hqt : q ≤ t := by
        apply Classical.byContradiction
        intro h
        have h2 : 2 ^ (t + 1) ≤ n := Nat.le_trans (Nat.pow_le_pow_right (by omega) (show t + 1 ≤ q by omega)) HQ1.out
        have h3 : 2 ≤ n / 2 ^ t := (Nat.le_div_iff_mul_le (Nat.two_pow_pos t)).2 (by rw [Nat.pow_succ] at h2; omega)
        have := HY.out
        omega
      have hz : q = 0 ∧ n = 1 ∨ q ≠ 0 ∧ n ≠ 1 := by
        by_cases h : q = 0
        · exact .inl ⟨h, HQ2.out h⟩
        · refine .inr ⟨h, fun e => ?_⟩
          have h2 := HQ1.out
          have h3 := Nat.lt_two_pow_self (n := q)
          omega
      rcases hz with ⟨rfl, rfl⟩ | ⟨hz1, hz2⟩
      · go_wp2
        go_ret
        exact ⟨rfl, HB2.out⟩
      · have e1 : ((q : Int) == 0) = false := beq_eq_false_iff_ne.2 (by omega)
        have e2 : ((n : Int) == 1) = false := beq_eq_false_iff_ne.2 (by omega)
        have e1' : (q == 0) = false := beq_eq_false_iff_ne.2 hz1
        have e2' : (n == 1) = false := beq_eq_false_iff_ne.2 hz2
        go_wp2
        go_ret
        exact ⟨rfl, HB2.out⟩
set_option maxHeartbeats 800000 in
theorem ringSoon_bad (A : Option Addr) (n cap : Nat) (f : Nat → Int) (w : World) (hnc : n ≤ cap) (hm : cap ≤ maxLen) (hr : Rd w w.heap.size A n (fun j => .int .i64 (f j))) (hok : ringCode f n ≠ 0) :
    Calls Try.prog 4 #[.slice A n cap] w fun e w' => e = .returned (.bool true) ∧ Below w.heap.size w w' := by
  have HR := Lib.hid hr; clear hr
  have HM := Lib.hid hm; clear hm
  have hb : (ringCode f n != 0) = true := bne_iff_ne.2 hok
  have HC := Lib.hid hok
  have HB := Lib.hid (show (ringCode f n == 0) = false from beq_eq_false_iff_ne.2 hok)
  clear hok
  go_enter Try.func4, Try.ntmps4
  go_wp2_with fail
  refine (Halves_bad A n cap _ f w hnc HM.out HR.out HC.out).mono ?_
  rintro e w1 ⟨rfl, rfl⟩
  go_wp2_with fail
  refine (ringed_any false A n cap w.heap.size f w (by have := HM.out; omega) HR.out HB.out).mono ?_
  rintro e w2 ⟨rfl, hs2⟩
  have HS2 := Lib.hid hs2
  clear hs2
  go_wp2
  go_ret
  exact ⟨rfl, below_sim (Below.refl _ _) HS2.out⟩
theorem ringSoon_all (A : Option Addr) (n cap : Nat) (f : Nat → Int) (w : World) (hm : n ≤ cap ∧ cap ≤ maxLen) (_ : ∀ j, j < n → (Lit.int .i64 (f j)).wf = true) (hr : Rd w w.heap.size A n (fun j => .int .i64 (f j))) :
    Calls Try.prog 4 #[.slice A n cap] w fun e w' => e = .returned (.bool true) ∧ Below w.heap.size w w' := by
  by_cases h : ringCode f n = 0
  · exact ringSoon_good A n cap f w hm.1 hm.2 hr (ringCode_zero.1 h)
  · exact ringSoon_bad A n cap f w hm.1 hm.2 hr h
end Go.Proofs.Ytelenomccmnkfaa
