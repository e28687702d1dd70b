/- The law CutMany, walked. -/
import Derived.Test.YtkdookhblbjddaaMany
import Derived.Test.YtkdookhblbjddaaVectorAhead
import Derived.Test.YtkdookhblbjddaaRunApart
set_option linter.unusedVariables false
set_option linter.unusedSimpArgs false
namespace Go.Proofs.Ytkdookhblbjddaa
open Go.RowKit

theorem apIn_pos (E : Ev) (j k : Nat) : 0 < apIn E j k ↔ ∃ i, i < k ∧ (pastW E j).testBit i = false := by
  induction k with
  | zero => simp [apIn]
  | succ k ih =>
    rw [apIn]
    constructor
    · intro h
      cases hb : (pastW E j).testBit k
      · exact ⟨k, by omega, hb⟩
      · rw [hb] at h
        obtain ⟨i, h1, h2⟩ := ih.1 (by simpa using h)
        exact ⟨i, by omega, h2⟩
    · rintro ⟨i, h1, h2⟩
      rcases Nat.lt_succ_iff_lt_or_eq.1 h1 with h3 | rfl
      · have := ih.2 ⟨i, h3, h2⟩; omega
      · rw [h2]; simp
theorem apAll_pos (E : Ev) (len : Nat) : 0 < apAll E len ↔ ∃ i j, i < j ∧ j < len ∧ ¬ Hb E i j := by
  induction len with
  | zero => simp [apAll]
  | succ len ih =>
    rw [apAll]
    constructor
    · intro h
      by_cases h0 : 0 < apAll E len
      · obtain ⟨i, j, h1, h2, h3⟩ := ih.1 h0
        exact ⟨i, j, h1, by omega, h3⟩
      · obtain ⟨i, h1, h2⟩ := (apIn_pos E len len).1 (by omega)
        exact ⟨i, len, h1, by omega, fun h => by unfold Hb at h; rw [h2] at h; cases h⟩
    · rintro ⟨i, j, h1, h2, h3⟩
      rcases Nat.lt_succ_iff_lt_or_eq.1 h2 with h4 | rfl
      · have := ih.2 ⟨i, j, h1, h4, h3⟩; omega
      · have := (apIn_pos E j j).2 ⟨i, h1, by
          cases hb : (pastW E j).testBit i
          · rfl
          · exact absurd hb h3⟩
        omega
theorem prodP_le (E : Ev) (len : Nat) (h30 : len ≤ 30) (p : Nat) : prodP E len p ≤ 31 ^ p := by
  induction p with
  | zero => exact Nat.le_refl _
  | succ p ih =>
    rw [prodP, Nat.pow_succ]
    exact Nat.mul_le_mul ih (by have := cntP_le E p len; omega)
theorem prodP_small (E : Ev) (len : Nat) (h30 : len ≤ 30) {p : Nat} (hp : p ≤ 6) : prodP E len p ≤ 887503681 := by
  have h1 := prodP_le E len h30 p
  have h2 : 31 ^ p ≤ 31 ^ 6 := Nat.pow_le_pow_right (by omega) hp
  have h3 : 31 ^ 6 = 887503681 := by decide
  omega
theorem many_bad (n : Int) (A : Option Addr) (len cap B : Nat) (E : Ev) (w : World) (hm : len ≤ maxLen) (hB : B ≤ w.heap.size) (hr : Rd w B A (len * 3) (evF E)) (hbad : runCode n E len ≠ 0) :
    Calls Try.prog 29 #[.int .i64 n, .slice A len cap] w fun e w' => e = .returned (.tuple #[.int .i64 0, .int .i64 (runCode n E len)]) ∧ Below w.heap.size w w' := by
  have HC := Lib.hid (check_any n A len cap B E w hm hB hr)
  have hb' : (runCode n E len == 0) = false := beq_eq_false_iff_ne.2 hbad
  have hb2 : (runCode n E len != 0) = true := bne_iff_ne.2 hbad
  clear hbad hr
  go_enter Try.func29, Try.ntmps29
  go_wp2_with fail
  refine HC.out.mono ?_
  rintro e w1 ⟨rfl, hb1⟩
  have HB1 := Lib.hid hb1; clear hb1
  go_wp2
  go_ret2
  exact ⟨rfl, HB1.out⟩
set_option maxHeartbeats 800000 in
theorem cutMany_bad (n : Int) (A : Option Addr) (len cap : Nat) (E : Ev) (w : World) (hlc : len ≤ cap) (hm : len ≤ maxLen) (hr : Rd w w.heap.size A (len * 3) (evF E)) (hbad : runCode n E len ≠ 0) :
    Calls Try.prog 14 #[.int .i64 n, .slice A len cap] w fun e w' => e = .returned (.bool true) ∧ Below w.heap.size w w' := by
  have H1 := Lib.hid (many_bad n A len cap w.heap.size E w hm (Nat.le_refl _) hr hbad)
  have H3 := Lib.hid (fun (W : World) (hb : Below w.heap.size w W) => bool_is_b (ran_any n A len cap w.heap.size E W hlc hm hb.size (hr.below hb)) (beq_eq_false_iff_ne.2 hbad))
  have hb2 : (runCode n E len != 0) = true := bne_iff_ne.2 hbad
  clear hbad hr
  generalize runCode n E len = c at *
  go_enter Try.func14, Try.ntmps14
  go_wp2_with fail
  refine H1.out.mono ?_
  rintro e w1 ⟨rfl, hb⟩
  have HB1 := Lib.hid hb; clear hb
  go_wp2_with fail
  refine (H3.out w1 HB1.out).mono ?_
  rintro e w3 ⟨rfl, hb⟩
  have HB3 := Lib.hid (HB1.out.trans (hb.mono HB1.out.size)); clear hb
  go_wp2
  go_ret
  exact ⟨rfl, HB3.out⟩
set_option maxRecDepth 100000 in
set_option maxHeartbeats 2000000 in
theorem cutMany_good (n : Nat) (A : Option Addr) (len cap : Nat) (E : Ev) (w : World) (hlc : len ≤ cap) (hm : len ≤ maxLen) (hr : Rd w w.heap.size A (len * 3) (evF E)) (hg : runCode n E len = 0) :
    Calls Try.prog 14 #[.int .i64 (n : Nat), .slice A len cap] w fun e w' => e = .returned (.bool true) ∧ Below w.heap.size w w' := by
  obtain ⟨n1, n6, h30⟩ := (runCode_ok hg).1
  have H1 := Lib.hid (many_good n A len cap E w hr hg)
  have H3 := Lib.hid (fun (W : World) (hb : Below w.heap.size w W) => bool_is_b (ran_any n A len cap w.heap.size E W hlc hm hb.size (hr.below hb)) (show (runCode n E len == 0) = true by rw [hg]; rfl))
  have HAP := Lib.hid (fun (W : World) (hb : Below w.heap.size w W) => apart_good n A len cap w.heap.size E W hm hb.size (hr.below hb) hg)
  have HPR : Hid (∀ x, x < len → ∃ q : Nat, E.p x = q ∧ q < n) := Lib.hid fun x hx => ev_proc hg hx
  have HPO := Lib.hid (run_pos hg)
  have HR := Lib.hid hr
  have HPS := Lib.hid fun (p : Nat) (hp : p ≤ n) => prodP_small E len h30 (show p ≤ 6 by omega)
  clear hg hr hm
  go_enter Try.func14, Try.ntmps14
  go_wp2_with fail
  refine H1.out.mono ?_
  rintro e w1 ⟨v, rfl, l, rfl, hall, hb⟩
  have HB1 := Lib.hid hb
  have k1 := all_many hall
  have k2 := all_most (n := n) hall fun i hi => ⟨HPO.out.1 i hi, HPO.out.2 i hi⟩
  have HK3 : Hid (0 < apAll E len → len + 2 ≤ l.length) := Lib.hid fun h => by
    obtain ⟨i, j, h1, h2, h3⟩ := (apAll_pos E len).1 h
    exact all_more hall h1 h2 h3
  have HK4 : Hid (apAll E len = 0 → l.length ≤ len + 1) := Lib.hid fun h => all_few hall fun i j h1 h2 => Classical.byContradiction fun h3 => by
    have := (apAll_pos E len).2 ⟨i, j, h1, h2, h3⟩
    omega
  clear hb hall H1
  generalize l.length = k at *
  go_wp2_with fail
  refine (H3.out w1 HB1.out).mono ?_
  rintro e w2 ⟨rfl, hb⟩
  have HB2 := Lib.hid (HB1.out.trans (hb.mono HB1.out.size)); clear hb HB1
  have hk3 := HPS.out n (Nat.le_refl _)
  go_wp2
  go_loopw [7, 8] (fun m y wr => ∃ p : Nat, y = .int .i64 (p : Nat) ∧ p ≤ n ∧ m = .int .i64 (prodP E len p : Nat) ∧ Hid (Below w.heap.size w wr)) (fun _ y _ => n - (intOf y).toNat)
  case atStart => exact ⟨0, rfl, by omega, rfl, HB2⟩
  case round =>
    clear HB2
    obtain ⟨p, rfl, hp, rfl, HBr⟩ := hrel
    by_cases hlt : p < n
    · have HST : Hid (prodP E len (p + 1) = prodP E len p * (cntP E p len + 1)) := Lib.hid rfl
      have HS1 := Lib.hid (HPS.out (p + 1) (by omega))
      have hx := HPS.out p hp
      generalize prodP E len p = x at HST hx ⊢
      go_wp2
      go_loopw [9, 33] (fun m y wr => ∃ j : Nat, y = .int .i64 (j : Nat) ∧ j ≤ len ∧ m = .int .i64 (cntP E p j + 1 : Nat) ∧ Hid (Below w.heap.size w wr)) (fun _ y _ => len - (intOf y).toNat)
      case atStart => exact ⟨0, rfl, by omega, rfl, HBr⟩
      case round =>
        clear HBr
        obtain ⟨j, rfl, hj, rfl, HB⟩ := hrel
        have hcl := cntP_le E p j
        by_cases hltj : j < len
        · obtain ⟨ad, rfl, hbl, e0, e1, e2⟩ := (HR.out.below HB.out).rec3 hltj
          have hbl2 : (ad.add (j * 3)).block < wr.heap.size := by have := HB.out.size; rw [addr_block]; omega
          obtain ⟨q, hq, hqn⟩ := HPR.out j hltj
          have HN : Hid (cntP E p (j + 1) = cntP E p j + if (q : Int) = (p : Int) then 1 else 0) := Lib.hid (by rw [cntP, hq])
          have HB1 : Hid (∀ o, Below w.heap.size w (wr.alloc o)) := Lib.hid fun o => HB.out.alloc HB.out.size o
          rw [hq] at e0
          clear hq
          obtain ⟨d, hd⟩ : ∃ d, ((q : Int) == (p : Int)) = d := ⟨_, rfl⟩
          generalize cntP E p j = z at HN hcl ⊢
          cases d
          · have HN2 : Hid (cntP E p (j + 1) = z) := Lib.hid (by rw [HN.out, if_neg (by simpa using hd)]; rfl)
            go_wp2
            go_roundw
            case rel => exact ⟨j + 1, by go_num, by omega, by rw [HN2.out], Lib.hid (HB1.out _)⟩
            case measure => simp [intOf]; omega
          · have HN2 : Hid (cntP E p (j + 1) = z + 1) := Lib.hid (by rw [HN.out, if_pos (by simpa using hd)])
            go_wp2
            go_roundw
            case rel => exact ⟨j + 1, by go_num, by omega, by rw [HN2.out]; go_num, Lib.hid (HB1.out _)⟩
            case measure => simp [intOf]; omega
        · obtain rfl : j = len := by omega
          obtain ⟨y, hy⟩ : ∃ y, cntP E p j + 1 = y := ⟨_, rfl⟩
          obtain ⟨z, hz⟩ : ∃ z, prodP E j (p + 1) = z := ⟨_, rfl⟩
          have hz2 := HS1.out
          rw [hz] at hz2
          have HZ := Lib.hid hz
          have hmul : (x : Int) * (y : Int) = (z : Int) := by rw [← hz, HST.out, hy, Int.natCast_mul]
          rw [hy]
          clear hz hy hcl
          go_wp2
          go_roundw
          case rel => exact ⟨p + 1, by go_num, by omega, by rw [HZ.out], HB⟩
          case measure => simp [intOf]; omega
    · obtain rfl : p = n := by omega
      generalize prodP E len p = x at *
      go_wp2_with fail
      refine (HAP.out wr HBr.out).mono ?_
      rintro e w4 ⟨rfl, hb⟩
      have HB4 := Lib.hid (HBr.out.trans (hb.mono HBr.out.size)); clear hb
      have hk4 := HK3.out
      have hk5 := HK4.out
      generalize apAll E len = y at hk4 hk5 ⊢
      by_cases hy : 0 < y
      · have h7 := hk4 hy
        clear hk4 hk5
        go_wp2
        go_ret
        exact ⟨ret_bool (by simp; omega), HB4.out⟩
      · have h7 := hk5 (by omega)
        have hy0 : y = 0 := by omega
        clear hk4 hk5
        go_wp2
        go_ret
        exact ⟨ret_bool (by simp; omega), HB4.out⟩
theorem cutMany_all (n : Int) (A : Option Addr) (len cap : Nat) (E : Ev) (w : World) (_ : (Lit.int .i64 n).wf = true) (hmc : len ≤ cap ∧ cap ≤ maxLen) (hr : Rd w w.heap.size A (len * 3) (evF E)) :
    Calls Try.prog 14 #[.int .i64 n, .slice A len cap] w fun e w' => e = .returned (.bool true) ∧ Below w.heap.size w w' := by
  by_cases hg : runCode n E len = 0
  · obtain ⟨k, rfl⟩ := Int.eq_ofNat_of_zero_le (by have := (runCode_ok hg).1.1; omega : 0 ≤ n)
    exact cutMany_good k A len cap E w hmc.1 (by omega) hr hg
  · exact cutMany_bad n A len cap E w hmc.1 (by omega) hr hg
end Go.Proofs.Ytkdookhblbjddaa
