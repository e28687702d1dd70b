/- The walk of run.Again. -/
import Derived.Test.YthonnpimfidkdaaAhead
set_option linter.unusedVariables false
set_option linter.unusedSimpArgs false
namespace Go.Proofs.Ythonnpimfidkdaa
open Go.RowKit Go.Maps

def agSeen (u : Nat → Nat) : Nat → Nat
  | 0 => 0
  | t + 1 => agSeen u t ||| 2 ^ u t
def agOk (E : Ev) (u : Nat → Nat) : Nat → Bool
  | 0 => true
  | t + 1 => agOk E u t && (bits .andNot .u32 (pastW E (u t) : Int) (agSeen u t : Int) == 0)
theorem agSeen_bit (u : Nat → Nat) (t b : Nat) : (agSeen u t).testBit b = true ↔ ∃ s, s < t ∧ u s = b := by
  induction t with
  | zero => simp [agSeen]
  | succ t ih =>
    rw [agSeen, testBit_put, ih]
    constructor
    · rintro (⟨s, h, e⟩ | e)
      · exact ⟨s, by omega, e⟩
      · exact ⟨t, by omega, e⟩
    · rintro ⟨s, h, e⟩
      rcases Nat.lt_succ_iff_lt_or_eq.1 h with h | rfl
      · exact .inl ⟨s, h, e⟩
      · exact .inr e
theorem agSeen_lt {u : Nat → Nat} {t len : Nat} (h : ∀ s, s < t → u s < len) : agSeen u t < 2 ^ len := by
  induction t with
  | zero => exact Nat.two_pow_pos _
  | succ t ih => exact or_lt (ih fun s hs => h s (by omega)) (h t (by omega))
theorem agOk_iff {E : Ev} {u : Nat → Nat} {n : Int} {len t : Nat} (hg : runCode n E len = 0) (hu : ∀ s, s < len → u s < len) (ht : t ≤ len) : agOk E u t = true ↔ ∀ s, s < t → ∀ i, Hb E i (u s) → ∃ r, r < s ∧ u r = i := by
  have hl := (runCode_ok hg).1.2.2
  induction t with
  | zero => simp [agOk]
  | succ t ih =>
    have hp := pastW_lt hg (hu t (by omega))
    have hs : agSeen u t < 4294967296 := by
      have := agSeen_lt (u := u) (t := t) (len := len) (fun s hs => hu s (by omega))
      have h2 : 2 ^ len ≤ 2 ^ 30 := Nat.pow_le_pow_right (by omega) hl
      omega
    have ih := ih (by omega)
    rw [agOk, Bool.and_eq_true, andNot_zero hp hs]
    constructor
    · rintro ⟨h1, h2⟩ s hst i hi
      rcases Nat.lt_succ_iff_lt_or_eq.1 hst with h | rfl
      · exact ih.1 h1 s h i hi
      · exact (agSeen_bit u s i).1 (h2 i hi)
    · intro h
      exact ⟨ih.2 fun s hs => h s (by omega), fun i hi => (agSeen_bit u t i).2 (h t (by omega) i hi)⟩

set_option maxHeartbeats 800000 in
theorem again_bad (n : Int) (A O : Option Addr) (len cap m cm B : Nat) (E : Ev) (w : World) (hm : len ≤ maxLen) (hB : B ≤ w.heap.size) (hr : Rd w B A (len * 3) (evF E)) (hbad : runCode n E len ≠ 0) :
    Calls Try.prog 7 #[.int .i64 n, .slice A len cap, .slice O m cm] w fun e w' => e = .returned (.tuple #[.bool false, .int .i64 (runCode n E len)]) ∧ Below w.heap.size w w' := by
  have HR := Lib.hid hr; clear hr
  have HM := Lib.hid hm; clear hm
  have hb' : (runCode n E len == 0) = false := beq_eq_false_iff_ne.2 hbad
  clear hbad
  go_enter Try.func7, Try.ntmps7
  go_wp2_with fail
  refine (check_any n A len cap B E w HM.out hB HR.out).mono ?_
  rintro e w1 ⟨rfl, hb1⟩
  have HB1 := Lib.hid hb1; clear hb1
  go_wp2
  go_ret2
  exact ⟨rfl, HB1.out⟩

set_option maxRecDepth 100000 in
set_option maxHeartbeats 1600000 in
theorem again_good (n : Int) (A O : Option Addr) (len cap cm B : Nat) (E : Ev) (u : Nat → Nat) (w : World) (hm : len ≤ maxLen) (hB : B ≤ w.heap.size) (hr : Rd w B A (len * 3) (evF E)) (ho : Rd w B O len (fun t => .int .i64 (u t : Nat)))
    (hgood : runCode n E len = 0) (hu : ∀ t, t < len → u t < len ∧ ∀ s, s < t → u s ≠ u t) :
    Calls Try.prog 7 #[.int .i64 n, .slice A len cap, .slice O len cm] w fun e w' => e = .returned (.tuple #[.bool (agOk E u len), .int .i64 0]) ∧ Below w.heap.size w w' := by
  have HR := Lib.hid hr; clear hr
  have HO := Lib.hid ho; clear ho
  have HM := Lib.hid hm; clear hm
  have HG := Lib.hid hgood; clear hgood
  have HU := Lib.hid hu; clear hu
  have hl : len ≤ 30 := (runCode_ok HG.out).1.2.2
  obtain ⟨n, rfl⟩ := Int.eq_ofNat_of_zero_le (by have := (runCode_ok HG.out).1.1; omega : 0 ≤ n)
  go_enter Try.func7, Try.ntmps7
  go_wp2_with fail
  refine (int_is_b (check_any n A len cap B E w HM.out hB HR.out) HG.out).mono ?_
  rintro e w1 ⟨rfl, hb1⟩
  have HB1 := Lib.hid hb1; clear hb1
  have hnn : ((len : Int) != (len : Int)) = false := by simp
  go_wp2_with fail
  refine (past_any n A len cap w.heap.size E w1 HG.out HB1.out.size ((HR.out.more hB).below HB1.out)).mono ?_
  rintro e w2 ⟨rfl, ho2, hb2⟩
  have HB2 := Lib.hid (HB1.out.trans (hb2.mono HB1.out.size)); clear hb2
  have HP := Lib.hid ho2; clear ho2
  go_wp2
  go_loop [10, 11, 30] (fun sn ok i => ∃ t : Nat, t ≤ len ∧ i = .int .i64 t ∧ sn = .int .u32 (agSeen u t : Nat) ∧ ok = .bool (agOk E u t)) (fun _ _ i => len - (intOf i).toNat)
  case atStart => exact ⟨0, by omega, rfl, rfl, rfl⟩
  case round =>
    obtain ⟨t, ht, rfl, rfl, rfl⟩ := hrel
    by_cases hlt : t < len
    · obtain ⟨ao, rfl, _, hc⟩ := ((HO.out.more hB).below HB2.out) (by omega)
      have hct := hc t hlt
      have hut := (HU.out t hlt).1
      have HSL : Hid (agSeen u t < 4294967296) := by
        have := agSeen_lt (u := u) (t := t) (len := len) (fun s hs => (HU.out s (by omega)).1)
        have h2 : 2 ^ len ≤ 2 ^ 30 := Nat.pow_le_pow_right (by omega) hl
        show _ < _
        omega
      have hns : (bits .and .u32 ((agSeen u t : Int) / 2 ^ u t) 1 == 1) = false := by
        rw [bit_at HSL.out, ← Bool.not_eq_true, agSeen_bit]
        rintro ⟨s, hs, e⟩
        exact (HU.out t hlt).2 s hs e
      have hcp := (HP.out.at1 hut).1
      simp only [pastF, hut, if_true] at hcp
      have HOR := Lib.hid (or_pow (m := u t) HSL.out (by omega))
      have HN : Hid (agOk E u (t + 1) = (agOk E u t && (bits .andNot .u32 (pastW E (u t) : Int) (agSeen u t : Int) == 0))) := rfl
      clear hc
      cases hok : agOk E u t
      all_goals
        have HK := Lib.hid hok; clear hok
        go_wp2
        go_round
        case rel => exact ⟨t + 1, by omega, by go_num, by rw [HOR.out]; rfl, by rw [HN.out, HK.out]; rfl⟩
        case measure => simp [intOf]; omega
    · obtain rfl : t = len := by omega
      go_wp2
      go_ret2
      exact ⟨rfl, HB2.out⟩
theorem again_is (b : Bool) (n : Int) (A O : Option Addr) (len cap cm B : Nat) (E : Ev) (u : Nat → Nat) (w : World) (hm : len ≤ maxLen) (hB : B ≤ w.heap.size) (hr : Rd w B A (len * 3) (evF E)) (ho : Rd w B O len (fun t => .int .i64 (u t : Nat)))
    (hgood : runCode n E len = 0) (hu : ∀ t, t < len → u t < len ∧ ∀ s, s < t → u s ≠ u t) (hb : agOk E u len = b) :
    Calls Try.prog 7 #[.int .i64 n, .slice A len cap, .slice O len cm] w fun e w' => e = .returned (.tuple #[.bool b, .int .i64 0]) ∧ Below w.heap.size w w' := by
  rw [← hb]; exact again_good n A O len cap cm B E u w hm hB hr ho hgood hu
end Go.Proofs.Ythonnpimfidkdaa
