/- The two checks of crashes, walked: both answer with the code 'crCode'. -/
import Derived.Test.YteocheaihbifaaaFlMath
import Derived.Test.YteocheaihbifaaaRecK
import Derived.Test.YteocheaihbifaaaText
set_option linter.unusedVariables false
set_option linter.unusedSimpArgs false
namespace Go.Proofs.Yteocheaihbifaaa
open Go.RowKit

section
variable (n m : Nat) (R : Int) (p r : Nat → Int) (q : Nat → Nat)
def crSize : Prop := (1 ≤ n ∧ n ≤ 6) ∧ 0 ≤ R ∧ R ≤ 8
instance : Decidable (crSize n R) := by unfold crSize; exact inferInstance
def crP (i : Nat) : Bool := decide (p i < 0 ∨ (n : Int) ≤ p i)
def crR (i : Nat) : Bool := decide (r i < 1 ∨ R < r i ∨ 2 ^ n ≤ q i)
def crT (i : Nat) : Bool := anyTo (fun j => p j == p i) i
def crCode : Int := if crSize n R then (if anyTo (crP n p) m then 2 else if anyTo (crR n R r q) m then 4 else if anyTo (crT p) m then 3 else 0) else 1
end
section
variable {n m : Nat} {R : Int} {p r : Nat → Int} {q : Nat → Nat}
theorem crCode_size (h : ¬ crSize n R) : crCode n m R p r q = 1 := by rw [crCode, if_neg h]
theorem crCode_P (h : crSize n R) {i : Nat} (hi : i < m) (hp : crP n p i = true) : crCode n m R p r q = 2 := by rw [crCode, if_pos h, if_pos (anyTo_iff.2 ⟨i, hi, hp⟩)]
theorem crCode_R (h : crSize n R) (h1 : ∀ i, i < m → crP n p i = false) {i : Nat} (hi : i < m) (hp : crR n R r q i = true) : crCode n m R p r q = 4 := by
  rw [crCode, if_pos h, if_neg (by rw [anyTo_no.2 h1]; simp), if_pos (anyTo_iff.2 ⟨i, hi, hp⟩)]
theorem crCode_T (h : crSize n R) (h1 : ∀ i, i < m → crP n p i = false) (h2 : ∀ i, i < m → crR n R r q i = false) {i : Nat} (hi : i < m) (hp : crT p i = true) : crCode n m R p r q = 3 := by
  rw [crCode, if_pos h, if_neg (by rw [anyTo_no.2 h1]; simp), if_neg (by rw [anyTo_no.2 h2]; simp), if_pos (anyTo_iff.2 ⟨i, hi, hp⟩)]
theorem crCode_0 (h : crSize n R) (h1 : ∀ i, i < m → crP n p i = false) (h2 : ∀ i, i < m → crR n R r q i = false) (h3 : ∀ i, i < m → crT p i = false) : crCode n m R p r q = 0 := by
  rw [crCode, if_pos h, if_neg (by rw [anyTo_no.2 h1]; simp), if_neg (by rw [anyTo_no.2 h2]; simp), if_neg (by rw [anyTo_no.2 h3]; simp)]
theorem crCode_good (h : crCode n m R p r q = 0) : crSize n R ∧ (∀ i, i < m → 0 ≤ p i ∧ p i < n) ∧ (∀ i, i < m → 1 ≤ r i ∧ r i ≤ R ∧ q i < 2 ^ n) ∧ ∀ i j, i < m → j < i → p i ≠ p j := by
  unfold crCode at h
  split at h
  case isFalse => cases h
  rename_i hs
  split at h
  case isTrue => cases h
  rename_i h1
  split at h
  case isTrue => cases h
  rename_i h2
  split at h
  case isTrue => cases h
  rename_i h3
  rw [Bool.not_eq_true, anyTo_no] at h1 h2 h3
  refine ⟨hs, fun i hi => ?_, fun i hi => ?_, fun i j hi hj e => ?_⟩
  · have := h1 i hi; simp only [crP, decide_eq_false_iff_not] at this; omega
  · have := h2 i hi; simp only [crR, decide_eq_false_iff_not] at this; omega
  · have := anyTo_no.1 (h3 i hi) j hj
    simp [e] at this
theorem crs_ok (h : crCode n m R p r q = 0) : (⟨n, m, R.toNat, fun i => (p i).toNat, fun i => (r i).toNat, q⟩ : Crs).Ok := by
  obtain ⟨⟨h1, h2⟩, h3, h4, h5⟩ := crCode_good h
  refine ⟨h1.1, h1.2, by simp only; omega, fun i hi => ?_, fun i hi => ?_, fun i hi => (h4 i hi).2.2, fun i j hi hj => ?_⟩
  · have := h3 i hi; simp only; omega
  · have := h4 i hi; simp only; omega
  · have := h5 i j hi hj; have h6 := h3 i hi; have h7 := h3 j (Nat.lt_trans hj hi); simp only; omega
end
theorem snoc_all {P : Nat → Bool} {k : Nat} (h : ∀ j, j < k → P j = false) (hk : P k = false) : ∀ j, j < k + 1 → P j = false := fun j hj => (Nat.lt_succ_iff_lt_or_eq.1 hj).elim (h j) (fun e => by subst e; exact hk)

theorem shr_ne {a n : Nat} (h : 2 ^ n ≤ a) : ((a : Int) / 2 ^ n != 0) = true := by
  cases hz : ((a : Int) / 2 ^ n != 0)
  · have h2 : (a : Int) / 2 ^ n = 0 := by simpa using hz
    have e : ((2 : Int) ^ n) = ((2 ^ n : Nat) : Int) := by simp
    rw [e] at h2
    have h2 : a / 2 ^ n = 0 := by exact_mod_cast h2
    have := (Nat.div_eq_zero_iff.1 h2).resolve_left (by have := Nat.two_pow_pos n; omega)
    omega
  · rfl
theorem shr_no {a n : Nat} (h : a < 2 ^ n) : ((a : Int) / 2 ^ n != 0) = false := by
  have h2 : a / 2 ^ n = 0 := Nat.div_eq_of_lt h
  have : (a : Int) / 2 ^ n = 0 := by
    have e : ((2 : Int) ^ n) = ((2 ^ n : Nat) : Int) := by simp
    rw [e]; exact_mod_cast h2
  rw [this]; rfl
/-- The closure: is it the same process? -/
theorem same_any (o : Int) (x y : Value) (pc : Int) (b : Nat) (w : World) (c : Bool) (hb : w.cell? ⟨b, 0, none⟩ = some (.int .i64 pc)) (hc : (o == pc) = c) :
    Calls Try.prog 15 #[.agg #[.int .i64 o, x, y], .pointer (some ⟨b, 0, none⟩)] w fun e w' => e = .returned (.bool c) ∧ Below w.heap.size w w' := by
  have HB := Lib.hid hb; clear hb
  have hb1 : ∀ ob, (w.alloc ob).cell? ⟨b, 0, none⟩ = some (.int .i64 pc) := fun ob => by
    rw [World.cell?_alloc_lt _ _ _ (World.block_lt_of_cell? w _ HB.out)]; exact HB.out
  go_enter Try.func15, Try.ntmps15
  go_wp2
  go_ret
  exact ⟨rfl, (Below.refl _ _).alloc (Nat.le_refl _) _⟩

set_option maxHeartbeats 400000 in
theorem idx_any (pc : Int) (b : Nat) (A : Option Addr) (k cap B : Nat) (p r : Nat → Int) (q : Nat → Nat) (w : World) (hm : k ≤ maxLen) (hB : B ≤ w.heap.size) (hr : Rd w B A (k * 3) (crF p r (fun i => (q i : Nat)))) (hb : w.cell? ⟨b, 0, none⟩ = some (.int .i64 pc)) :
    Calls Try.prog 17 #[.slice A k cap, .func (.func 15) #[] #[.pointer (some ⟨b, 0, none⟩)]] w
      (Gives fun v w' => ∃ i : Int, v = .int .i64 i ∧ decide (0 ≤ i) = anyTo (fun j => p j == pc) k ∧ Below w.heap.size w w') := by
  unfold maxLen at hm
  have HR := Lib.hid hr; clear hr
  have hbl := World.block_lt_of_cell? w _ hb
  have HB := Lib.hid hb; clear hb
  have HL := Lib.hid hbl; clear hbl
  have HBB := Lib.hid hB; clear hB
  go_enter Try.func17, Try.ntmps17
  go_wp2
  go_loopw [8] (fun i wr => ∃ j : Nat, j ≤ k ∧ i = .int .i64 j ∧ Hid (∀ t, t < j → (fun j => p j == pc) t = false) ∧ Hid (Below w.heap.size w wr)) (fun i _ => k - (intOf i).toNat)
  case atStart => exact ⟨0, by omega, rfl, fun j hj => absurd hj (by omega), Below.refl _ _⟩
  case round =>
    obtain ⟨j, hk, rfl, HA, HW⟩ := hrel
    by_cases hlt : j < k
    · obtain ⟨ad, rfl, _, c0, c1, c2⟩ := ((HR.out.more HBB.out).below HW.out).crs hlt
      cases hq : (p j == pc)
      · have HQ := Lib.hid hq
        clear hq
        go_wp2_with fail
        refine (same_any (p j) _ _ pc b _ false ((HW.out.cell (p := ⟨b, 0, none⟩) HL.out).trans HB.out) HQ.out).mono ?_
        rintro e w1 ⟨rfl, hw1⟩
        have HW1 := Lib.hid (HW.out.trans (hw1.mono HW.out.size)); clear hw1
        go_wp2
        go_roundw
        case rel => exact ⟨j + 1, by omega, by go_num, snoc_all HA.out HQ.out, HW1.out⟩
        case measure => simp [intOf]; omega
      · have HQ := Lib.hid hq
        have HK : Hid (anyTo (fun j => p j == pc) k = true) := anyTo_iff.2 ⟨j, hlt, hq⟩
        clear hq
        go_wp2_with fail
        refine (same_any (p j) _ _ pc b _ true ((HW.out.cell (p := ⟨b, 0, none⟩) HL.out).trans HB.out) HQ.out).mono ?_
        rintro e w1 ⟨rfl, hw1⟩
        have HW1 := Lib.hid (HW.out.trans (hw1.mono HW.out.size)); clear hw1
        go_wp2
        go_ret
        exact ⟨_, rfl, _, rfl, by rw [HK.out]; simp, HW1.out⟩
    · obtain rfl : j = k := by omega
      have HK : Hid (anyTo (fun j => p j == pc) j = false) := anyTo_no.2 HA.out
      go_wp2
      go_ret
      exact ⟨_, rfl, _, rfl, by rw [HK.out]; simp, HW.out⟩
theorem cont_any (pc : Int) (b : Nat) (A : Option Addr) (k cap B : Nat) (p r : Nat → Int) (q : Nat → Nat) (w : World) (c : Bool) (hm : k ≤ maxLen) (hB : B ≤ w.heap.size) (hr : Rd w B A (k * 3) (crF p r (fun i => (q i : Nat)))) (hb : w.cell? ⟨b, 0, none⟩ = some (.int .i64 pc)) (hc : anyTo (fun j => p j == pc) k = c) :
    Calls Try.prog 14 #[.slice A k cap, .func (.func 15) #[] #[.pointer (some ⟨b, 0, none⟩)]] w fun e w' => e = .returned (.bool c) ∧ Below w.heap.size w w' := by
  have HI := Lib.hid (idx_any pc b A k cap B p r q w hm hB hr hb); clear hr hm
  have HC := Lib.hid hc; clear hc
  go_enter Try.func14, Try.ntmps14
  go_wp2_with fail
  refine HI.out.mono ?_
  rintro e w1 ⟨v, rfl, i, rfl, hi, hw⟩
  have HJ := Lib.hid hi; clear hi
  have HW := Lib.hid hw; clear hw
  go_wp2
  go_ret
  exact ⟨ret_bool (HJ.out.trans HC.out), HW.out⟩

set_option maxRecDepth 100000 in
set_option maxHeartbeats 1600000 in
theorem wrong_any (A0 : Option Addr) (n cap0 : Nat) (A : Option Addr) (m cap B : Nat) (R : Int) (p r : Nat → Int) (q : Nat → Nat) (w : World) (hm : m ≤ cap ∧ cap ≤ maxLen) (hB : B ≤ w.heap.size) (hn : n ≤ maxLen) (hr : Rd w B A (m * 3) (crF p r (fun i => (q i : Nat)))) :
    Calls Try.prog 11 #[.slice A0 n cap0, .slice A m cap, .int .i64 R] w fun e w' => e = .returned (.int .i64 (crCode n m R p r q)) ∧ Below w.heap.size w w' := by
  obtain ⟨hmc, hcm⟩ := hm
  unfold maxLen at hcm hn
  have HR := Lib.hid (hr.more hB); clear hr hB
  by_cases hs : crSize n R
  · have HS := Lib.hid hs
    obtain ⟨⟨h1, h6⟩, hR0, hR8⟩ := hs
    go_enter Try.func11, Try.ntmps11
    go_wp2
    go_loopw [32] (fun i wr => ∃ j : Nat, j ≤ m ∧ i = .int .i64 j ∧ Hid (∀ t, t < j → crP n p t = false) ∧ Hid (Below w.heap.size w wr)) (fun i _ => m - (intOf i).toNat)
    case atStart => exact ⟨0, by omega, rfl, fun j hj => absurd hj (by omega), Below.refl _ _⟩
    case round =>
      obtain ⟨j, hk, rfl, HA, HW⟩ := hrel
      by_cases hlt : j < m
      · obtain ⟨ad, rfl, _, c0, c1, c2⟩ := (HR.out.below HW.out).crs hlt
        have HW1 : Hid (∀ o, Below w.heap.size w (wr.alloc o)) := fun o => HW.out.alloc HW.out.size o
        by_cases hp : p j < 0 ∨ (n : Int) ≤ p j
        · have HK := Lib.hid (crCode_P (m := m) (r := r) (q := q) HS.out hlt (by simp only [crP]; exact decide_eq_true hp))
          go_wp2
          all_goals first | (go_ret; exact ⟨ret_int HK.out.symm, HW1.out _⟩) | (exfalso; omega)
        · have HQ : Hid (crP n p j = false) := by show crP n p j = false; simp only [crP]; exact decide_eq_false hp
          have hp1 : 0 ≤ p j := by omega
          have hp2 : p j < n := by omega
          clear hp
          go_wp2
          go_roundw
          case rel => exact ⟨j + 1, by omega, by go_num, snoc_all HA.out HQ.out, HW1.out _⟩
          case measure => simp [intOf]; omega
      · obtain rfl : j = m := by omega
        go_wp2
        go_loopw [48] (fun i wr => ∃ k : Nat, k ≤ j ∧ i = .int .i64 k ∧ Hid (∀ t, t < k → crR n R r q t = false) ∧ Hid (Below w.heap.size w wr)) (fun i _ => j - (intOf i).toNat)
        case atStart => exact ⟨0, by omega, rfl, fun j hj => absurd hj (by omega), HW.out⟩
        case round =>
          clear HW
          obtain ⟨k, hk2, rfl, HA2, HW⟩ := hrel
          by_cases hlt : k < j
          · obtain ⟨ad, rfl, _, c0, c1, c2⟩ := (HR.out.below HW.out).crs hlt
            have HW1 : Hid (∀ o, Below w.heap.size w (‹World›.alloc o)) := fun o => HW.out.alloc HW.out.size o
            by_cases hp : r k < 1 ∨ R < r k ∨ 2 ^ n ≤ q k
            · have HK := Lib.hid (crCode_R HS.out HA.out hlt (by simp only [crR]; exact decide_eq_true hp))
              by_cases hp1 : r k < 1 ∨ R < r k
              · clear hp
                go_wp2
                all_goals first | (go_ret; exact ⟨ret_int HK.out.symm, HW1.out _⟩) | (exfalso; omega)
              · have hq := shr_ne (by omega : 2 ^ n ≤ q k)
                have hp2 : 1 ≤ r k := by omega
                have hp3 : r k ≤ R := by omega
                clear hp hp1
                go_wp2
                all_goals first | (go_ret; exact ⟨ret_int HK.out.symm, HW1.out _⟩) | (exfalso; omega)
            · have HQ : Hid (crR n R r q k = false) := by show crR n R r q k = false; simp only [crR]; exact decide_eq_false hp
              have hp1 : 1 ≤ r k := by omega
              have hp2 : r k ≤ R := by omega
              have hq := shr_no (by omega : q k < 2 ^ n)
              clear hp
              go_wp2
              go_roundw
              case rel => exact ⟨k + 1, by omega, by go_num, snoc_all HA2.out HQ.out, HW1.out _⟩
              case measure => simp [intOf]; omega
          · obtain rfl : k = j := by omega
            go_wp2
            go_loopw [71] (fun i wr => ∃ l : Nat, l ≤ k ∧ i = .int .i64 l ∧ Hid (∀ t, t < l → crT p t = false) ∧ Hid (Below w.heap.size w wr)) (fun i _ => k - (intOf i).toNat)
            case atStart => exact ⟨0, by omega, rfl, fun j hj => absurd hj (by omega), HW.out⟩
            case round =>
              clear HW
              obtain ⟨l, hk3, rfl, HA3, HW⟩ := hrel
              by_cases hlt : l < k
              · obtain ⟨ad, rfl, _, c0, c1, c2⟩ := (HR.out.below HW.out).crs hlt
                cases hq : crT p l
                · have HQ := Lib.hid hq; clear hq
                  go_wp2_with fail
                  refine (cont_any (p l) _ _ l _ w.heap.size p r q _ false (by unfold maxLen; omega) (by have := HW.out.size; simp; omega) (((HR.out.below HW.out).less (by omega)).below ((Below.refl _ _).alloc HW.out.size _)) (by simp) HQ.out).mono ?_
                  rintro e w1 ⟨rfl, hw1⟩
                  have HW1 := Lib.hid ((HW.out.alloc HW.out.size _).trans (hw1.mono (by have := HW.out.size; simp; omega))); clear hw1
                  go_wp2
                  go_roundw
                  case rel => exact ⟨l + 1, by omega, by go_num, snoc_all HA3.out HQ.out, HW1.out⟩
                  case measure => simp [intOf]; omega
                · have HQ := Lib.hid hq
                  have HK := Lib.hid (crCode_T HS.out HA.out HA2.out hlt hq); clear hq
                  go_wp2_with fail
                  refine (cont_any (p l) _ _ l _ w.heap.size p r q _ true (by unfold maxLen; omega) (by have := HW.out.size; simp; omega) (((HR.out.below HW.out).less (by omega)).below ((Below.refl _ _).alloc HW.out.size _)) (by simp) HQ.out).mono ?_
                  rintro e w1 ⟨rfl, hw1⟩
                  have HW1 := Lib.hid ((HW.out.alloc HW.out.size _).trans (hw1.mono (by have := HW.out.size; simp; omega))); clear hw1
                  go_wp2
                  go_ret
                  exact ⟨ret_int HK.out.symm, HW1.out⟩
              · obtain rfl : l = k := by omega
                have HK := Lib.hid (crCode_0 HS.out HA.out HA2.out HA3.out)
                go_wp2
                go_ret
                exact ⟨ret_int HK.out.symm, HW.out⟩
  · have HK := Lib.hid (crCode_size (m := m) (p := p) (r := r) (q := q) hs)
    have hs' : n < 1 ∨ 6 < n ∨ R < 0 ∨ 8 < R := by unfold crSize at hs; omega
    clear hs
    go_enter Try.func11, Try.ntmps11
    go_wp2
    all_goals first | (go_ret; exact ⟨ret_int HK.out.symm, Below.refl _ _⟩) | (exfalso; omega)
end Go.Proofs.Yteocheaihbifaaa
