/- Cuts: the plain laws. -/
import Derived.Test.YthonnpimfidkdaaRunMath
set_option linter.unusedVariables false
set_option linter.unusedSimpArgs false
namespace Go.Proofs.Ythonnpimfidkdaa

/-- How many of the first j events are of process q? -/
def cntP (E : Ev) (q : Int) : Nat → Nat
  | 0 => 0
  | j + 1 => cntP E q j + if E.p j = q then 1 else 0
def inC (E : Ev) (c : Nat → Int) (j : Nat) : Bool := decide ((cntP E (E.p j) j : Int) < c (E.p j).toNat)
def cutS (E : Ev) (c : Nat → Int) : Nat → Nat
  | 0 => 0
  | j + 1 => if inC E c j then cutS E c j ||| 2 ^ j else cutS E c j
def hvE (E : Ev) (c : Nat → Int) (j q : Nat) : Nat := min (cntP E q j) (c q).toNat
section
variable {E : Ev} {c : Nat → Int}
theorem cntP_le (E : Ev) (q : Int) (j : Nat) : cntP E q j ≤ j := by
  induction j with
  | zero => exact Nat.le_refl _
  | succ j ih => rw [cntP]; split <;> omega
theorem hvE_le (E : Ev) (c : Nat → Int) (j q : Nat) : hvE E c j q ≤ j := Nat.le_trans (Nat.min_le_left _ _) (cntP_le _ _ _)
theorem cutS_bit (E : Ev) (c : Nat → Int) (j i : Nat) : (cutS E c j).testBit i = true ↔ i < j ∧ inC E c i = true := by
  induction j with
  | zero => simp [cutS]
  | succ j ih =>
    rw [cutS]
    cases hc : inC E c j
    · rw [if_neg (by simp), ih]
      constructor
      · rintro ⟨h1, h2⟩; exact ⟨by omega, h2⟩
      · rintro ⟨h1, h2⟩
        refine ⟨?_, h2⟩
        rcases Nat.lt_succ_iff_lt_or_eq.1 h1 with h | rfl
        · exact h
        · rw [hc] at h2; cases h2
    · rw [if_pos rfl, testBit_put, ih]
      constructor
      · rintro (⟨h1, h2⟩ | rfl)
        · exact ⟨by omega, h2⟩
        · exact ⟨by omega, hc⟩
      · rintro ⟨h1, h2⟩
        rcases Nat.lt_succ_iff_lt_or_eq.1 h1 with h | rfl
        · exact .inl ⟨h, h2⟩
        · exact .inr rfl
theorem cutS_lt (E : Ev) (c : Nat → Int) (j : Nat) : cutS E c j < 2 ^ j := Nat.lt_pow_two_of_testBit _ fun i hi => by
  cases ht : (cutS E c j).testBit i
  · rfl
  · have := ((cutS_bit E c j i).1 ht).1; omega
theorem inC_iff {j q : Nat} (hq : E.p j = q) : inC E c j = true ↔ (hvE E c j q : Int) < c q := by
  unfold inC hvE
  rw [decide_eq_true_iff, hq, Int.toNat_natCast]
  omega
theorem hvE_step {j q : Nat} (hq : E.p j = q) (t : Nat) : hvE E c (j + 1) t = if t = q ∧ inC E c j = true then hvE E c j t + 1 else hvE E c j t := by
  by_cases ht : t = q
  · subst ht
    have e : cntP E t (j + 1) = cntP E t j + 1 := by rw [cntP, if_pos hq]
    by_cases hc : inC E c j = true
    · rw [if_pos ⟨rfl, hc⟩]
      have := (inC_iff hq).1 hc
      unfold hvE at this ⊢
      omega
    · rw [if_neg (fun h => hc h.2)]
      have := mt (inC_iff hq).2 hc
      unfold hvE at this ⊢
      omega
  · rw [if_neg (fun h => ht h.1)]
    have e : cntP E t (j + 1) = cntP E t j := by
      rw [cntP, if_neg (fun h => ht (by rw [hq] at h; exact (Int.ofNat_inj.1 h).symm))]
      rfl
    unfold hvE
    rw [e]
theorem hvE_zero (E : Ev) (c : Nat → Int) (q : Nat) : hvE E c 0 q = 0 := by simp [hvE, cntP]
def CutOk (n : Nat) (E : Ev) (len : Nat) (c : Nat → Int) (m : Nat) : Prop := m = n ∧ ∀ q, q < n → 0 ≤ c q ∧ c q ≤ cntP E q len
theorem have_eq {n len : Nat} (h : ∀ q, q < n → 0 ≤ c q) : anyTo (fun q => (hvE E c len q : Int) != c q) n = false ↔ ∀ q, q < n → c q ≤ cntP E q len := by
  rw [anyTo_no]
  refine forall_congr' fun q => forall_congr' fun hq => ?_
  have := h q hq
  rw [bne_eq_false_iff_eq]
  unfold hvE
  omega
/-- Whole: all that are ahead are in it. -/
def Whole (E : Ev) (S len : Nat) : Prop := ∀ i, i < len → S.testBit i = true → ∀ a, Hb E a i → S.testBit a = true
/-- Is the cut whole? -/
def WholeC (E : Ev) (c : Nat → Int) (len : Nat) : Prop := ∀ i, i < len → inC E c i = true → ∀ a, Hb E a i → inC E c a = true
theorem whole_cut (E : Ev) (c : Nat → Int) (len : Nat) : Whole E (cutS E c len) len ↔ WholeC E c len := by
  constructor
  · intro h i hi hc a ha
    exact ((cutS_bit E c len a).1 (h i hi ((cutS_bit E c len i).2 ⟨hi, hc⟩) a ha)).2
  · intro h i hi hc a ha
    have h1 := (cutS_bit E c len i).1 hc
    exact (cutS_bit E c len a).2 ⟨by have := ha.lt; omega, h i hi h1.2 a ha⟩
theorem inC_max (a b : Nat → Int) (j : Nat) : inC E (fun q => if a q < b q then b q else a q) j = (inC E a j || inC E b j) := by
  unfold inC
  rw [Bool.eq_iff_iff, Bool.or_eq_true]
  simp only [decide_eq_true_iff]
  split <;> omega
theorem inC_min (a b : Nat → Int) (j : Nat) : inC E (fun q => if a q < b q then a q else b q) j = (inC E a j && inC E b j) := by
  unfold inC
  rw [Bool.eq_iff_iff, Bool.and_eq_true]
  simp only [decide_eq_true_iff]
  split <;> omega
theorem inC_zero (j : Nat) : inC E (fun _ => 0) j = false := by
  unfold inC
  rw [decide_eq_false_iff_not]
  dsimp only
  omega
theorem whole_max {a b : Nat → Int} {len : Nat} (ha : WholeC E a len) (hb : WholeC E b len) : WholeC E (fun q => if a q < b q then b q else a q) len := by
  intro i hi hc x hx
  rw [inC_max, Bool.or_eq_true] at hc ⊢
  exact hc.imp (fun h => ha i hi h x hx) (fun h => hb i hi h x hx)
theorem whole_min {a b : Nat → Int} {len : Nat} (ha : WholeC E a len) (hb : WholeC E b len) : WholeC E (fun q => if a q < b q then a q else b q) len := by
  intro i hi hc x hx
  rw [inC_min, Bool.and_eq_true] at hc ⊢
  exact ⟨ha i hi hc.1 x hx, hb i hi hc.2 x hx⟩
theorem whole_zero (len : Nat) : WholeC E (fun _ => 0) len := by
  intro i _ hc
  rw [inC_zero] at hc; cases hc
theorem cutOk_max {n len : Nat} {a b : Nat → Int} (ha : CutOk n E len a n) (hb : CutOk n E len b n) : CutOk n E len (fun q => if a q < b q then b q else a q) n := by
  refine ⟨rfl, fun q hq => ?_⟩
  have := ha.2 q hq
  have := hb.2 q hq
  dsimp only
  split <;> omega
theorem cutOk_min {n len : Nat} {a b : Nat → Int} (ha : CutOk n E len a n) (hb : CutOk n E len b n) : CutOk n E len (fun q => if a q < b q then a q else b q) n := by
  refine ⟨rfl, fun q hq => ?_⟩
  have := ha.2 q hq
  have := hb.2 q hq
  dsimp only
  split <;> omega
theorem cutOk_zero (n : Nat) (E : Ev) (len : Nat) : CutOk n E len (fun _ => 0) n := ⟨rfl, fun q _ => ⟨Int.le_refl _, by show (0 : Int) ≤ _; omega⟩⟩
end
end Go.Proofs.Ythonnpimfidkdaa
