/- Vectors of runs: the plain laws. -/
import Derived.Test.YtkdookhblbjddaaCutMath
import Derived.Test.YtkdookhblbjddaaTicks
set_option linter.unusedVariables false
set_option linter.unusedSimpArgs false
namespace Go.Proofs.Ytkdookhblbjddaa

def vecsE (E : Ev) : Nat → (Int → Nat → Nat) × (Int → Nat → Nat)
  | 0 => (fun _ _ => 0, fun _ _ => 0)
  | j + 1 =>
    let v : Nat → Nat := fun t => (if E.k j = 3 then max ((vecsE E j).1 (E.p j) t) ((vecsE E j).2 (E.m j) t) else (vecsE E j).1 (E.p j) t) + if (t : Int) = E.p j then 1 else 0
    (fun q => if q = E.p j then v else (vecsE E j).1 q, fun x => if E.k j = 2 ∧ x = E.m j then v else (vecsE E j).2 x)
def clkV (E : Ev) (j : Nat) (q : Int) : Nat → Nat := (vecsE E j).1 q
def senV (E : Ev) (j : Nat) (x : Int) : Nat → Nat := (vecsE E j).2 x
/-- Ahead of its own event. -/
def preV (E : Ev) (j : Nat) (t : Nat) : Nat := if E.k j = 3 then max (clkV E j (E.p j) t) (senV E j (E.m j) t) else clkV E j (E.p j) t
def vecV (E : Ev) (j : Nat) (t : Nat) : Nat := preV E j t + if (t : Int) = E.p j then 1 else 0
theorem clkV_zero (E : Ev) (q : Int) : clkV E 0 q = fun _ => 0 := rfl
theorem senV_zero (E : Ev) (x : Int) : senV E 0 x = fun _ => 0 := rfl
theorem clkV_succ (E : Ev) (j : Nat) (q : Int) : clkV E (j + 1) q = if q = E.p j then vecV E j else clkV E j q := rfl
theorem senV_succ (E : Ev) (j : Nat) (x : Int) : senV E (j + 1) x = if E.k j = 2 ∧ x = E.m j then vecV E j else senV E j x := rfl
theorem cntP_own {E : Ev} {i : Nat} {q : Int} (h : E.p i = q) : cntP E q (i + 1) = cntP E q i + 1 := by rw [cntP, if_pos h]
theorem cntP_other {E : Ev} {i : Nat} {q : Int} (h : E.p i ≠ q) : cntP E q (i + 1) = cntP E q i := by rw [cntP, if_neg h]; rfl
theorem cntP_mono (E : Ev) (q : Int) {i j : Nat} (h : i ≤ j) : cntP E q i ≤ cntP E q j := by
  induction h with
  | refl => exact Nat.le_refl _
  | step _ ih => exact Nat.le_trans ih (by rw [cntP]; omega)
/-- Of process q the event number c: there is one, if c are not all. -/
theorem cntP_at (E : Ev) (q : Int) {c j : Nat} (h : c < cntP E q j) : ∃ i, i < j ∧ E.p i = q ∧ cntP E q i = c := by
  induction j with
  | zero => simp [cntP] at h
  | succ j ih =>
    by_cases hc : c < cntP E q j
    · obtain ⟨i, h1, h2⟩ := ih hc
      exact ⟨i, by omega, h2⟩
    · by_cases hp : E.p j = q
      · rw [cntP_own hp] at h
        exact ⟨j, by omega, hp, by omega⟩
      · rw [cntP_other hp] at h; omega
/-- The vectors tell of the words: number by number. -/
structure VOk (E : Ev) (j : Nat) : Prop where
  a : ∀ q i, i < j → ((lastW E j q).testBit i = true ↔ cntP E (E.p i) i < clkV E j q (E.p i).toNat)
  b : ∀ x i, i < j → ((sentW E j x).testBit i = true ↔ cntP E (E.p i) i < senV E j x (E.p i).toNat)
  ca : ∀ q (t : Nat), clkV E j q t ≤ cntP E t j
  cb : ∀ x (t : Nat), senV E j x t ≤ cntP E t j
  d : ∀ q : Nat, clkV E j q q = cntP E q j
theorem testBit_lt {a j i : Nat} (h : a < 2 ^ j) (hi : a.testBit i = true) : i < j := Nat.lt_of_not_le fun hge => by
  rw [Nat.testBit_lt_two_pow (Nat.lt_of_lt_of_le h (Nat.pow_le_pow_right (by omega) hge))] at hi
  cases hi
theorem pre_bit {E : Ev} {j p : Nat} (h : VOk E j) (hp : E.p j = p) {i : Nat} (hi : i < j) : (pastW E j).testBit i = true ↔ cntP E (E.p i) i < preV E j (E.p i).toNat := by
  unfold pastW preV
  by_cases hk : E.k j = 3
  · rw [if_pos hk, if_pos hk, Nat.testBit_or, Bool.or_eq_true, h.a _ i hi, h.b _ i hi]
    omega
  · rw [if_neg hk, if_neg hk, Nat.testBit_or, Nat.zero_testBit, Bool.or_false, h.a _ i hi]
theorem pre_le {E : Ev} {j : Nat} (h : VOk E j) (t : Nat) : preV E j t ≤ cntP E t j := by
  unfold preV
  have := h.ca (E.p j) t
  have := h.cb (E.m j) t
  split <;> omega
theorem pre_own {E : Ev} {j p : Nat} (h : VOk E j) (hp : E.p j = p) : preV E j p = cntP E p j := by
  unfold preV
  rw [hp]
  have h1 := h.d p
  have h2 := h.cb (E.m j) p
  split <;> omega
theorem vec_bit {E : Ev} {j p : Nat} (h : VOk E j) (hp : E.p j = p) (hpos : ∀ i, i < j → 0 ≤ E.p i) {i : Nat} (hi : i < j + 1) : (i = j ∨ (pastW E j).testBit i = true) ↔ cntP E (E.p i) i < vecV E j (E.p i).toNat := by
  unfold vecV
  by_cases hij : i = j
  · subst hij
    rw [hp, Int.toNat_natCast, if_pos rfl, pre_own h hp]
    exact ⟨fun _ => by omega, fun _ => .inl rfl⟩
  · have hlt : i < j := by omega
    have hb := pre_bit h hp hlt
    by_cases he : E.p i = p
    · rw [he, Int.toNat_natCast, pre_own h hp] at hb
      rw [he, Int.toNat_natCast, pre_own h hp, hp, if_pos rfl]
      have h1 := cntP_own he
      have h2 := cntP_mono E p (show i + 1 ≤ j by omega)
      exact ⟨fun _ => by omega, fun _ => .inr (hb.2 (by omega))⟩
    · have h0 := hpos i hlt
      have ht : ¬ (((E.p i).toNat : Nat) : Int) = E.p j := by rw [hp, Int.toNat_of_nonneg h0]; exact he
      rw [if_neg ht, Nat.add_zero, ← hb]
      exact ⟨fun h => h.resolve_left hij, .inr⟩
theorem vec_le {E : Ev} {j p : Nat} (h : VOk E j) (hp : E.p j = p) (t : Nat) : vecV E j t ≤ cntP E t (j + 1) := by
  unfold vecV
  have := pre_le h t
  by_cases ht : (t : Int) = E.p j
  · rw [if_pos ht, cntP_own ht.symm]; omega
  · rw [if_neg ht, cntP_other (fun e => ht e.symm)]; omega
theorem vec_own {E : Ev} {j p : Nat} (h : VOk E j) (hp : E.p j = p) : vecV E j p = cntP E p j + 1 := by
  unfold vecV
  rw [pre_own h hp, hp, if_pos rfl]
theorem vok {E : Ev} {len : Nat} (hpos : ∀ i, i < len → 0 ≤ E.p i) {j : Nat} (hj : j ≤ len) : VOk E j := by
  induction j with
  | zero =>
    refine ⟨fun q i hi => absurd hi (by omega), fun x i hi => absurd hi (by omega), fun q t => Nat.zero_le _, fun x t => Nat.zero_le _, fun q => rfl⟩
  | succ j ih =>
    have h := ih (by omega)
    obtain ⟨p, hp⟩ : ∃ p : Nat, E.p j = p := ⟨(E.p j).toNat, by have := hpos j (by omega); omega⟩
    have hpos' : ∀ i, i < j → 0 ≤ E.p i := fun i hi => hpos i (by omega)
    have hvb := fun {i} (hi : i < j + 1) => vec_bit h hp hpos' hi
    have hw := words_lt E j
    have put : ∀ i, (pastW E j ||| 2 ^ j).testBit i = true ↔ (i = j ∨ (pastW E j).testBit i = true) := fun i => by
      rw [testBit_put]
      constructor
      · rintro (h | h)
        · exact .inr h
        · exact .inl h.symm
      · rintro (h | h)
        · exact .inr h.symm
        · exact .inl h
    refine ⟨fun q i hi => ?_, fun x i hi => ?_, fun q t => ?_, fun x t => ?_, fun q => ?_⟩
    · rw [lastW_succ, clkV_succ]
      by_cases hq : q = E.p j
      · rw [if_pos hq, if_pos hq, put]; exact hvb hi
      · rw [if_neg hq, if_neg hq]
        by_cases hij : i = j
        · subst hij
          constructor
          · intro hb; have := testBit_lt (hw.1 q) hb; omega
          · intro hc
            rw [hp, Int.toNat_natCast] at hc
            have := h.ca q p
            omega
        · exact h.a q i (by omega)
    · rw [sentW_succ, senV_succ]
      by_cases hq : E.k j = 2 ∧ x = E.m j
      · rw [if_pos hq, if_pos hq, put]; exact hvb hi
      · rw [if_neg hq, if_neg hq]
        by_cases hij : i = j
        · subst hij
          constructor
          · intro hb; have := testBit_lt (hw.2.1 x) hb; omega
          · intro hc
            rw [hp, Int.toNat_natCast] at hc
            have := h.cb x p
            omega
        · exact h.b x i (by omega)
    · rw [clkV_succ]
      split
      · exact vec_le h hp t
      · exact Nat.le_trans (h.ca q t) (cntP_mono E t (by omega))
    · rw [senV_succ]
      split
      · exact vec_le h hp t
      · exact Nat.le_trans (h.cb x t) (cntP_mono E t (by omega))
    · rw [clkV_succ]
      by_cases hq : (q : Int) = E.p j
      · rw [if_pos hq]
        obtain rfl : q = p := by rw [hp] at hq; exact Int.ofNat_inj.1 hq
        rw [vec_own h hp, cntP_own hp]
      · rw [if_neg hq, h.d q, cntP_other (fun e => hq e.symm)]
section
variable {E : Ev} {len : Nat} (hpos : ∀ i, i < len → 0 ≤ E.p i)
include hpos
/-- Who is in the past of j, or is j: told by its own number. -/
theorem vec_iff {i j : Nat} (hi : i < len) (hj : j < len) : (i = j ∨ Hb E i j) ↔ cntP E (E.p i) i < vecV E j (E.p i).toNat := by
  have h := vok hpos (show j ≤ len by omega)
  obtain ⟨p, hp⟩ : ∃ p : Nat, E.p j = p := ⟨(E.p j).toNat, by have := hpos j hj; omega⟩
  obtain ⟨q, hq⟩ : ∃ q : Nat, E.p i = q := ⟨(E.p i).toNat, by have := hpos i hi; omega⟩
  rcases Nat.lt_or_ge i (j + 1) with hlt | hge
  · exact vec_bit h hp (fun t ht => hpos t (by omega)) hlt
  · constructor
    · rintro (h1 | h1)
      · omega
      · have := h1.lt; omega
    · intro hc
      rw [hq, Int.toNat_natCast] at hc
      have h1 := vec_le h hp q
      have h2 := cntP_mono E q hge
      omega
theorem vec_own' {j p : Nat} (hj : j < len) (hp : E.p j = p) : vecV E j p = cntP E p j + 1 := vec_own (vok hpos (by omega)) hp
theorem vec_le' {j : Nat} (hj : j < len) (t : Nat) : vecV E j t ≤ cntP E t len := by
  obtain ⟨p, hp⟩ : ∃ p : Nat, E.p j = p := ⟨(E.p j).toNat, by have := hpos j hj; omega⟩
  exact Nat.le_trans (vec_le (vok hpos (by omega)) hp t) (cntP_mono E t (by omega))
/-- One component decides. -/
theorem vec_one {i j p : Nat} (hi : i < len) (hj : j < len) (hp : E.p i = p) (hne : E.p i ≠ E.p j) : Hb E i j ↔ vecV E i p ≤ vecV E j p := by
  have h := vec_iff hpos hi hj
  rw [hp, Int.toNat_natCast] at h
  rw [vec_own' hpos hi hp]
  constructor
  · intro hb; have := h.1 (.inr hb); omega
  · intro hle
    exact (h.2 (by omega)).resolve_left fun e => hne (by rw [e])
theorem vec_mono {i j : Nat} (hi : i < len) (hj : j < len) (h : i = j ∨ Hb E i j) (t : Nat) : vecV E i t ≤ vecV E j t := by
  apply Nat.le_of_not_lt
  intro hlt
  obtain ⟨e, he, hpe, hce⟩ := cntP_at E t (Nat.lt_of_lt_of_le hlt (vec_le' hpos hi t))
  have h1 := (vec_iff hpos he hi).2 (by rw [hpe, Int.toNat_natCast, hce]; exact hlt)
  have h2 : e = j ∨ Hb E e j := by
    rcases h with rfl | h
    · exact h1
    · rcases h1 with rfl | h1
      · exact .inr h
      · exact .inr (h1.trans h)
  have h3 := (vec_iff hpos he hj).1 h2
  rw [hpe, Int.toNat_natCast, hce] at h3
  omega
/-- Ahead just if the vector is less. -/
theorem vec_less {i j n : Nat} (hi : i < len) (hj : j < len) (hn : ∀ t, t < len → E.p t < n) : Hb E i j ↔ (∀ t, t < n → vecV E i t ≤ vecV E j t) ∧ ¬ ∀ t, t < n → vecV E j t ≤ vecV E i t := by
  obtain ⟨p, hp⟩ : ∃ p : Nat, E.p i = p := ⟨(E.p i).toNat, by have := hpos i hi; omega⟩
  obtain ⟨q, hq⟩ : ∃ q : Nat, E.p j = q := ⟨(E.p j).toNat, by have := hpos j hj; omega⟩
  have hpn : p < n := by have := hn i hi; omega
  have hqn : q < n := by have := hn j hj; omega
  constructor
  · intro hb
    refine ⟨fun t _ => vec_mono hpos hi hj (.inr hb) t, fun hall => ?_⟩
    have h1 := hall q hqn
    rw [vec_own' hpos hj hq] at h1
    have h2 := (vec_iff hpos hj hi).2 (by rw [hq, Int.toNat_natCast]; omega)
    rcases h2 with rfl | h2
    · exact Hb.irrefl hb
    · exact Hb.irrefl (hb.trans h2)
  · rintro ⟨h1, h2⟩
    have h3 := h1 p hpn
    rw [vec_own' hpos hi hp] at h3
    refine ((vec_iff hpos hi hj).2 (by rw [hp, Int.toNat_natCast]; omega)).resolve_left fun e => ?_
    subst e
    exact h2 fun t _ => Nat.le_refl _
end
end Go.Proofs.Ytkdookhblbjddaa
