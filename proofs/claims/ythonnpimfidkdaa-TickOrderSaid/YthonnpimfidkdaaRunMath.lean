/- Runs in plain words: the code of a check; of each event the word of those ahead of it. -/
import Derived.Test.YthonnpimfidkdaaBits
set_option linter.unusedVariables false
set_option linter.unusedSimpArgs false
namespace Go.Proofs.Ythonnpimfidkdaa

/-- A run's events: process, kind and message of each. -/
structure Ev where
  p : Nat → Int
  k : Nat → Int
  m : Nat → Int

/-- The state of each message behind the first j events. -/
def stE (E : Ev) : Nat → Int → Int
  | 0, _ => 0
  | j + 1, x => if E.k j ≠ 1 ∧ x = E.m j then stE E j x + 1 else stE E j x
/-- What is wrong with event j, if all ahead of it are right. -/
def evCode (n : Int) (E : Ev) (j : Nat) : Int :=
  if E.p j < 0 ∨ n ≤ E.p j then 2 else if E.k j < 1 ∨ 3 < E.k j then 6 else if E.k j = 1 then 0 else if E.m j < 0 ∨ 20 < E.m j then 4 else if stE E j (E.m j) ≠ E.k j - 2 then 3 else 0
def firstCode (c : Nat → Int) : Nat → Int
  | 0 => 0
  | j + 1 => if firstCode c j = 0 then c j else firstCode c j
def runSize (n : Int) (len : Nat) : Prop := 1 ≤ n ∧ n ≤ 6 ∧ len ≤ 30
instance (n : Int) (len : Nat) : Decidable (runSize n len) := by unfold runSize; infer_instance
def runCode (n : Int) (E : Ev) (len : Nat) : Int := if runSize n len then firstCode (evCode n E) len else 1

theorem firstCode_zero {c : Nat → Int} {j : Nat} : firstCode c j = 0 ↔ ∀ i, i < j → c i = 0 := by
  induction j with
  | zero => simp [firstCode]
  | succ j ih =>
    rw [firstCode]
    by_cases h : firstCode c j = 0
    · rw [if_pos h]
      constructor
      · intro hc i hi
        rcases Nat.lt_succ_iff_lt_or_eq.1 hi with h1 | rfl
        · exact ih.1 h i h1
        · exact hc
      · intro hh; exact hh j (by omega)
    · rw [if_neg h]
      constructor
      · intro hc; exact absurd hc h
      · intro hh; exact absurd (ih.2 fun i hi => hh i (by omega)) h
theorem firstCode_hit {c : Nat → Int} {j n : Nat} (hj : j < n) (h : ∀ i, i < j → c i = 0) (hc : c j ≠ 0) : firstCode c n = c j := by
  induction n with
  | zero => omega
  | succ n ih =>
    rw [firstCode]
    rcases Nat.lt_succ_iff_lt_or_eq.1 hj with h1 | rfl
    · rw [ih h1, if_neg hc]
    · rw [if_pos (firstCode_zero.2 h)]
theorem runCode_size {n : Int} {E : Ev} {len : Nat} (h : ¬ runSize n len) : runCode n E len = 1 := if_neg h
theorem runCode_hit {n : Int} {E : Ev} {len j : Nat} (h : runSize n len) (hj : j < len) (ha : ∀ i, i < j → evCode n E i = 0) (hc : evCode n E j ≠ 0) : runCode n E len = evCode n E j := by
  rw [runCode, if_pos h, firstCode_hit hj ha hc]
theorem runCode_good {n : Int} {E : Ev} {len : Nat} (h : runSize n len) (ha : ∀ i, i < len → evCode n E i = 0) : runCode n E len = 0 := by
  rw [runCode, if_pos h, firstCode_zero.2 ha]
theorem runCode_ok {n : Int} {E : Ev} {len : Nat} (h : runCode n E len = 0) : runSize n len ∧ ∀ i, i < len → evCode n E i = 0 := by
  by_cases hs : runSize n len
  · rw [runCode, if_pos hs] at h
    exact ⟨hs, firstCode_zero.1 h⟩
  · rw [runCode_size hs] at h; cases h
theorem evCode_ok {n : Int} {E : Ev} {j : Nat} (h : evCode n E j = 0) : (0 ≤ E.p j ∧ E.p j < n) ∧ (1 ≤ E.k j ∧ E.k j ≤ 3) ∧ (E.k j ≠ 1 → (0 ≤ E.m j ∧ E.m j ≤ 20) ∧ stE E j (E.m j) = E.k j - 2) := by
  unfold evCode at h
  by_cases h1 : E.p j < 0 ∨ n ≤ E.p j
  · rw [if_pos h1] at h; cases h
  · rw [if_neg h1] at h
    by_cases h2 : E.k j < 1 ∨ 3 < E.k j
    · rw [if_pos h2] at h; cases h
    · rw [if_neg h2] at h
      refine ⟨by omega, by omega, fun hk => ?_⟩
      rw [if_neg hk] at h
      by_cases h3 : E.m j < 0 ∨ 20 < E.m j
      · rw [if_pos h3] at h; cases h
      · rw [if_neg h3] at h
        by_cases h4 : stE E j (E.m j) ≠ E.k j - 2
        · rw [if_pos h4] at h; cases h
        · exact ⟨by omega, by omega⟩
theorem evCode_mk {n : Int} {E : Ev} {j : Nat} (h1 : 0 ≤ E.p j ∧ E.p j < n) (h2 : 1 ≤ E.k j ∧ E.k j ≤ 3) (h3 : E.k j ≠ 1 → (0 ≤ E.m j ∧ E.m j ≤ 20) ∧ stE E j (E.m j) = E.k j - 2) : evCode n E j = 0 := by
  unfold evCode
  rw [if_neg (by omega), if_neg (by omega)]
  by_cases hk : E.k j = 1
  · rw [if_pos hk]
  · rw [if_neg hk, if_neg (by have := (h3 hk).1; omega), if_neg (by have := (h3 hk).2; omega)]

/-- How many of the first i events are of kind q with message x. -/
def cntE (E : Ev) (q x : Int) : Nat → Nat
  | 0 => 0
  | i + 1 => if E.k i = q ∧ E.m i = x then cntE E q x i + 1 else cntE E q x i
theorem stE_cnt {n : Int} {E : Ev} {j : Nat} (h : ∀ i, i < j → evCode n E i = 0) (x : Int) : stE E j x = (cntE E 2 x j : Int) + cntE E 3 x j ∧ cntE E 3 x j ≤ cntE E 2 x j ∧ cntE E 2 x j ≤ 1 := by
  induction j with
  | zero => simp [stE, cntE]
  | succ j ih =>
    obtain ⟨e1, e2, e3⟩ := ih fun i hi => h i (by omega)
    obtain ⟨_, hk, hm⟩ := evCode_ok (h j (by omega))
    rw [stE, cntE, cntE]
    by_cases hx : x = E.m j
    · subst hx
      rcases (by omega : E.k j = 1 ∨ E.k j = 2 ∨ E.k j = 3) with h1 | h1 | h1
      · rw [if_neg (by omega), if_neg (by omega), if_neg (by omega)]; exact ⟨e1, e2, e3⟩
      · have := (hm (by omega)).2
        rw [if_pos ⟨by omega, rfl⟩, if_pos ⟨h1, rfl⟩, if_neg (by omega)]
        omega
      · have := (hm (by omega)).2
        rw [if_pos ⟨by omega, rfl⟩, if_neg (by omega), if_pos ⟨h1, rfl⟩]
        omega
    · rw [if_neg (fun h => hx h.2), if_neg (fun h => hx h.2.symm), if_neg (fun h => hx h.2.symm)]
      exact ⟨e1, e2, e3⟩
theorem stE_bd {n : Int} {E : Ev} {j : Nat} (h : ∀ i, i < j → evCode n E i = 0) (x : Int) : 0 ≤ stE E j x ∧ stE E j x ≤ 2 := by
  have := stE_cnt h x
  omega

/- Words: of each process that of its last event and all ahead of it; of each message that of its sending and all ahead of it. -/
def wordsE (E : Ev) : Nat → (Int → Nat) × (Int → Nat)
  | 0 => (fun _ => 0, fun _ => 0)
  | j + 1 => (fun q => if q = E.p j then ((wordsE E j).1 (E.p j) ||| (if E.k j = 3 then (wordsE E j).2 (E.m j) else 0)) ||| 2 ^ j else (wordsE E j).1 q,
      fun x => if E.k j = 2 ∧ x = E.m j then ((wordsE E j).1 (E.p j) ||| (if E.k j = 3 then (wordsE E j).2 (E.m j) else 0)) ||| 2 ^ j else (wordsE E j).2 x)
def lastW (E : Ev) (j : Nat) (q : Int) : Nat := (wordsE E j).1 q
def sentW (E : Ev) (j : Nat) (x : Int) : Nat := (wordsE E j).2 x
def pastW (E : Ev) (j : Nat) : Nat := lastW E j (E.p j) ||| (if E.k j = 3 then sentW E j (E.m j) else 0)
theorem lastW_zero (E : Ev) (q : Int) : lastW E 0 q = 0 := rfl
theorem sentW_zero (E : Ev) (x : Int) : sentW E 0 x = 0 := rfl
theorem lastW_succ (E : Ev) (j : Nat) (q : Int) : lastW E (j + 1) q = if q = E.p j then pastW E j ||| 2 ^ j else lastW E j q := rfl
theorem sentW_succ (E : Ev) (j : Nat) (x : Int) : sentW E (j + 1) x = if E.k j = 2 ∧ x = E.m j then pastW E j ||| 2 ^ j else sentW E j x := rfl

theorem words_lt (E : Ev) (j : Nat) : (∀ q, lastW E j q < 2 ^ j) ∧ (∀ x, sentW E j x < 2 ^ j) ∧ pastW E j < 2 ^ j := by
  have key : ∀ j, (∀ q, lastW E j q < 2 ^ j) ∧ (∀ x, sentW E j x < 2 ^ j) := by
    intro j
    induction j with
    | zero => exact ⟨fun q => by rw [lastW_zero]; exact Nat.two_pow_pos 0, fun x => by rw [sentW_zero]; exact Nat.two_pow_pos 0⟩
    | succ j ih =>
      have hp : pastW E j < 2 ^ j := by
        unfold pastW
        split
        · exact Nat.or_lt_two_pow (ih.1 _) (ih.2 _)
        · rw [Nat.or_zero]; exact ih.1 _
      have hq : pastW E j ||| 2 ^ j < 2 ^ (j + 1) := Nat.or_lt_two_pow (Nat.lt_of_lt_of_le hp (Nat.pow_le_pow_right (by omega) (by omega))) (Nat.pow_lt_pow_right (by omega) (by omega))
      constructor
      · intro q
        rw [lastW_succ]
        split
        · exact hq
        · exact Nat.lt_of_lt_of_le (ih.1 q) (Nat.pow_le_pow_right (by omega) (by omega))
      · intro x
        rw [sentW_succ]
        split
        · exact hq
        · exact Nat.lt_of_lt_of_le (ih.2 x) (Nat.pow_le_pow_right (by omega) (by omega))
  refine ⟨(key j).1, (key j).2, ?_⟩
  unfold pastW
  split
  · exact Nat.or_lt_two_pow ((key j).1 _) ((key j).2 _)
  · rw [Nat.or_zero]; exact (key j).1 _

/-- Event i is ahead of event j. -/
def Hb (E : Ev) (i j : Nat) : Prop := (pastW E j).testBit i = true
theorem Hb.lt {E : Ev} {i j : Nat} (h : Hb E i j) : i < j := by
  rcases Nat.lt_or_ge i j with hlt | hge
  · exact hlt
  · unfold Hb at h
    rw [Nat.testBit_lt_two_pow (Nat.lt_of_lt_of_le (words_lt E j).2.2 (Nat.pow_le_pow_right (by omega) hge))] at h
    cases h
theorem testBit_put (a j i : Nat) : (a ||| 2 ^ j).testBit i = true ↔ a.testBit i = true ∨ j = i := by
  rw [Nat.testBit_or, Nat.testBit_two_pow]; simp
/-- Whatever word holds an event holds all that is ahead of it. -/
theorem words_shut (E : Ev) (j : Nat) : (∀ q i, (lastW E j q).testBit i = true → ∀ a, Hb E a i → (lastW E j q).testBit a = true) ∧ (∀ x i, (sentW E j x).testBit i = true → ∀ a, Hb E a i → (sentW E j x).testBit a = true) ∧
    ∀ i, Hb E i j → ∀ a, Hb E a i → Hb E a j := by
  have step : ∀ j, (∀ q i, (lastW E j q).testBit i = true → ∀ a, Hb E a i → (lastW E j q).testBit a = true) → (∀ x i, (sentW E j x).testBit i = true → ∀ a, Hb E a i → (sentW E j x).testBit a = true) → ∀ i, Hb E i j → ∀ a, Hb E a i → Hb E a j := by
    intro j h1 h2 i hi a ha
    unfold Hb at hi ⊢
    unfold pastW at hi ⊢
    split at hi
    · rename_i hk
      rw [if_pos hk]
      rw [Nat.testBit_or, Bool.or_eq_true] at hi ⊢
      exact hi.imp (fun h => h1 _ i h a ha) (fun h => h2 _ i h a ha)
    · rename_i hk
      rw [if_neg hk]
      rw [Nat.or_zero] at hi ⊢
      exact h1 _ i hi a ha
  have key : ∀ j, (∀ q i, (lastW E j q).testBit i = true → ∀ a, Hb E a i → (lastW E j q).testBit a = true) ∧ (∀ x i, (sentW E j x).testBit i = true → ∀ a, Hb E a i → (sentW E j x).testBit a = true) := by
    intro j
    induction j with
    | zero => exact ⟨fun q i h => by rw [lastW_zero] at h; simp at h, fun x i h => by rw [sentW_zero] at h; simp at h⟩
    | succ j ih =>
      have hs := step j ih.1 ih.2
      have hw : ∀ i, (pastW E j ||| 2 ^ j).testBit i = true → ∀ a, Hb E a i → (pastW E j ||| 2 ^ j).testBit a = true := by
        intro i hi a ha
        rw [testBit_put] at hi ⊢
        rcases hi with hi | rfl
        · exact .inl (hs i hi a ha)
        · exact .inl ha
      constructor
      · intro q i hi a ha
        rw [lastW_succ] at hi ⊢
        split at hi
        · rename_i hq; rw [if_pos hq]; exact hw i hi a ha
        · rename_i hq; rw [if_neg hq]; exact ih.1 q i hi a ha
      · intro x i hi a ha
        rw [sentW_succ] at hi ⊢
        split at hi
        · rename_i hq; rw [if_pos hq]; exact hw i hi a ha
        · rename_i hq; rw [if_neg hq]; exact ih.2 x i hi a ha
  exact ⟨(key j).1, (key j).2, step j (key j).1 (key j).2⟩
theorem Hb.trans {E : Ev} {i j k : Nat} (h1 : Hb E i j) (h2 : Hb E j k) : Hb E i k := (words_shut E k).2.2 j h2 i h1
theorem Hb.irrefl {E : Ev} {i : Nat} : ¬ Hb E i i := fun h => absurd h.lt (by omega)
/-- An event of a process stays in the process's word. -/
theorem lastW_own (E : Ev) {i j : Nat} (hij : i < j) : (lastW E j (E.p i)).testBit i = true := by
  induction j with
  | zero => omega
  | succ j ih =>
    rw [lastW_succ]
    rcases Nat.lt_succ_iff_lt_or_eq.1 hij with h | rfl
    · split
      · rename_i hq
        rw [testBit_put]
        refine .inl ?_
        unfold pastW
        rw [Nat.testBit_or, ← hq, ih h]; rfl
      · exact ih h
    · rw [if_pos rfl, testBit_put]; exact .inr rfl
theorem Hb.same {E : Ev} {i j : Nat} (hij : i < j) (hp : E.p i = E.p j) : Hb E i j := by
  unfold Hb pastW
  rw [Nat.testBit_or, ← hp, lastW_own E hij]; rfl
end Go.Proofs.Ythonnpimfidkdaa
