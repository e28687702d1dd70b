/- The plain laws of stuck: after as many rounds as processes nothing more turns. -/
import Derived.Test.YtgjmnnbcclgahaaWaitMath
set_option linter.unusedVariables false
set_option linter.unusedSimpArgs false
namespace Go.Proofs.Ytgjmnnbcclgahaa
open Go.RowKit

def cnt (x : Nat) : Nat → Nat
  | 0 => 0
  | n + 1 => cnt x n + (if x.testBit n then 1 else 0)
theorem cnt_le (x n : Nat) : cnt x n ≤ n := by
  induction n with
  | zero => exact Nat.le_refl _
  | succ n ih => rw [cnt]; split <;> omega
theorem cnt_mono {a b : Nat} (h : Sub a b) (n : Nat) : cnt a n ≤ cnt b n := by
  induction n with
  | zero => exact Nat.le_refl _
  | succ n ih =>
    rw [cnt, cnt]
    by_cases ha : a.testBit n = true
    · rw [if_pos ha, if_pos (h n ha)]; omega
    · rw [if_neg ha]; split <;> omega
theorem cnt_eq {a b : Nat} (h : Sub a b) {n : Nat} (he : cnt b n ≤ cnt a n) : ∀ i, i < n → b.testBit i = true → a.testBit i = true := by
  induction n with
  | zero => intro i hi; omega
  | succ n ih =>
    intro i hi hb
    have hm := cnt_mono h n
    rw [cnt, cnt] at he
    rcases Nat.lt_succ_iff_lt_or_eq.1 hi with h1 | rfl
    · refine ih ?_ i h1 hb
      by_cases ha : a.testBit n = true
      · rw [if_pos ha, if_pos (h n ha)] at he; omega
      · rw [if_neg ha] at he; split at he <;> omega
    · rw [if_pos hb] at he
      by_cases ha : a.testBit i = true
      · exact ha
      · rw [if_neg ha] at he; omega
theorem Sub.anti {a b : Nat} (h : Sub a b) (k : Sub b a) : a = b := by
  apply Nat.eq_of_testBit_eq
  intro i
  cases ha : a.testBit i
  · cases hb : b.testBit i
    · rfl
    · rw [k i hb] at ha; cases ha
  · rw [h i ha]
theorem bit_lt {a n i : Nat} (ha : a < 2 ^ n) (hi : a.testBit i = true) : i < n := by
  rcases Nat.lt_or_ge i n with h | h
  · exact h
  · rw [Nat.testBit_lt_two_pow (Nat.lt_of_lt_of_le ha (Nat.pow_le_pow_right (by omega) h))] at hi; cases hi

section
variable (g : Nat → Nat → Bool) (f : Nat → Nat) (n : Nat)
theorem outer_le (r : Nat) : Sub (outer g f n r) (outer g f n (r + 1)) := inner_sub g f n _
theorem outer_stop {r : Nat} (h : outer g f n (r + 1) = outer g f n r) : ∀ k, outer g f n (r + k) = outer g f n r := by
  intro k
  induction k with
  | zero => rfl
  | succ k ih =>
    rw [← Nat.add_assoc, outer, ih]
    exact h
theorem outer_grow (r : Nat) : (∃ k, k ≤ r ∧ outer g f n (k + 1) = outer g f n k) ∨ r ≤ cnt (outer g f n r) n := by
  induction r with
  | zero => exact .inr (Nat.zero_le _)
  | succ r ih =>
    rcases ih with ⟨k, hk, h⟩ | h
    · exact .inl ⟨k, by omega, h⟩
    · by_cases he : outer g f n (r + 1) = outer g f n r
      · exact .inl ⟨r, by omega, he⟩
      · refine .inr ?_
        rcases Nat.lt_or_ge (cnt (outer g f n r) n) (cnt (outer g f n (r + 1)) n) with h2 | h2
        · omega
        · refine absurd (Sub.anti (fun i hi => ?_) (outer_le g f n r)) he
          exact cnt_eq (outer_le g f n r) h2 i (bit_lt (outer_lt g f n (r + 1)) hi) hi
theorem outer_fix : inner g f n (outer g f n n) = outer g f n n := by
  show outer g f n (n + 1) = outer g f n n
  rcases outer_grow g f n n with ⟨k, hk, h⟩ | h
  · have e1 := outer_stop g f n h (n - k)
    have e2 := outer_stop g f n h (n + 1 - k)
    rw [show k + (n - k) = n from by omega] at e1
    rw [show k + (n + 1 - k) = n + 1 from by omega] at e2
    rw [e1, e2]
  · refine Sub.anti (fun i hi => ?_) (outer_le g f n n)
    have hle := cnt_mono (outer_le g f n n) n
    have h2 := cnt_le (outer g f n (n + 1)) n
    exact cnt_eq (outer_le g f n n) (by omega) i (bit_lt (outer_lt g f n (n + 1)) hi) hi
theorem inner_stay {m s : Nat} (hm : m ≤ n) (h : inner g f n s = s) : inner g f m s = s :=
  Sub.anti (by have := inner_rise g f s hm; rwa [h] at this) (inner_sub g f m s)
/-- A set that a round leaves as it is holds whoever may go. -/
theorem fix_goes {s : Nat} (h : inner g f n s = s) {i : Nat} (hi : i < n) (hg : (f i == 0 || g (f i) s) = true) : s.testBit i = true := by
  have h1 := inner_stay g f n (m := i) (by omega) h
  have h2 := inner_stay g f n (m := i + 1) (by omega) h
  rw [inner, h1, if_pos hg] at h2
  have := testBit_or_pow s i i
  rw [h2] at this
  simpa using this
/-- Whoever is free could go. -/
theorem inner_why {S : Nat} (hmono : ∀ k s, k < n → s < 2 ^ n → Sub s S → g (f k) s = true → g (f k) S = true) {m s : Nat} (hm : m ≤ n) (hs : s < 2 ^ n) (hS : Sub (inner g f m s) S) (h : ∀ i, s.testBit i = true → (f i == 0 || g (f i) S) = true) :
    ∀ i, (inner g f m s).testBit i = true → (f i == 0 || g (f i) S) = true := by
  induction m with
  | zero => exact h
  | succ m ih =>
    have hS' : Sub (inner g f m s) S := (inner_rise g f s (by omega : m ≤ m + 1)).trans hS
    have ih := ih (by omega) hS'
    intro i hi
    rw [inner] at hi
    split at hi
    · rename_i hc
      rw [testBit_or_pow, Bool.or_eq_true] at hi
      rcases hi with hi | hi
      · exact ih i hi
      · have : m = i := by simpa using hi
        subst this
        rw [Bool.or_eq_true] at hc ⊢
        exact hc.imp id (hmono m _ (by omega) (inner_lt g f (by omega) hs) hS')
    · exact ih i hi
theorem outer_rise {r r' : Nat} (h : r ≤ r') : Sub (outer g f n r) (outer g f n r') := by
  induction h with
  | refl => exact Sub.refl _
  | step _ ih => exact ih.trans (outer_le g f n _)
theorem outer_why {S : Nat} (hmono : ∀ k s, k < n → s < 2 ^ n → Sub s S → g (f k) s = true → g (f k) S = true) (r : Nat) (hS : Sub (outer g f n r) S) : ∀ i, (outer g f n r).testBit i = true → (f i == 0 || g (f i) S) = true := by
  induction r with
  | zero => intro i hi; simp [outer] at hi
  | succ r ih => exact inner_why g f n hmono (Nat.le_refl _) (outer_lt _ _ _ _) hS (ih ((outer_le g f n r).trans hS))
theorem free_iff (hmono : ∀ k s, k < n → s < 2 ^ n → Sub s (outer g f n n) → g (f k) s = true → g (f k) (outer g f n n) = true) {i : Nat} (hi : i < n) : (outer g f n n).testBit i = (f i == 0 || g (f i) (outer g f n n)) := by
  rw [Bool.eq_iff_iff]
  exact ⟨outer_why g f n hmono n (Sub.refl _) i, fix_goes g f n (outer_fix g f n) hi⟩
end

theorem goAll_mono {f : Nat → Nat} {n S : Nat} (h6 : n ≤ 6) (hf : ∀ k, k < n → f k < 2 ^ n) (hS : S < 2 ^ n) : ∀ k s, k < n → s < 2 ^ n → Sub s S → goAll (f k) s = true → goAll (f k) S = true := by
  intro k s hk hs hsub h
  rw [goAll_iff (small_of h6 (hf k hk)) (small_of h6 hs)] at h
  rw [goAll_iff (small_of h6 (hf k hk)) (small_of h6 hS)]
  exact h.trans hsub
theorem goAny_mono {f : Nat → Nat} {n S : Nat} (h6 : n ≤ 6) (hf : ∀ k, k < n → f k < 2 ^ n) (hS : S < 2 ^ n) : ∀ k s, k < n → s < 2 ^ n → Sub s S → goAny (f k) s = true → goAny (f k) S = true := by
  intro k s hk hs hsub h
  rw [goAny_iff (small_of h6 (hf k hk)) (small_of h6 hs)] at h
  rw [goAny_iff (small_of h6 (hf k hk)) (small_of h6 hS)]
  obtain ⟨i, h1, h2⟩ := h
  exact ⟨i, h1, hsub i h2⟩

/-- Of the all-model: a process is stuck just if it waits for one that is. -/
theorem stuckAll_iff {f : Nat → Nat} {n : Nat} (h6 : n ≤ 6) (hf : ∀ k, k < n → f k < 2 ^ n) {i : Nat} (hi : i < n) : (stuckAll f n).testBit i = true ↔ ∃ k, (f i).testBit k = true ∧ (stuckAll f n).testBit k = true := by
  have hfree := free_iff goAll f n (goAll_mono h6 hf (outer_lt _ _ _ _)) hi
  have hlt := outer_lt goAll f n n
  unfold stuckAll
  rw [stuck_bit hlt, hfree]
  simp only [hi, decide_true, Bool.true_and, Bool.not_eq_true', Bool.or_eq_false_iff]
  rw [← Bool.not_eq_true (goAll _ _), goAll_iff (small_of h6 (hf i hi)) (small_of h6 hlt)]
  constructor
  · rintro ⟨_, h⟩
    refine Classical.byContradiction fun hc => h fun k hk => ?_
    cases ht : (outer goAll f n n).testBit k
    · refine absurd ⟨k, hk, ?_⟩ hc
      rw [stuck_bit hlt, ht]
      simp [bit_lt (hf i hi) hk]
    · rfl
  · rintro ⟨k, h1, h2⟩
    rw [stuck_bit hlt] at h2
    have hn : ¬ Sub (f i) (outer goAll f n n) := fun h => by rw [h k h1] at h2; simp at h2
    refine ⟨?_, hn⟩
    rw [beq_eq_false_iff_ne]
    intro h0
    rw [h0] at h1; simp at h1
/-- Of the any-model: a process is stuck just if it waits, and only for such as are. -/
theorem stuckAny_iff {f : Nat → Nat} {n : Nat} (h6 : n ≤ 6) (hf : ∀ k, k < n → f k < 2 ^ n) {i : Nat} (hi : i < n) : (stuckAny f n).testBit i = true ↔ f i ≠ 0 ∧ Sub (f i) (stuckAny f n) := by
  have hfree := free_iff goAny f n (goAny_mono h6 hf (outer_lt _ _ _ _)) hi
  have hlt := outer_lt goAny f n n
  unfold stuckAny
  rw [stuck_bit hlt, hfree]
  simp only [hi, decide_true, Bool.true_and, Bool.not_eq_true', Bool.or_eq_false_iff]
  rw [← Bool.not_eq_true (goAny _ _), goAny_iff (small_of h6 (hf i hi)) (small_of h6 hlt), beq_eq_false_iff_ne]
  refine and_congr_right fun _ => ?_
  constructor
  · intro h k hk
    rw [stuck_bit hlt]
    have : (outer goAny f n n).testBit k = false := by
      cases ht : (outer goAny f n n).testBit k
      · rfl
      · exact absurd ⟨k, hk, ht⟩ h
    simp [this, bit_lt (hf i hi) hk]
  · rintro h ⟨k, h1, h2⟩
    have := h k h1
    rw [stuck_bit hlt, h2] at this
    simp at this
theorem inner_any_all {f : Nat → Nat} {n : Nat} (h6 : n ≤ 6) (hf : ∀ k, k < n → f k < 2 ^ n) {m s s' : Nat} (hm : m ≤ n) (hs : s < 2 ^ n) (hs' : s' < 2 ^ n) (h : Sub s' s) : Sub (inner goAll f m s') (inner goAny f m s) := by
  induction m with
  | zero => exact h
  | succ m ih =>
    have ih := ih (by omega)
    have hb := inner_lt goAny f (m := m) (by omega) hs
    have hb' := inner_lt goAll f (m := m) (by omega) hs'
    rw [inner, inner]
    by_cases hc : (f m == 0 || goAll (f m) (inner goAll f m s')) = true
    · have hc2 : (f m == 0 || goAny (f m) (inner goAny f m s)) = true := by
        rw [Bool.or_eq_true] at hc ⊢
        by_cases h0 : f m = 0
        · exact .inl (by simp [h0])
        · refine .inr ?_
          rcases hc with hc | hc
          · exact absurd (by simpa using hc) h0
          · rw [goAll_iff (small_of h6 (hf m (by omega))) (small_of h6 hb')] at hc
            rw [goAny_iff (small_of h6 (hf m (by omega))) (small_of h6 hb)]
            obtain ⟨k, hk⟩ := Nat.exists_testBit_of_ne_zero h0
            exact ⟨k, hk, ih k (hc k hk)⟩
      rw [if_pos hc, if_pos hc2]
      intro i hi
      rw [testBit_or_pow] at hi ⊢
      rw [Bool.or_eq_true] at hi ⊢
      exact hi.imp (ih i) id
    · rw [if_neg hc]
      refine ih.trans ?_
      split
      · exact Sub.or_left _ _
      · exact Sub.refl _
theorem outer_any_all {f : Nat → Nat} {n : Nat} (h6 : n ≤ 6) (hf : ∀ k, k < n → f k < 2 ^ n) (r : Nat) : Sub (outer goAll f n r) (outer goAny f n r) := by
  induction r with
  | zero => exact Sub.refl _
  | succ r ih => exact inner_any_all h6 hf (Nat.le_refl _) (outer_lt _ _ _ _) (outer_lt _ _ _ _) ih
theorem any_sub_all {f : Nat → Nat} {n : Nat} (h6 : n ≤ 6) (hf : ∀ k, k < n → f k < 2 ^ n) : Sub (stuckAny f n) (stuckAll f n) := by
  intro i hi
  unfold stuckAny at hi
  unfold stuckAll
  rw [stuck_bit (outer_lt _ _ _ _)] at hi ⊢
  simp only [Bool.and_eq_true, decide_eq_true_eq, Bool.not_eq_true'] at hi ⊢
  refine ⟨hi.1, ?_⟩
  rw [← Bool.not_eq_true]
  intro hh
  rw [outer_any_all h6 hf n i hh] at hi
  exact absurd hi.2 (by simp)
end Go.Proofs.Ytgjmnnbcclgahaa
