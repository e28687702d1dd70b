/- What the laws of suspicion ask, in plain functions. -/
import Derived.Test.YtcipdjdbafngkaaSusMath
import Derived.Test.YtcipdjdbafngkaaMvApp
set_option linter.unusedVariables false
set_option linter.unusedSimpArgs false
namespace Go.Proofs.Ytcipdjdbafngkaa
open Go.RowKit

theorem suE_congr {n : Nat} {M M' : Mv} {q : Nat} (h : ∀ j, j < q → M.k j = M'.k j ∧ M.f j = M'.f j) : ∀ j, j ≤ q → suE n M j = suE n M' j := by
  intro j
  induction j with
  | zero => intro _; rfl
  | succ j ih =>
    intro hj
    obtain ⟨h1, h2⟩ := h j (by omega)
    rw [suE, suE, ih (by omega), h1, h2]
/-- Behind t ticks. -/
theorem ticks {n : Nat} {M : Mv} {q T : Nat} (h : ∀ t, t < T → M.k (q + t) = 2) : ∀ t, t ≤ T → (suE n M (q + t)).now = (suE n M q).now + t ∧ (suE n M (q + t)).waits = (suE n M q).waits ∧ (suE n M (q + t)).heard = (suE n M q).heard ∧ (suE n M (q + t)).wrong = (suE n M q).wrong ∧
    ∀ i, (suE n M q).set.testBit i = true → (suE n M (q + t)).set.testBit i = true := by
  intro t
  induction t with
  | zero => intro _; exact ⟨rfl, rfl, rfl, rfl, fun _ h => h⟩
  | succ t ih =>
    intro ht
    obtain ⟨h1, h2, h3, h4, h5⟩ := ih (by omega)
    have hs : suE n M (q + (t + 1)) = tickS n (suE n M (q + t)) := by
      show (suStep n (M.k (q + t)) (M.f (q + t)) (suE n M (q + t))).2 = _
      rw [h t (by omega)]
      unfold suStep
      rw [if_neg (by omega), if_pos rfl]
    rw [hs]
    refine ⟨by show (suE n M (q + t)).now + 1 = _; rw [h1]; omega, h2, h3, h4, fun i hi => ?_⟩
    show (tickTo _ n).testBit i = true
    rw [tick_bit, Bool.or_eq_true]
    exact .inl (h5 i hi)
theorem full_set {a n : Nat} (h : a < 2 ^ n) (hb : ∀ i, i < n → a.testBit i = true) : a = 2 ^ n - 1 := by
  apply Nat.eq_of_testBit_eq
  intro i
  rw [Nat.testBit_two_pow_sub_one]
  by_cases hi : i < n
  · rw [hb i hi]; simp [hi]
  · rw [Nat.testBit_lt_two_pow (Nat.lt_of_lt_of_le h (Nat.pow_le_pow_right (by omega) (by omega)))]; simp [hi]
/-- Behind thirty ticks all are suspected. -/
theorem sus_all {n : Nat} (hn : n ≤ 6) {M : Mv} {q : Nat} (hq : q ≤ 20) (h : ∀ t, t < 30 → M.k (q + t) = 2) : (suE n M (q + 30)).set = 2 ^ n - 1 := by
  have hI := SI.all hn M (q + 30)
  have hI0 := SI.all hn M q
  refine full_set hI.set fun i hi => ?_
  obtain ⟨h1, h2, h3, _, _⟩ := ticks (n := n) h 29 (by omega)
  have hs : suE n M (q + 30) = tickS n (suE n M (q + 29)) := by
    show (suStep n (M.k (q + 29)) (M.f (q + 29)) (suE n M (q + 29))).2 = _
    rw [h 29 (by omega)]
    unfold suStep
    rw [if_neg (by omega), if_pos rfl]
  rw [hs]
  show (tickTo _ n).testBit i = true
  rw [tick_bit, Bool.or_eq_true]
  refine .inr (decide_eq_true ⟨hi, ?_⟩)
  show (suE n M (q + 29)).waits i + (suE n M (q + 29)).heard i < (suE n M (q + 29)).now + 1
  rw [h1, h2, h3]
  have := (hI0.waits i).2
  have := hI0.heard i
  omega
theorem clr_sub {n i : Nat} (hn : n ≤ 6) (hi : i < n) : clr (2 ^ n - 1) i = 2 ^ n - 1 - 2 ^ i ∧ 2 ^ i ≤ 2 ^ n - 1 := by
  have key : ∀ n : Fin 7, ∀ i : Fin 6, i.val < n.val → clr (2 ^ n.val - 1) i.val = 2 ^ n.val - 1 - 2 ^ i.val ∧ 2 ^ i.val ≤ 2 ^ n.val - 1 := by decide +kernel
  exact key ⟨n, by omega⟩ ⟨i, by omega⟩ hi
/-- One is heard of. -/
theorem sus_beat {n : Nat} (hn : n ≤ 6) {s : SS} (h : s.set = 2 ^ n - 1) {i : Nat} (hi : i < n) : (beatS s i).set = 2 ^ n - 1 - 2 ^ i ∧ (beatS s i).wrong = s.wrong + 1 := by
  have hb : s.set.testBit i = true := by rw [h, Nat.testBit_two_pow_sub_one]; simp [hi]
  unfold beatS
  rw [if_pos hb]
  exact ⟨by show clr s.set i = _; rw [h]; exact (clr_sub hn hi).1, rfl⟩

/-- How long all are waited for, less one each. -/
def sumW (f : Nat → Nat) : Nat → Int
  | 0 => 0
  | i + 1 => sumW f i + (f i : Int) - 1
theorem sumW_upd (f : Nat → Nat) (q : Nat) : ∀ m, sumW (upd f q (f q + 1)) m = sumW f m + if q < m then 1 else 0 := by
  intro m
  induction m with
  | zero => rfl
  | succ m ih =>
    rw [sumW, sumW, ih]
    by_cases e : m = q
    · subst e
      rw [upd_same, if_neg (show ¬ m < m by omega), if_pos (show m < m + 1 by omega)]
      push_cast
      omega
    · rw [upd_ne _ _ e]
      by_cases h : q < m
      · rw [if_pos h, if_pos (show q < m + 1 by omega)]; omega
      · rw [if_neg h, if_neg (show ¬ q < m + 1 by omega)]; omega
theorem sumW_abs {f : Nat → Nat} {b : Nat} (h : ∀ i, 1 ≤ f i ∧ f i ≤ b) : ∀ m, 0 ≤ sumW f m ∧ sumW f m ≤ m * b := by
  intro m
  induction m with
  | zero => simp [sumW]
  | succ m ih =>
    have := h m
    rw [sumW]
    push_cast
    rw [Int.add_mul]
    omega
theorem sum_wrong (n : Nat) (M : Mv) (j : Nat) : sumW (suE n M j).waits n = ((suE n M j).wrong : Int) := by
  induction j with
  | zero =>
    have : ∀ m, sumW (fun _ => 1) m = 0 := by
      intro m
      induction m with
      | zero => rfl
      | succ m ih => rw [sumW, ih]; rfl
    exact this n
  | succ j ih =>
    show sumW (suStep n (M.k j) (M.f j) (suE n M j)).2.waits n = _
    rw [suE]
    unfold suStep
    split
    · exact ih
    · split
      · exact ih
      · split
        · exact ih
        · unfold beatS
          split
          · show sumW (upd _ _ _) n = _
            rw [sumW_upd, ih, if_pos (show (M.f j).toNat < n by omega)]
            rfl
          · exact ih
/-- The greatest gap so far, and how many ticks since. -/
def gapTo (M : Mv) (i : Nat) : Nat → Nat × Nat
  | 0 => (0, 0)
  | j + 1 => if M.k j = 2 then ((gapTo M i j).1, (gapTo M i j).2 + 1) else if M.k j = 1 ∧ M.f j = i then (if (gapTo M i j).1 < (gapTo M i j).2 then (gapTo M i j).2 else (gapTo M i j).1, 0) else gapTo M i j
theorem gap_le (M : Mv) (i j : Nat) : (gapTo M i j).1 ≤ j ∧ (gapTo M i j).2 ≤ j := by
  induction j with
  | zero => exact ⟨Nat.le_refl _, Nat.le_refl _⟩
  | succ j ih =>
    rw [gapTo]
    repeat' split
    all_goals first | omega | (simp only []; omega)
theorem gap_inv {n : Nat} (hn : n ≤ 6) (M : Mv) {i : Nat} (hi : i < n) (j : Nat) : (suE n M j).now = (suE n M j).heard i + (gapTo M i j).2 ∧ ((suE n M j).waits i = 1 ∨ (suE n M j).waits i ≤ (gapTo M i j).1) := by
  induction j with
  | zero => exact ⟨rfl, .inl rfl⟩
  | succ j ih =>
    obtain ⟨h1, h2⟩ := ih
    have hI := SI.all hn M j
    rw [suE, gapTo]
    unfold suStep
    by_cases hk : M.k j ≠ 1 ∧ M.k j ≠ 2
    · rw [if_pos hk, if_neg hk.2, if_neg (fun h => hk.1 h.1)]
      exact ⟨h1, h2⟩
    rw [if_neg hk]
    by_cases hk2 : M.k j = 2
    · rw [if_pos hk2, if_pos hk2]
      exact ⟨by show (suE n M j).now + 1 = (suE n M j).heard i + _; simp only []; omega, h2⟩
    rw [if_neg hk2, if_neg hk2]
    have hk1 : M.k j = 1 := by
      by_cases h : M.k j = 1
      · exact h
      · exact absurd ⟨h, hk2⟩ hk
    by_cases hf : M.f j < 0 ∨ n ≤ M.f j
    · rw [if_pos hf, if_neg (fun h => by have := h.2; omega)]
      exact ⟨h1, h2⟩
    rw [if_neg hf]
    by_cases hfi : M.f j = i
    · rw [if_pos ⟨hk1, hfi⟩, show (M.f j).toNat = i by omega]
      unfold beatS
      split
      · rename_i hb
        have := hI.bit i hb
        refine ⟨by show (suE n M j).now = upd _ i _ i + 0; rw [upd_same]; rfl, .inr ?_⟩
        show upd _ i _ i ≤ _
        rw [upd_same]
        simp only []
        split <;> omega
      · refine ⟨by show (suE n M j).now = upd _ i _ i + 0; rw [upd_same]; rfl, ?_⟩
        show (suE n M j).waits i = 1 ∨ _
        simp only []
        split
        · omega
        · exact h2
    · rw [if_neg (fun h => hfi h.2)]
      have hne : i ≠ (M.f j).toNat := by omega
      unfold beatS
      split
      · refine ⟨by show (suE n M j).now = upd _ _ _ i + _; rw [upd_ne _ _ hne]; exact h1, ?_⟩
        show upd _ _ _ i = 1 ∨ upd _ _ _ i ≤ _
        rw [upd_ne _ _ hne]; exact h2
      · exact ⟨by show (suE n M j).now = upd _ _ _ i + _; rw [upd_ne _ _ hne]; exact h1, h2⟩
end Go.Proofs.Ytcipdjdbafngkaa
