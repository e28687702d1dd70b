/- What PaxosLater asks, in plain functions. -/
import Derived.Test.YtpicmphimcgklaaPaxMath
set_option linter.unusedVariables false
set_option linter.unusedSimpArgs false
namespace Go.Proofs.Ytpicmphimcgklaa
open Go.RowKit

/-- Who took a value of ballot b, told by the codes. -/
def setTo (n : Nat) (M : Mv) (b : Nat) : Nat → Nat
  | 0 => 0
  | j + 1 => if M.k j = 3 ∧ M.v j = b ∧ pxC n M j = 0 then setTo n M b j ||| 2 ^ (M.f j).toNat else setTo n M b j
theorem px_tk (n : Nat) (k f v : Int) (s : PS) (b : Nat) (hb : 1 ≤ b) : (pxStep n k f v s).2.tk b = (if k = 3 ∧ v = b ∧ (pxStep n k f v s).1 = 0 then s.tk b ||| 2 ^ f.toNat else s.tk b) ∧ (k = 3 → (pxStep n k f v s).1 = 0 → 0 ≤ f ∧ f < n) := by
  unfold pxStep
  by_cases h1 : k < 1 ∨ 3 < k
  · rw [if_pos h1, if_neg (by omega)]; exact ⟨rfl, by omega⟩
  rw [if_neg h1]
  by_cases h2 : k ≠ 2 ∧ (f < 0 ∨ n ≤ f)
  · rw [if_pos h2, if_neg (by simp)]; exact ⟨rfl, fun _ h => by simp at h⟩
  rw [if_neg h2]
  by_cases h3 : v < 1 ∨ 9 < v
  · rw [if_pos h3, if_neg (by simp)]; exact ⟨rfl, fun _ h => by simp at h⟩
  rw [if_neg h3]
  by_cases h4 : k = 1
  · rw [if_pos h4]
    have hk : ¬ k = 3 := by omega
    simp only [hk, false_and, if_false]
    refine ⟨?_, fun h => h.elim⟩
    split <;> rfl
  rw [if_neg h4]
  by_cases h5 : k = 2
  · rw [if_pos h5]
    have hk : ¬ k = 3 := by omega
    simp only [hk, false_and, if_false]
    refine ⟨?_, fun h => h.elim⟩
    repeat' split
    all_goals rfl
  rw [if_neg h5]
  refine ⟨?_, by omega⟩
  by_cases h6 : s.of v.toNat = 0
  · rw [if_pos h6, if_neg (by simp)]
  rw [if_neg h6]
  by_cases h7 : v.toNat < s.P f.toNat
  · rw [if_pos h7, if_neg (by simp)]
  rw [if_neg h7]
  show upd s.tk v.toNat _ b = _
  rw [upd_apply]
  by_cases h8 : v = b
  · rw [if_pos (by omega), if_pos ⟨by omega, h8, rfl⟩]
    have : v.toNat = b := by omega
    rw [this]
  · rw [if_neg (by omega), if_neg (fun h => h8 h.2.1)]
theorem setTo_tk (n : Nat) (M : Mv) (b : Nat) (hb : 1 ≤ b) (j : Nat) : setTo n M b j = (pxE n M j).tk b := by
  induction j with
  | zero => rfl
  | succ j ih =>
    rw [setTo, ih]
    exact ((px_tk n (M.k j) (M.f j) (M.v j) (pxE n M j) b hb).1).symm

/-- The least ballot above c of which most took the value (0: none). -/
def firstTo (n : Nat) (s : PS) : Nat → Nat
  | 0 => 0
  | d + 1 => if n < 2 * pop (s.tk (9 - d)) then 9 - d else firstTo n s d
theorem firstTo_spec (n : Nat) (s : PS) : ∀ d, d ≤ 9 → (firstTo n s d = 0 ∧ ∀ b, 9 - d < b → b ≤ 9 → ¬ n < 2 * pop (s.tk b)) ∨ (9 - d < firstTo n s d ∧ firstTo n s d ≤ 9 ∧ n < 2 * pop (s.tk (firstTo n s d)) ∧ ∀ b, 9 - d < b → b < firstTo n s d → ¬ n < 2 * pop (s.tk b)) := by
  intro d
  induction d with
  | zero => intro _; exact .inl ⟨rfl, fun b h1 h2 => by omega⟩
  | succ d ih =>
    intro hd
    rw [firstTo]
    by_cases h : n < 2 * pop (s.tk (9 - d))
    · rw [if_pos h]
      exact .inr ⟨by omega, by omega, h, fun b h1 h2 => by omega⟩
    · rw [if_neg h]
      rcases ih (by omega) with ⟨h1, h2⟩ | ⟨h1, h2, h3, h4⟩
      · refine .inl ⟨h1, fun b h5 h6 => ?_⟩
        by_cases e : b = 9 - d
        · subst e; exact h
        · exact h2 b (by omega) h6
      · refine .inr ⟨by omega, h2, h3, fun b h5 h6 => ?_⟩
        by_cases e : b = 9 - d
        · subst e; exact h
        · exact h4 b (by omega) h6
/-- What the law asks of the state. -/
theorem later_law {n : Nat} {s : PS} (hn1 : 1 ≤ n) (hn : n ≤ 6) (h : PI n s) (htk9 : ∀ b, 9 < b → s.tk b = 0) :
    ((0 < firstTo n s 9) = (0 ≤ s.ch)) ∧ ∀ i, s.T i ≤ s.P i ∧ (0 < firstTo n s 9 → firstTo n s 9 ≤ s.T i → (s.V i : Int) = s.ch) := by
  have hm : (∀ b, n < 2 * pop (s.tk b) → 1 ≤ b ∧ b ≤ 9) := by
    intro b hb
    obtain ⟨i, _, hi⟩ := h.some_bit (by omega) hb
    refine ⟨(h.tkT b i hi).1, ?_⟩
    apply Classical.byContradiction
    intro h9
    rw [htk9 b (by omega)] at hi
    simp at hi
  rcases firstTo_spec n s 9 (by omega) with ⟨h1, h2⟩ | ⟨h1, h2, h3, h4⟩
  · rw [h1]
    have hno : ∀ b, ¬ n < 2 * pop (s.tk b) := fun b hb => h2 b (by have := hm b hb; omega) (hm b hb).2 hb
    refine ⟨?_, fun i => ⟨(h.T0 i).1, fun h0 => by omega⟩⟩
    rcases h.chk with ⟨h5, _⟩ | ⟨b, h5, _⟩
    · rw [h5]; simp
    · exact absurd h5 (hno b)
  · have hch := h.chosen (by omega) h3
    refine ⟨by rw [hch]; simp; omega, fun i => ⟨(h.T0 i).1, fun _ hle => ?_⟩⟩
    rcases h.VT i with ⟨h5, _⟩ | ⟨h5, h6, h7⟩
    · omega
    · rw [hch, h6]
      rcases Nat.lt_or_ge (firstTo n s 9) (s.T i) with h8 | h8
      · rw [h.later (by omega) h3 _ h8 h7]
      · have : s.T i = firstTo n s 9 := by omega
        rw [this]
end Go.Proofs.Ytpicmphimcgklaa
