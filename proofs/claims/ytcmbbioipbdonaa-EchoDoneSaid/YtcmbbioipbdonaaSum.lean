/- Sums over the numbers below one. -/
import Derived.Test.YtcmbbioipbdonaaWords
set_option linter.unusedVariables false
set_option linter.unusedSimpArgs false
namespace Go.Proofs.Ytcmbbioipbdonaa

def sumN : Nat → (Nat → Nat) → Nat
  | 0, _ => 0
  | n + 1, g => sumN n g + g n
theorem sumN_congr {g h : Nat → Nat} : ∀ {n : Nat}, (∀ j, j < n → h j = g j) → sumN n h = sumN n g
  | 0, _ => rfl
  | n + 1, e => by rw [sumN, sumN, sumN_congr fun j hj => e j (by omega), e n (by omega)]
theorem sumN_put {g h : Nat → Nat} {i : Nat} : ∀ {n : Nat}, i < n → (∀ j, j < n → j ≠ i → h j = g j) → sumN n h + g i = sumN n g + h i
  | n + 1, hi, e => by
    rw [sumN, sumN]
    by_cases e1 : i = n
    · subst e1
      rw [sumN_congr fun j hj => e j (by omega) (by omega)]
      omega
    · have := sumN_put (n := n) (by omega) fun j hj => e j (by omega)
      rw [e n (by omega) (fun h => e1 h.symm)]
      omega
theorem sumN_le {g : Nat → Nat} {c : Nat} : ∀ {n : Nat}, (∀ j, j < n → g j ≤ c) → sumN n g ≤ n * c
  | 0, _ => by simp [sumN]
  | n + 1, h => by
    have := sumN_le (n := n) fun j hj => h j (by omega)
    have := h n (by omega)
    rw [sumN, Nat.succ_mul]; omega
theorem sumN_ge {g : Nat → Nat} {c : Nat} : ∀ {n : Nat}, (∀ j, j < n → c ≤ g j) → n * c ≤ sumN n g
  | 0, _ => by simp [sumN]
  | n + 1, h => by
    have := sumN_ge (n := n) fun j hj => h j (by omega)
    have := h n (by omega)
    rw [sumN, Nat.succ_mul]; omega
theorem sumN_pos {g : Nat → Nat} {i : Nat} : ∀ {n : Nat}, i < n → g i ≤ sumN n g
  | n + 1, h => by
    rw [sumN]
    by_cases e : i = n
    · subst e; omega
    · have := sumN_pos (g := g) (n := n) (i := i) (by omega); omega
theorem sumN_add (g h : Nat → Nat) : ∀ n, sumN n (fun j => g j + h j) = sumN n g + sumN n h
  | 0 => rfl
  | n + 1 => by rw [sumN, sumN, sumN, sumN_add g h n]; omega
theorem sumN_mono {g h : Nat → Nat} : ∀ {n : Nat}, (∀ j, j < n → g j ≤ h j) → sumN n g ≤ sumN n h
  | 0, _ => Nat.le_refl _
  | n + 1, e => by
    rw [sumN, sumN]
    have := sumN_mono (n := n) fun j hj => e j (by omega)
    have := e n (by omega)
    omega
theorem sumN_head (g : Nat → Nat) : ∀ n, sumN (n + 1) g = g 0 + sumN n (fun j => g (j + 1))
  | 0 => by simp [sumN]
  | n + 1 => by rw [sumN, sumN_head g n, sumN]; omega
theorem sumN_split (g : Nat → Nat) (a : Nat) : ∀ b, sumN (a + b) g = sumN a g + sumN b (fun j => g (a + j))
  | 0 => by simp [sumN]
  | b + 1 => by rw [← Nat.add_assoc, sumN, sumN_split g a b, sumN]; omega
/-- Turned. -/
theorem sumN_rot (g : Nat → Nat) (n t : Nat) (ht : t ≤ n) : sumN n (fun o => g ((o + t) % n)) = sumN n g := by
  have h1 : sumN (n - t + t) (fun o => g ((o + t) % n)) = sumN (n - t) (fun o => g (t + o)) + sumN t g := by
    rw [sumN_split]
    congr 1
    · exact sumN_congr fun j hj => by rw [Nat.mod_eq_of_lt (by omega), Nat.add_comm]
    · exact sumN_congr fun j hj => by rw [show n - t + j + t = j + n by omega, Nat.add_mod_right, Nat.mod_eq_of_lt (by omega)]
  have h2 : sumN (t + (n - t)) g = sumN t g + sumN (n - t) (fun j => g (t + j)) := sumN_split g t (n - t)
  rw [show n - t + t = n by omega] at h1
  rw [show t + (n - t) = n by omega] at h2
  omega
/-- Told from the end. -/
theorem sumN_rev (g : Nat → Nat) : ∀ n, sumN n (fun j => g (n - 1 - j)) = sumN n g
  | 0 => rfl
  | n + 1 => by
    rw [sumN_head, sumN, ← sumN_rev g n]
    have : sumN n (fun j => g (n + 1 - 1 - (j + 1))) = sumN n (fun j => g (n - 1 - j)) := sumN_congr fun j _ => by rw [show n + 1 - 1 - (j + 1) = n - 1 - j by omega]
    rw [this]
    show g (n + 1 - 1 - 0) + _ = _
    rw [show n + 1 - 1 - 0 = n by omega]
    omega
/-- Two sums, one in the other. -/
theorem sumN_swap (g : Nat → Nat → Nat) (m : Nat) : ∀ n, sumN n (fun i => sumN m (fun j => g i j)) = sumN m (fun j => sumN n (fun i => g i j))
  | 0 => by
    rw [sumN]
    have : sumN m (fun j => sumN 0 (fun i => g i j)) = sumN m (fun _ => 0) := sumN_congr fun j _ => rfl
    rw [this]
    have := sumN_le (g := fun _ => 0) (c := 0) (n := m) (fun _ _ => Nat.le_refl _)
    omega
  | n + 1 => by
    rw [sumN, sumN_swap g m n, ← sumN_add]
    exact sumN_congr fun j _ => by rw [sumN]
/-- A list without twins, told by what is in it. -/
theorem sumN_len {l : List Nat} {p : Nat → Bool} : ∀ {n : Nat}, l.Nodup → (∀ j, j ∈ l ↔ j < n ∧ p j = true) → l.length = sumN n (fun j => if p j = true then 1 else 0)
  | 0, _, h => by
    cases l with
    | nil => rfl
    | cons x l => exact absurd ((h x).1 List.mem_cons_self).1 (by omega)
  | n + 1, hd, h => by
    have ih := sumN_len (n := n) (l := l.erase n) (p := p) (hd.erase n) fun j => by
      rw [hd.mem_erase_iff, h]
      constructor
      · rintro ⟨h1, h2, h3⟩; exact ⟨by omega, h3⟩
      · rintro ⟨h1, h2⟩; exact ⟨by omega, by omega, h2⟩
    rw [sumN, ← ih]
    by_cases hp : p n = true
    · have hm : n ∈ l := (h n).2 ⟨by omega, hp⟩
      have := List.length_pos_of_mem hm
      rw [if_pos hp, List.length_erase_of_mem hm]; omega
    · rw [if_neg hp, List.erase_of_not_mem (fun hm => hp ((h n).1 hm).2)]; rfl
end Go.Proofs.Ytcmbbioipbdonaa
