/- The order of what one knows, in plain functions. -/
import Derived.Test.YtdpigpjcldcoaaaGoMath
import Derived.Test.YtdpigpjcldcoaaaShelf
set_option linter.unusedVariables false
set_option linter.unusedSimpArgs false
namespace Go.Proofs.Ytdpigpjcldcoaaa
open Go.RowKit Go.Lib Go.Sort

def lexF (a b : Nat → Nat) : Nat → Nat → Int
  | 0, _ => 0
  | k + 1, i => if compareInt (a i : Nat) (b i : Nat) ≠ 0 then compareInt (a i : Nat) (b i : Nat) else lexF a b k (i + 1)
def cmpK (n : Nat) (x y : Kn) : Int := if compareInt x.val y.val ≠ 0 then compareInt x.val y.val else lexF x.vec y.vec n 0
theorem cI (x y : Int) : (compareInt x y = -1 ∧ x < y) ∨ (compareInt x y = 0 ∧ x = y) ∨ (compareInt x y = 1 ∧ y < x) := by
  unfold compareInt
  by_cases h1 : x < y
  · simp [h1]
  · by_cases h2 : y < x
    · simp [h1, h2]
    · simp [h1, h2]; omega
theorem lex_flip (a b : Nat → Nat) : ∀ k i, lexF b a k i = - lexF a b k i
  | 0, _ => rfl
  | k + 1, i => by
    have ih := lex_flip a b k (i + 1)
    unfold lexF
    rcases cI (a i : Nat) (b i : Nat) with ⟨h, h'⟩ | ⟨h, h'⟩ | ⟨h, h'⟩ <;> rcases cI (b i : Nat) (a i : Nat) with ⟨g, g'⟩ | ⟨g, g'⟩ | ⟨g, g'⟩ <;> simp [h, g] <;> omega
theorem lex_trans (a b c : Nat → Nat) : ∀ k i, lexF a b k i ≤ 0 → lexF b c k i ≤ 0 → lexF a c k i ≤ 0 ∧ (lexF a b k i < 0 ∨ lexF b c k i < 0 → lexF a c k i < 0)
  | 0, _ => fun _ _ => ⟨by simp [lexF], by simp [lexF]⟩
  | k + 1, i => by
    have ih := lex_trans a b c k (i + 1)
    unfold lexF
    rcases cI (a i : Nat) (b i : Nat) with ⟨h, h'⟩ | ⟨h, h'⟩ | ⟨h, h'⟩ <;> rcases cI (b i : Nat) (c i : Nat) with ⟨g, g'⟩ | ⟨g, g'⟩ | ⟨g, g'⟩ <;> rcases cI (a i : Nat) (c i : Nat) with ⟨f, f'⟩ | ⟨f, f'⟩ | ⟨f, f'⟩ <;> simp [h, g, f] <;> first | omega | exact ih
theorem lex_eq (a b : Nat → Nat) : ∀ k i, lexF a b k i = 0 ↔ ∀ t, i ≤ t → t < i + k → a t = b t
  | 0, i => ⟨fun _ t h1 h2 => absurd h2 (by omega), fun _ => rfl⟩
  | k + 1, i => by
    have ih := lex_eq a b k (i + 1)
    unfold lexF
    rcases cI (a i : Nat) (b i : Nat) with ⟨h, h'⟩ | ⟨h, h'⟩ | ⟨h, h'⟩
    · simp [h]
      exact ⟨i, Nat.le_refl _, by omega, by omega⟩
    · simp only [h, ne_eq, not_true_eq_false, if_false, ih]
      constructor
      · intro hh t h1 h2
        rcases Nat.lt_or_eq_of_le h1 with h3 | rfl
        · exact hh t (by omega) (by omega)
        · omega
      · exact fun hh t h1 h2 => hh t (by omega) (by omega)
    · simp [h]
      exact ⟨i, Nat.le_refl _, by omega, by omega⟩
theorem cmp_flip (n : Nat) (x y : Kn) : cmpK n y x = - cmpK n x y := by
  have := lex_flip x.vec y.vec n 0
  unfold cmpK
  rcases cI x.val y.val with ⟨h, h'⟩ | ⟨h, h'⟩ | ⟨h, h'⟩ <;> rcases cI y.val x.val with ⟨g, g'⟩ | ⟨g, g'⟩ | ⟨g, g'⟩ <;> simp [h, g] <;> omega
theorem cmp_trans (n : Nat) (x y z : Kn) (h1 : cmpK n x y ≤ 0) (h2 : cmpK n y z ≤ 0) : cmpK n x z ≤ 0 ∧ (cmpK n x y < 0 ∨ cmpK n y z < 0 → cmpK n x z < 0) := by
  have ih := lex_trans x.vec y.vec z.vec n 0
  unfold cmpK at *
  rcases cI x.val y.val with ⟨h, h'⟩ | ⟨h, h'⟩ | ⟨h, h'⟩ <;> rcases cI y.val z.val with ⟨g, g'⟩ | ⟨g, g'⟩ | ⟨g, g'⟩ <;> rcases cI x.val z.val with ⟨f, f'⟩ | ⟨f, f'⟩ | ⟨f, f'⟩ <;> simp [h, g, f] at h1 h2 ⊢ <;> first | omega | exact ih h1 h2
theorem cmp_eq (n : Nat) (x y : Kn) : cmpK n x y = 0 ↔ x.val = y.val ∧ Eqv n x.vec y.vec := by
  have ih := lex_eq x.vec y.vec n 0
  unfold cmpK
  rcases cI x.val y.val with ⟨h, h'⟩ | ⟨h, h'⟩ | ⟨h, h'⟩
  · simp [h]; omega
  · simp only [h, ne_eq, not_true_eq_false, if_false, ih]
    exact ⟨fun hh => ⟨h', fun t ht => hh t (by omega) (by omega)⟩, fun hh t _ ht => hh.2 t (by omega)⟩
  · simp [h]; omega
theorem cmp_swo {α : Type} (n : Nat) (f : α → Kn) : SWO (ltOf fun a b : α => cmpK n (f a) (f b)) where
  irrefl x := by
    have := cmp_flip n (f x) (f x)
    simp only [ltOf, decide_eq_false_iff_not]; omega
  trans x y z h1 h2 := by
    simp only [ltOf, decide_eq_true_eq] at *
    exact (cmp_trans n (f x) (f y) (f z) (by omega) (by omega)).2 (.inl h1)
  ntrans x y z h1 h2 := by
    simp only [ltOf, decide_eq_false_iff_not] at *
    have e1 := cmp_flip n (f x) (f y)
    have e2 := cmp_flip n (f y) (f z)
    have e3 := cmp_flip n (f x) (f z)
    have := (cmp_trans n (f z) (f y) (f x) (by omega) (by omega)).1
    omega
end Go.Proofs.Ytdpigpjcldcoaaa
