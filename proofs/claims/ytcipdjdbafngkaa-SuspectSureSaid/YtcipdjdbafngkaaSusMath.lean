/- Suspicions in plain functions. -/
import Derived.Test.YtcipdjdbafngkaaMv
import Derived.Test.YtcipdjdbafngkaaPop
set_option linter.unusedVariables false
set_option linter.unusedSimpArgs false
namespace Go.Proofs.Ytcipdjdbafngkaa
open Go.RowKit

structure SS where
  set : Nat
  wrong : Nat
  now : Nat
  waits : Nat → Nat
  heard : Nat → Nat
def SS0 : SS := ⟨0, 0, 0, fun _ => 1, fun _ => 0⟩
def clr (a i : Nat) : Nat := a &&& (4294967295 - 2 ^ i)
def tickTo (s : SS) : Nat → Nat
  | 0 => s.set
  | i + 1 => if s.waits i + s.heard i < s.now then tickTo s i ||| 2 ^ i else tickTo s i
def tickS (n : Nat) (s : SS) : SS := { s with now := s.now + 1, set := tickTo { s with now := s.now + 1 } n }
def beatS (s : SS) (f : Nat) : SS := if s.set.testBit f then ⟨clr s.set f, s.wrong + 1, s.now, upd s.waits f (s.waits f + 1), upd s.heard f s.now⟩ else { s with heard := upd s.heard f s.now }
def suStep (n : Nat) (k f : Int) (s : SS) : Int × SS :=
  if k ≠ 1 ∧ k ≠ 2 then (6, s) else if k = 2 then (0, tickS n s) else if f < 0 ∨ n ≤ f then (2, s) else (0, beatS s f.toNat)
def suE (n : Nat) (M : Mv) : Nat → SS
  | 0 => SS0
  | j + 1 => (suStep n (M.k j) (M.f j) (suE n M j)).2
def suC (n : Nat) (M : Mv) (j : Nat) : Int := (suStep n (M.k j) (M.f j) (suE n M j)).1

theorem clr_bit {a i : Nat} (ha : a < 64) (hi : i < 6) (k : Nat) : (clr a i).testBit k = (a.testBit k && decide (k ≠ i)) := by
  unfold clr
  rw [Nat.testBit_and]
  have e : 4294967295 - 2 ^ i = 2 ^ 32 - (2 ^ i + 1) := by omega
  rw [e, Nat.testBit_two_pow_sub_succ (by have := Nat.pow_lt_pow_right (a := 2) (by omega) (show i < 32 by omega); omega), Nat.testBit_two_pow]
  by_cases hk : k < 32
  · by_cases h : k = i
    · subst h; simp
    · have : i ≠ k := fun e => h e.symm
      simp [hk, h, this]
  · rw [Nat.testBit_lt_two_pow (Nat.lt_of_lt_of_le ha (show 64 ≤ 2 ^ k from Nat.le_trans (by decide : 64 ≤ 2 ^ 6) (Nat.pow_le_pow_right (by omega) (by omega))))]
    simp
theorem clr_lt {a i n : Nat} (ha : a < 2 ^ n) : clr a i < 2 ^ n := Nat.lt_of_le_of_lt Nat.and_le_left ha
theorem tick_bit (s : SS) : ∀ (m k : Nat), (tickTo s m).testBit k = (s.set.testBit k || decide (k < m ∧ s.waits k + s.heard k < s.now)) := by
  intro m k
  induction m with
  | zero => simp [tickTo]
  | succ m ih =>
    rw [tickTo]
    by_cases h : s.waits m + s.heard m < s.now
    · rw [if_pos h, Nat.testBit_or, Nat.testBit_two_pow, ih]
      by_cases e : k = m
      · subst e; simp [h]
      · have e' : m ≠ k := fun h => e h.symm
        have : decide (k < m ∧ s.waits k + s.heard k < s.now) = decide (k < m + 1 ∧ s.waits k + s.heard k < s.now) := decide_eq_decide.2 ⟨fun h => ⟨by omega, h.2⟩, fun h => ⟨by omega, h.2⟩⟩
        rw [this, show decide (m = k) = false by simp [e'], Bool.or_false]
    · rw [if_neg h, ih]
      by_cases e : k = m
      · subst e; simp [h]
      · have : decide (k < m ∧ s.waits k + s.heard k < s.now) = decide (k < m + 1 ∧ s.waits k + s.heard k < s.now) := decide_eq_decide.2 ⟨fun h => ⟨by omega, h.2⟩, fun h => ⟨by omega, h.2⟩⟩
        rw [this]
theorem tick_lt (s : SS) {n : Nat} (h : s.set < 2 ^ n) : ∀ m, m ≤ n → tickTo s m < 2 ^ n := by
  intro m
  induction m with
  | zero => intro _; exact h
  | succ m ih =>
    intro hm
    rw [tickTo]
    split
    · exact or_lt (ih (by omega)) (by omega)
    · exact ih (by omega)

/-- What holds behind j moves. -/
structure SI (n : Nat) (s : SS) (j : Nat) : Prop where
  set : s.set < 2 ^ n
  heard : ∀ i, s.heard i ≤ s.now
  now : s.now ≤ j
  waits : ∀ i, 1 ≤ s.waits i ∧ s.waits i ≤ 1 + j
  wrong : s.wrong ≤ j
  bit : ∀ i, s.set.testBit i = true → s.waits i + s.heard i < s.now
theorem SI.start (n : Nat) : SI n SS0 0 := ⟨Nat.two_pow_pos n, fun _ => Nat.le_refl _, Nat.le_refl _, fun _ => ⟨Nat.le_refl _, Nat.le_refl _⟩, Nat.le_refl _, fun i h => by simp [SS0] at h⟩
theorem SI.up {n : Nat} {s : SS} {j : Nat} (h : SI n s j) : SI n s (j + 1) := ⟨h.set, h.heard, by have := h.now; omega, fun i => by have := h.waits i; omega, by have := h.wrong; omega, h.bit⟩
theorem SI.tick {n : Nat} {s : SS} {j : Nat} (h : SI n s j) : SI n (tickS n s) (j + 1) := by
  refine ⟨tick_lt { s with now := s.now + 1 } h.set n (Nat.le_refl _), fun i => by have := h.heard i; show s.heard i ≤ s.now + 1; omega, by have := h.now; show s.now + 1 ≤ j + 1; omega, fun i => by have := h.waits i; show 1 ≤ s.waits i ∧ s.waits i ≤ _; omega, by have := h.wrong; show s.wrong ≤ _; omega, fun i hi => ?_⟩
  show s.waits i + s.heard i < s.now + 1
  have hi : (tickTo { s with now := s.now + 1 } n).testBit i = true := hi
  rw [tick_bit, Bool.or_eq_true] at hi
  rcases hi with hi | hi
  · have := h.bit i hi; omega
  · have : i < n ∧ s.waits i + s.heard i < s.now + 1 := by simpa using hi
    exact this.2
theorem SI.beat {n : Nat} {s : SS} {j f : Nat} (hn : n ≤ 6) (h : SI n s j) (hf : f < n) : SI n (beatS s f) (j + 1) := by
  have h64 : s.set < 64 := Nat.lt_of_lt_of_le h.set (pow64 hn)
  have hh : ∀ i, upd s.heard f s.now i ≤ s.now := fun i => by rw [upd_apply]; split; exact Nat.le_refl _; exact h.heard i
  unfold beatS
  by_cases hb : s.set.testBit f = true
  · rw [if_pos hb]
    refine ⟨clr_lt h.set, hh, by have := h.now; show s.now ≤ _; omega, fun i => ?_, by have := h.wrong; show s.wrong + 1 ≤ _; omega, fun i hi => ?_⟩
    · show 1 ≤ upd s.waits f (s.waits f + 1) i ∧ upd s.waits f (s.waits f + 1) i ≤ 1 + (j + 1)
      rw [upd_apply]
      have h1 := h.waits f
      have h2 := h.waits i
      split <;> omega
    · have hi : (clr s.set f).testBit i = true := hi
      rw [clr_bit h64 (by omega)] at hi
      have : s.set.testBit i = true ∧ i ≠ f := by simpa using hi
      show upd s.waits f _ i + upd s.heard f _ i < s.now
      rw [upd_ne _ _ this.2, upd_ne _ _ this.2]
      exact h.bit i this.1
  · rw [if_neg hb]
    refine ⟨h.set, hh, by have := h.now; show s.now ≤ _; omega, fun i => by have := h.waits i; show 1 ≤ s.waits i ∧ s.waits i ≤ _; omega, by have := h.wrong; show s.wrong ≤ _; omega, fun i hi => ?_⟩
    show s.waits i + upd s.heard f _ i < s.now
    have : i ≠ f := fun e => hb (by rw [← e]; exact hi)
    rw [upd_ne _ _ this]
    exact h.bit i hi
theorem SI.step {n : Nat} {s : SS} {j : Nat} (hn : n ≤ 6) (h : SI n s j) (k f : Int) : SI n (suStep n k f s).2 (j + 1) := by
  unfold suStep
  split
  · exact h.up
  · split
    · exact h.tick
    · split
      · exact h.up
      · exact h.beat hn (by omega)
theorem SI.all {n : Nat} (hn : n ≤ 6) (M : Mv) : ∀ j, SI n (suE n M j) j
  | 0 => SI.start n
  | j + 1 => (SI.all hn M j).step hn _ _
end Go.Proofs.Ytcipdjdbafngkaa
