/- How many are sent in ring.Lead, if all begin: the plain laws. -/
import Derived.Test.YtelenomccmnkfaaRgMath
set_option linter.unusedVariables false
set_option linter.unusedSimpArgs false
namespace Go.Proofs.Ytelenomccmnkfaa

def aliveB (f : Nat → Int) (n o : Nat) : Nat → Bool
  | 0 => true
  | t + 1 => aliveB f n o t && decide (f ((o + t + 1) % n) < f o)
def cA (f : Nat → Int) (n t : Nat) : Nat := sumN n fun o => if aliveB f n o t = true then 1 else 0
def totA (f : Nat → Int) (n : Nat) : Nat := sumN n (cA f n)
theorem all_sent {n : Nat} {f : Nat → Int} {b : Nat → Bool} (hb : ∀ i, i < n → b i = true) : ∀ t i, i < n → (RW n f b t).2 i = true
  | 0, i, hi => hb i hi
  | t + 1, i, hi => stepS_up (all_sent hb t i hi)
theorem all_way {n : Nat} {f : Nat → Int} {b : Nat → Bool} (hb : ∀ i, i < n → b i = true) : ∀ t, NoHome n f b t → ∀ o, o < n → (RW n f b t).1 ((o + t + 1) % n) = if aliveB f n o t = true then some (f o) else none
  | 0, _, o, ho => by
    show (if b (pm1 ((o + 0 + 1) % n) n) = true then some (f (pm1 ((o + 0 + 1) % n) n)) else none) = _
    rw [Nat.add_zero, sc1_eq ho, pm_sc ho, hb o ho]; rfl
  | t + 1, hno, o, ho => by
    have ih := all_way hb t (fun i hi => hno i (by omega)) o ho
    have hp : (o + t + 1) % n < n := Nat.mod_lt _ (by omega)
    have e : (o + (t + 1) + 1) % n = sc1 ((o + t + 1) % n) n := by rw [← sc1_eq hp, Nat.mod_add_mod]; rfl
    rw [e]
    show outR f (RW n f b t).2 (RW n f b t).1 (pm1 (sc1 ((o + t + 1) % n) n) n) = _
    rw [pm_sc hp]
    have hn := hno t (by omega) _ hp
    have hs := all_sent (f := f) hb t _ hp
    unfold outR
    rw [ih] at hn ⊢
    cases ha : aliveB f n o t
    · simp [aliveB, ha]
    · rw [ha] at hn
      simp only [if_true] at hn ⊢
      rw [hs, aliveB, ha]
      simp only [if_true, Bool.true_and, decide_eq_true_eq]
      by_cases h1 : f o < f ((o + t + 1) % n)
      · rw [if_pos h1, if_neg (by omega)]
      · have : f o ≠ f ((o + t + 1) % n) := fun e => hn (by rw [e])
        rw [if_neg h1, if_pos (by omega)]
theorem all_cw {n : Nat} {f : Nat → Int} {b : Nat → Bool} (hb : ∀ i, i < n → b i = true) {t : Nat} (ht : t < n) (hno : NoHome n f b t) : cw n (RW n f b t).1 = cA f n t := by
  unfold cw cA
  rw [← sumN_rot _ n (t + 1) ht]
  refine sumN_congr fun o ho => ?_
  rw [← Nat.add_assoc, all_way hb t hno o ho]
  cases aliveB f n o t <;> rfl
theorem alive_iff {f : Nat → Int} {n o : Nat} : ∀ {t : Nat}, aliveB f n o t = true ↔ ∀ j, 1 ≤ j → j ≤ t → f ((o + j) % n) < f o
  | 0 => ⟨fun _ j h1 h2 => by omega, fun _ => rfl⟩
  | t + 1 => by
    rw [aliveB, Bool.and_eq_true, alive_iff (t := t), decide_eq_true_eq]
    constructor
    · rintro ⟨h1, h2⟩ j h3 h4
      by_cases e : j = t + 1
      · subst e; exact h2
      · exact h1 j h3 (by omega)
    · exact fun h => ⟨fun j h1 h2 => h j h1 (by omega), h (t + 1) (by omega) (Nat.le_refl _)⟩
theorem great_alive {f : Nat → Int} {n g t : Nat} (hR : RingOk f n) (hg : g < n) (hmax : ∀ j, j < n → f j ≤ f g) (ht : t < n) : aliveB f n g t = true := alive_iff.2 fun j h1 h2 => by
  have hm : (g + j) % n < n := Nat.mod_lt _ (by omega)
  have h3 := hmax _ hm
  have h4 : f ((g + j) % n) ≠ f g := fun e => by
    have := hR.eq hm hg e
    rw [add_mod_lt hg (by omega)] at this
    split at this <;> omega
  omega
/-- When all begin, the greatest is at home in the last round, and no one ahead. -/
theorem home_when {n : Nat} {f : Nat → Int} {b : Nat → Bool} {t p : Nat} (hR : RingOk f n) (hb : ∀ i, i < n → b i = true) (hno : NoHome n f b t) (hp : p < n) (hh : (RW n f b t).1 p = some (f p)) : tot n f b t = totA f n := by
  have hn := hR.sz.1
  obtain ⟨h1, h2, h3⟩ := home_great hR ⟨0, by omega, hb 0 (by omega)⟩ hno hp hh
  have ht : t = n - 1 := by
    apply Classical.byContradiction
    intro hne
    have h4 := all_way hb (n - 1) (fun i hi => hno i (by omega)) p hp
    rw [if_pos (great_alive hR hp h1 (by omega)), show p + (n - 1) + 1 = p + n by omega, Nat.add_mod_right, Nat.mod_eq_of_lt hp] at h4
    exact hno (n - 1) (by omega) p hp h4
  subst ht
  unfold tot totA
  rw [show n - 1 + 1 = n by omega]
  exact sumN_congr fun i hi => all_cw hb hi fun j hj => hno j (by omega)
theorem sumN_const (c : Nat) : ∀ n, sumN n (fun _ => c) = n * c
  | 0 => by simp [sumN]
  | n + 1 => by rw [sumN, sumN_const c n, Nat.succ_mul]
theorem totA_turn {f f' : Nat → Int} {n i : Nat} (hi : i < n) (hf : ∀ j, j < n → f' j = f ((j + i) % n)) : totA f' n = totA f n := by
  unfold totA
  refine sumN_congr fun t _ => ?_
  unfold cA
  rw [← sumN_rot (fun o => if aliveB f n o t = true then 1 else 0) n i (by omega)]
  refine sumN_congr fun o ho => ?_
  have : aliveB f' n o t = aliveB f n ((o + i) % n) t := by
    rw [Bool.eq_iff_iff, alive_iff, alive_iff]
    have key : ∀ j, f' ((o + j) % n) = f (((o + i) % n + j) % n) := fun j => by
      rw [hf _ (Nat.mod_lt _ (by omega)), Nat.mod_add_mod, Nat.mod_add_mod]
      congr 2; omega
    constructor
    · intro h j h1 h2; rw [← key, ← hf o ho]; exact h j h1 h2
    · intro h j h1 h2; rw [key, hf o ho]; exact h j h1 h2
  rw [this]
def lessP (f : Nat → Int) (n : Nat) (t o : Nat) : Nat := if f ((o + t + 1) % n) < f o then 1 else 0
def moreP (f : Nat → Int) (n : Nat) (t o : Nat) : Nat := if f o < f ((o + t + 1) % n) then 1 else 0
theorem less_more (f : Nat → Int) (n : Nat) (hn : 1 ≤ n) : sumN (n - 1) (fun t => sumN n (lessP f n t)) = sumN (n - 1) (fun t => sumN n (moreP f n t)) := by
  rw [← sumN_rev (fun t => sumN n (moreP f n t))]
  refine sumN_congr fun t ht => ?_
  rw [← sumN_rot (lessP f n t) n (n - 1 - t) (by omega)]
  refine sumN_congr fun o ho => ?_
  unfold lessP moreP
  rw [show ((o + (n - 1 - t)) % n + t + 1) % n = o by
    rw [Nat.add_assoc, Nat.mod_add_mod, show o + (n - 1 - t) + (t + 1) = o + n by omega, Nat.add_mod_right, Nat.mod_eq_of_lt ho]]
  rw [show o + (n - 1 - 1 - t) + 1 = o + (n - 1 - t) by omega]
theorem totA_bounds {f : Nat → Int} {n : Nat} (hR : RingOk f n) : 2 * n ≤ totA f n + 1 ∧ 2 * totA f n ≤ n * (n + 1) := by
  have hn := hR.sz.1
  have h0 : cA f n 0 = n := by
    have := sumN_const 1 n
    rw [Nat.mul_one] at this
    exact this
  have hT : totA f n = n + sumN (n - 1) (fun t => cA f n (t + 1)) := by
    unfold totA
    have h := sumN_head (cA f n) (n - 1)
    rw [show n - 1 + 1 = n by omega, h0] at h
    exact h
  constructor
  · obtain ⟨g, hg, hmax⟩ := great_at (f := f) hn
    have : (n - 1) * 1 ≤ sumN (n - 1) (fun t => cA f n (t + 1)) := sumN_ge fun t ht => by
      have h1 := sumN_pos (g := fun o => if aliveB f n o (t + 1) = true then 1 else 0) hg
      simp only [great_alive hR hg hmax (show t + 1 < n by omega), if_true] at h1
      exact h1
    omega
  · have h1 : sumN (n - 1) (fun t => cA f n (t + 1)) ≤ sumN (n - 1) (fun t => sumN n (lessP f n t)) := sumN_mono fun t ht => sumN_mono fun o ho => by
      unfold lessP
      by_cases h : aliveB f n o (t + 1) = true
      · have := alive_iff.1 h (t + 1) (by omega) (Nat.le_refl _)
        rw [if_pos h, if_pos (by rw [Nat.add_assoc]; exact this)]; exact Nat.le_refl _
      · rw [if_neg h]; exact Nat.zero_le _
    have h2 := less_more f n hn
    have h3 : sumN (n - 1) (fun t => sumN n (lessP f n t)) + sumN (n - 1) (fun t => sumN n (moreP f n t)) ≤ (n - 1) * (n * 1) := by
      rw [← sumN_add]
      refine sumN_le fun t _ => ?_
      rw [← sumN_add]
      refine sumN_le fun o _ => ?_
      unfold lessP moreP
      split <;> split <;> omega
    have h4 : n * (n + 1) = n * n + n := Nat.mul_succ n n
    have h5 : (n - 1) * (n * 1) = n * n - n := by rw [Nat.mul_one, Nat.sub_mul, Nat.one_mul]
    have h6 : n ≤ n * n := Nat.le_mul_of_pos_left n hn
    omega
end Go.Proofs.Ytelenomccmnkfaa
