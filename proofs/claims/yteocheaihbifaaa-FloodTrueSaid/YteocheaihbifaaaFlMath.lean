/- Flooding in plain functions: crashes, rounds, what each knows; in a round where nobody crashes all that are there come to know the same. -/
import Derived.Test.YteocheaihbifaaaPopM
import Derived.Test.YteocheaihbifaaaLay
import Derived.Test.YteocheaihbifaaaBits
set_option linter.unusedVariables false
set_option linter.unusedSimpArgs false
namespace Go.Proofs.Yteocheaihbifaaa
open Go.RowKit

/-- Crashes: how many, of whom, when, whom they reach; among n, in so many rounds. -/
structure Crs where
  n : Nat
  m : Nat
  R : Nat
  p : Nat → Nat
  r : Nat → Nat
  q : Nat → Nat

structure Crs.Ok (c : Crs) : Prop where
  n1 : 1 ≤ c.n
  n6 : c.n ≤ 6
  r8 : c.R ≤ 8
  p : ∀ i, i < c.m → c.p i < c.n
  r : ∀ i, i < c.m → 1 ≤ c.r i ∧ c.r i ≤ c.R
  q : ∀ i, i < c.m → c.q i < 2 ^ c.n
  one : ∀ i j, i < c.m → j < i → c.p i ≠ c.p j

def allW (n : Nat) : Nat := 2 ^ n - 1
def rchF (c : Crs) (r : Nat) : Nat → Nat → Nat
  | 0 => fun _ => allW c.n
  | k + 1 => if c.r k = r then upd (rchF c r k) (c.p k) (c.q k) else rchF c r k
/-- Without the bit. -/
def less (a i : Nat) : Nat := a &&& ((2 ^ 32 - 1) ^^^ 2 ^ i)
def lftF (c : Crs) (r there : Nat) : Nat → Nat
  | 0 => there
  | k + 1 => if c.r k = r then less (lftF c r there k) (c.p k) else lftF c r there k
def rch (c : Crs) (r : Nat) : Nat → Nat := rchF c r c.m
def lft (c : Crs) (r there : Nat) : Nat := lftF c r there c.m
/-- What is known behind i rows; in row i, behind j places. -/
def orT (knows : Nat → Nat) (there : Nat) (reach : Nat → Nat) : Nat → Nat → Nat
  | 0 => knows
  | i + 1 => fun j => if there.testBit i && (reach i).testBit j then orT knows there reach i j ||| knows i else orT knows there reach i j
def orM (knows : Nat → Nat) (there : Nat) (reach : Nat → Nat) (i j : Nat) (t : Nat) : Nat := if t < j then orT knows there reach (i + 1) t else orT knows there reach i t
def nxt (c : Crs) (r : Nat) (knows : Nat → Nat) (there : Nat) : Nat → Nat := orT knows there (rch c r) c.n
/-- Behind r rounds. -/
def kn (c : Crs) : Nat → (Nat → Nat) × Nat
  | 0 => (fun i => 2 ^ i, allW c.n)
  | r + 1 => (nxt c (r + 1) (kn c r).1 (kn c r).2, lft c (r + 1) (kn c r).2)
def minT (v : Nat → Int) (k : Nat) (a : Int) : Nat → Int
  | 0 => a
  | j + 1 => if k.testBit j then min (minT v k a j) (v j) else minT v k a j
def outF (c : Crs) (v : Nat → Int) (i : Nat) : Int := if (kn c c.R).2.testBit i then minT v ((kn c c.R).1 i) (v i) c.n else 0

theorem allW_bit (n i : Nat) : (allW n).testBit i = decide (i < n) := by
  unfold allW; rw [Nat.testBit_two_pow_sub_one]
theorem less_bit (a i j : Nat) (hj : j < 32) : (less a i).testBit j = (a.testBit j && decide (j ≠ i)) := by
  unfold less
  rw [Nat.testBit_and, Nat.testBit_xor, Nat.testBit_two_pow_sub_one, Nat.testBit_two_pow]
  by_cases h : i = j
  · subst h; simp [hj]
  · have h2 : ¬ j = i := fun e => h e.symm
    simp [h, hj, h2]
theorem less_le (a i : Nat) : less a i ≤ a := Nat.and_le_left
theorem lftF_le (c : Crs) (r there : Nat) : ∀ k, lftF c r there k ≤ there
  | 0 => Nat.le_refl _
  | k + 1 => by
    rw [lftF]; split
    · exact Nat.le_trans (less_le _ _) (lftF_le c r there k)
    · exact lftF_le c r there k
theorem lftF_bit (c : Crs) (r there j : Nat) (hj : j < 32) : ∀ k, (lftF c r there k).testBit j = true ↔ there.testBit j = true ∧ ∀ i, i < k → c.r i = r → c.p i ≠ j
  | 0 => by simp [lftF]
  | k + 1 => by
    rw [lftF]
    split
    · rename_i h
      rw [less_bit _ _ _ hj, Bool.and_eq_true, lftF_bit c r there j hj k, decide_eq_true_eq]
      constructor
      · rintro ⟨⟨h1, h2⟩, h3⟩
        refine ⟨h1, fun i hi hr => ?_⟩
        rcases Nat.lt_or_ge i k with h4 | h4
        · exact h2 i h4 hr
        · have : i = k := by omega
          subst this; exact fun e => h3 e.symm
      · rintro ⟨h1, h2⟩
        exact ⟨⟨h1, fun i hi => h2 i (by omega)⟩, fun e => h2 k (by omega) h e.symm⟩
    · rename_i h
      rw [lftF_bit c r there j hj k]
      refine and_congr_right fun _ => ⟨fun h2 i hi hr => ?_, fun h2 i hi => h2 i (by omega)⟩
      rcases Nat.lt_or_ge i k with h4 | h4
      · exact h2 i h4 hr
      · have : i = k := by omega
        subst this; exact absurd hr h
theorem rchF_lt {c : Crs} (hc : c.Ok) (r j : Nat) : ∀ k, k ≤ c.m → rchF c r k j < 2 ^ c.n
  | 0, _ => by
    have : 0 < 2 ^ c.n := Nat.two_pow_pos _
    simp only [rchF, allW]; omega
  | k + 1, hk => by
    rw [rchF]; split
    · unfold upd; split
      · exact hc.q k (by omega)
      · exact rchF_lt hc r j k (by omega)
    · exact rchF_lt hc r j k (by omega)
theorem rchF_quiet {c : Crs} {r : Nat} (h : ∀ i, i < c.m → c.r i ≠ r) (j : Nat) : ∀ k, k ≤ c.m → rchF c r k j = allW c.n
  | 0, _ => rfl
  | k + 1, hk => by rw [rchF, if_neg (h k (by omega))]; exact rchF_quiet h j k (by omega)
theorem lftF_quiet {c : Crs} {r : Nat} (there : Nat) (h : ∀ i, i < c.m → c.r i ≠ r) : ∀ k, k ≤ c.m → lftF c r there k = there
  | 0, _ => rfl
  | k + 1, hk => by rw [lftF, if_neg (h k (by omega))]; exact lftF_quiet there h k (by omega)

theorem orT_lt {knows : Nat → Nat} {there n : Nat} {reach : Nat → Nat} (h : ∀ i, i < n → knows i < 2 ^ n) {j : Nat} (hj : j < n) : ∀ i, i ≤ n → orT knows there reach i j < 2 ^ n
  | 0, _ => h j hj
  | i + 1, hi => by
    simp only [orT]; split
    · exact Nat.or_lt_two_pow (orT_lt h hj i (by omega)) (h i (by omega))
    · exact orT_lt h hj i (by omega)
theorem orT_bit {knows : Nat → Nat} {there : Nat} {reach : Nat → Nat} (j t : Nat) : ∀ i, (orT knows there reach i j).testBit t = true ↔ (knows j).testBit t = true ∨ ∃ i', i' < i ∧ there.testBit i' = true ∧ (reach i').testBit j = true ∧ (knows i').testBit t = true
  | 0 => by simp [orT]
  | i + 1 => by
    have ih := orT_bit (knows := knows) (there := there) (reach := reach) j t i
    have hstep : (orT knows there reach (i + 1) j).testBit t = true ↔ (orT knows there reach i j).testBit t = true ∨ (there.testBit i = true ∧ (reach i).testBit j = true ∧ (knows i).testBit t = true) := by
      simp only [orT]
      by_cases h : (there.testBit i && (reach i).testBit j) = true
      · rw [if_pos h, Nat.testBit_or, Bool.or_eq_true]
        rw [Bool.and_eq_true] at h
        simp [h.1, h.2]
      · rw [if_neg h]
        rw [Bool.and_eq_true] at h
        constructor
        · exact .inl
        · rintro (h1 | ⟨h1, h2, _⟩)
          · exact h1
          · exact absurd ⟨h1, h2⟩ h
    rw [hstep, ih]
    constructor
    · rintro ((h | ⟨i', h1, h2⟩) | h)
      · exact .inl h
      · exact .inr ⟨i', by omega, h2⟩
      · exact .inr ⟨i, by omega, h⟩
    · rintro (h | ⟨i', h1, h2⟩)
      · exact .inl (.inl h)
      · rcases Nat.lt_or_ge i' i with h3 | h3
        · exact .inl (.inr ⟨i', h3, h2⟩)
        · have : i' = i := by omega
          subst this; exact .inr h2
theorem orM_0 (knows : Nat → Nat) (there : Nat) (reach : Nat → Nat) (i : Nat) : orM knows there reach i 0 = orT knows there reach i := by
  funext u; unfold orM; rw [if_neg (by omega)]
theorem orM_self (knows : Nat → Nat) (there : Nat) (reach : Nat → Nat) (i t : Nat) : orM knows there reach i t t = orT knows there reach i t := by
  unfold orM; rw [if_neg (by omega)]
theorem orM_yes {knows : Nat → Nat} {there : Nat} {reach : Nat → Nat} {i t : Nat} (h1 : there.testBit i = true) (h2 : (reach i).testBit t = true) : orM knows there reach i (t + 1) = upd (orM knows there reach i t) t (orT knows there reach i t ||| knows i) := by
  funext u
  rw [upd_apply]
  unfold orM
  by_cases e : u = t
  · subst e
    rw [if_pos (by omega), if_pos rfl]
    simp only [orT, h1, h2, Bool.and_self, if_true]
  · by_cases e2 : u < t
    · rw [if_pos (by omega), if_neg e, if_pos e2]
    · rw [if_neg (by omega), if_neg e, if_neg e2]
theorem orM_no {knows : Nat → Nat} {there : Nat} {reach : Nat → Nat} {i t : Nat} (h : (there.testBit i && (reach i).testBit t) = false) : orM knows there reach i (t + 1) = orM knows there reach i t := by
  funext u
  unfold orM
  by_cases e : u = t
  · subst e
    rw [if_pos (by omega), if_neg (by omega)]
    simp only [orT]
    rw [if_neg (by rw [h]; simp)]
  · by_cases e2 : u < t
    · rw [if_pos (by omega), if_pos e2]
    · rw [if_neg (by omega), if_neg e2]
theorem orM_end (knows : Nat → Nat) (there : Nat) (reach : Nat → Nat) (i n : Nat) : ∀ u, u < n → orM knows there reach i n u = orT knows there reach (i + 1) u := by
  intro u hu; unfold orM; rw [if_pos hu]
def outTo (c : Crs) (v : Nat → Int) (i t : Nat) : Int := if t < i then outF c v t else 0
theorem outTo_no {c : Crs} {v : Nat → Int} {i : Nat} (h : (kn c c.R).2.testBit i = false) : outTo c v (i + 1) = outTo c v i := by
  funext t
  unfold outTo
  by_cases e : t = i
  · subst e
    rw [if_pos (by omega), if_neg (by omega), outF, h]; rfl
  · by_cases e2 : t < i
    · rw [if_pos (by omega), if_pos e2]
    · rw [if_neg (by omega), if_neg e2]
theorem outTo_yes {c : Crs} {v : Nat → Int} {i : Nat} (h : (kn c c.R).2.testBit i = true) : outTo c v (i + 1) = upd (outTo c v i) i (minT v ((kn c c.R).1 i) (v i) c.n) := by
  funext t
  rw [upd_apply]
  unfold outTo
  by_cases e : t = i
  · subst e
    rw [if_pos (by omega), if_pos rfl, outF, if_pos h]
  · by_cases e2 : t < i
    · rw [if_pos (by omega), if_neg e, if_pos e2]
    · rw [if_neg (by omega), if_neg e, if_neg e2]
theorem kn_there_le {c : Crs} : ∀ r, (kn c r).2 ≤ allW c.n
  | 0 => Nat.le_refl _
  | r + 1 => Nat.le_trans (lftF_le _ _ _ _) (kn_there_le r)
theorem allW_lt (n : Nat) : allW n < 2 ^ n := by
  have : 0 < 2 ^ n := Nat.two_pow_pos _
  unfold allW; omega
theorem kn_there_lt {c : Crs} (r : Nat) : (kn c r).2 < 2 ^ c.n := Nat.lt_of_le_of_lt (kn_there_le r) (allW_lt _)
theorem kn_lt {c : Crs} : ∀ r i, i < c.n → (kn c r).1 i < 2 ^ c.n
  | 0, _, hi => Nat.pow_lt_pow_right (by omega) hi
  | r + 1, _, hi => orT_lt (fun i hi => kn_lt r i hi) hi _ (Nat.le_refl _)
theorem kn_own {c : Crs} : ∀ r i, ((kn c r).1 i).testBit i = true
  | 0, i => by simp [kn]
  | r + 1, i => (orT_bit i i c.n).2 (.inl (kn_own r i))
theorem kn_there_bit {c : Crs} (hc : c.Ok) (j : Nat) (hj : j < 32) : ∀ r, (kn c r).2.testBit j = true ↔ j < c.n ∧ ∀ i, i < c.m → c.r i ≤ r → c.p i ≠ j
  | 0 => by
    show (allW c.n).testBit j = true ↔ _
    rw [allW_bit, decide_eq_true_eq]
    refine ⟨fun h => ⟨h, fun i hi hr => ?_⟩, And.left⟩
    have := (hc.r i hi).1; omega
  | r + 1 => by
    show (lftF c (r + 1) (kn c r).2 c.m).testBit j = true ↔ _
    rw [lftF_bit _ _ _ _ hj, kn_there_bit hc j hj r]
    constructor
    · rintro ⟨⟨h1, h2⟩, h3⟩
      refine ⟨h1, fun i hi hr => ?_⟩
      rcases Nat.lt_or_ge (c.r i) (r + 1) with h4 | h4
      · exact h2 i hi (by omega)
      · exact h3 i hi (by omega)
    · rintro ⟨h1, h2⟩
      exact ⟨⟨h1, fun i hi hr => h2 i hi (by omega)⟩, fun i hi hr => h2 i hi (by omega)⟩
theorem there_end {c : Crs} (hc : c.Ok) (j : Nat) : (kn c c.R).2.testBit j = true ↔ j < c.n ∧ ∀ i, i < c.m → c.p i ≠ j := by
  rcases Nat.lt_or_ge j 32 with hj | hj
  · rw [kn_there_bit hc j hj]
    exact and_congr_right fun _ => ⟨fun h i hi => h i hi (hc.r i hi).2, fun h i hi _ => h i hi⟩
  · have h6 := hc.n6
    constructor
    · intro h
      rw [testBit_big (Nat.lt_of_lt_of_le (kn_there_lt c.R) (Nat.le_trans (Nat.pow_le_pow_right (by omega) h6) (by decide))) hj] at h
      cases h
    · intro h; omega

/-- In a round where nobody crashes all that are there come to know the same; and later they know no more. -/
theorem quiet_same {c : Crs} (hc : c.Ok) {r : Nat} (hq : ∀ i, i < c.m → c.r i ≠ r + 1) : ∃ U, ∀ d j, (kn c (r + 1 + d)).2.testBit j = true → (kn c (r + 1 + d)).1 j = U := by
  have h6 := hc.n6
  by_cases hsome : ∃ j0, (kn c (r + 1)).2.testBit j0 = true
  · obtain ⟨j0, hj0⟩ := hsome
    have bit_lt : ∀ r j, (kn c r).2.testBit j = true → j < c.n := fun r j h => by
      rcases Nat.lt_or_ge j c.n with h1 | h1
      · exact h1
      · rw [Nat.testBit_lt_two_pow (Nat.lt_of_lt_of_le (kn_there_lt r) (Nat.pow_le_pow_right (by omega) h1))] at h; cases h
    have hth : (kn c (r + 1)).2 = (kn c r).2 := lftF_quiet _ hq _ (Nat.le_refl _)
    have hkn : ∀ j, (kn c (r + 1)).2.testBit j = true → ∀ t, ((kn c (r + 1)).1 j).testBit t = true ↔ ∃ i, (kn c r).2.testBit i = true ∧ ((kn c r).1 i).testBit t = true := by
      intro j hj t
      show (orT (kn c r).1 (kn c r).2 (rch c (r + 1)) c.n j).testBit t = true ↔ _
      rw [orT_bit]
      constructor
      · rintro (h | ⟨i, _, h2, _, h4⟩)
        · exact ⟨j, by rw [← hth]; exact hj, h⟩
        · exact ⟨i, h2, h4⟩
      · rintro ⟨i, h1, h2⟩
        refine .inr ⟨i, bit_lt r i h1, h1, ?_, h2⟩
        show (rchF c (r + 1) c.m i).testBit j = true
        rw [rchF_quiet hq i _ (Nat.le_refl _), allW_bit]
        exact decide_eq_true (bit_lt _ j hj)
    refine ⟨(kn c (r + 1)).1 j0, fun d => ?_⟩
    induction d with
    | zero =>
      intro j hj
      refine Nat.eq_of_testBit_eq fun t => ?_
      rw [Bool.eq_iff_iff, hkn j hj, hkn j0 hj0]
    | succ d ih =>
      intro j hj
      have hsub : ∀ j, (kn c (r + 1 + (d + 1))).2.testBit j = true → (kn c (r + 1 + d)).2.testBit j = true := by
        intro j hj
        have h1 := bit_lt _ j hj
        exact ((lftF_bit _ _ _ j (by omega) _).1 hj).1
      refine Nat.eq_of_testBit_eq fun t => ?_
      rw [Bool.eq_iff_iff]
      show (orT (kn c (r + 1 + d)).1 (kn c (r + 1 + d)).2 (rch c (r + 1 + d + 1)) c.n j).testBit t = true ↔ _
      rw [orT_bit, ih j (hsub j hj)]
      constructor
      · rintro (h | ⟨i, _, h2, _, h4⟩)
        · exact h
        · rw [ih i h2] at h4; exact h4
      · exact .inl
  · refine ⟨0, fun d j hj => ?_⟩
    exfalso
    refine hsome ⟨j, ?_⟩
    have bl : ∀ d, (kn c (r + 1 + d)).2.testBit j = true → (kn c (r + 1)).2.testBit j = true := by
      intro d
      induction d with
      | zero => exact id
      | succ d ih =>
        intro h
        have h32 : j < 32 := by
          rcases Nat.lt_or_ge j 32 with h1 | h1
          · exact h1
          · rw [testBit_big (Nat.lt_of_lt_of_le (kn_there_lt _) (Nat.le_trans (Nat.pow_le_pow_right (by omega) h6) (by decide))) h1] at h; cases h
        exact ih ((lftF_bit _ _ _ j h32 _).1 h).1
    exact bl d hj

theorem minT_le (v : Nat → Int) (k : Nat) (a : Int) : ∀ n, minT v k a n ≤ a ∧ ∀ j, j < n → k.testBit j = true → minT v k a n ≤ v j
  | 0 => ⟨Int.le_refl _, fun j h => by omega⟩
  | n + 1 => by
    obtain ⟨h1, h2⟩ := minT_le v k a n
    rw [minT]
    split
    · refine ⟨by omega, fun j hj hb => ?_⟩
      rcases Nat.lt_or_ge j n with h3 | h3
      · have := h2 j h3 hb; omega
      · have : j = n := by omega
        subst this; omega
    · rename_i hn
      refine ⟨h1, fun j hj hb => ?_⟩
      rcases Nat.lt_or_ge j n with h3 | h3
      · exact h2 j h3 hb
      · have : j = n := by omega
        subst this; exact absurd hb hn
theorem minT_is (v : Nat → Int) (k : Nat) (a : Int) : ∀ n, minT v k a n = a ∨ ∃ j, j < n ∧ k.testBit j = true ∧ minT v k a n = v j
  | 0 => .inl rfl
  | n + 1 => by
    rw [minT]
    have old : minT v k a n = a ∨ ∃ j, j < n + 1 ∧ k.testBit j = true ∧ minT v k a n = v j := by
      rcases minT_is v k a n with h | ⟨j, h1, h2, h3⟩
      · exact .inl h
      · exact .inr ⟨j, by omega, h2, h3⟩
    split
    · rename_i hn
      rcases Int.le_total (minT v k a n) (v n) with h | h
      · rw [Int.min_eq_left h]; exact old
      · rw [Int.min_eq_right h]; exact .inr ⟨n, by omega, hn, rfl⟩
    · exact old
theorem minT_own {v : Nat → Int} {k n i j : Nat} (hi : i < n) (hj : j < n) (hki : k.testBit i = true) (hkj : k.testBit j = true) : minT v k (v i) n = minT v k (v j) n := by
  have le : ∀ i j, i < n → j < n → k.testBit i = true → k.testBit j = true → minT v k (v i) n ≤ minT v k (v j) n := by
    intro i j hi hj hki hkj
    rcases minT_is v k (v j) n with h | ⟨t, h1, h2, h3⟩
    · rw [h]; exact (minT_le v k (v i) n).2 j hj hkj
    · rw [h3]; exact (minT_le v k (v i) n).2 t h1 h2
  exact Int.le_antisymm (le i j hi hj hki hkj) (le j i hj hi hkj hki)

theorem agree {c : Crs} (hc : c.Ok) (v : Nat → Int) {r : Nat} (hr : 1 ≤ r ∧ r ≤ c.R) (hq : ∀ i, i < c.m → c.r i ≠ r) {i j : Nat} (hi : (kn c c.R).2.testBit i = true) (hj : (kn c c.R).2.testBit j = true) : outF c v i = outF c v j := by
  obtain ⟨r', rfl⟩ : ∃ r', r = r' + 1 := ⟨r - 1, by omega⟩
  obtain ⟨U, hU⟩ := quiet_same hc hq
  have hR : c.R = r' + 1 + (c.R - (r' + 1)) := by omega
  have ei := hU (c.R - (r' + 1)) i (by rw [← hR]; exact hi)
  have ej := hU (c.R - (r' + 1)) j (by rw [← hR]; exact hj)
  rw [← hR] at ei ej
  have oi := kn_own (c := c) c.R i
  have oj := kn_own (c := c) c.R j
  unfold outF
  rw [if_pos hi, if_pos hj, ei, ej]
  rw [ei] at oi; rw [ej] at oj
  exact minT_own ((there_end hc i).1 hi).1 ((there_end hc j).1 hj).1 oi oj

/-- Fewer numbers than places leave one out. -/
theorem left_out (p : Nat → Nat) : ∀ m n, m < n → ∃ j, j < n ∧ ∀ i, i < m → p i ≠ j
  | 0, n, h => ⟨0, h, fun i hi => by omega⟩
  | m + 1, n, h => by
    by_cases hm : p m < n
    · obtain ⟨j, hj, hp⟩ := left_out (fun i => if p i = n - 1 then p m else p i) m (n - 1) (by omega)
      by_cases e : p m = n - 1
      · refine ⟨j, by omega, fun i hi => ?_⟩
        rcases Nat.lt_or_ge i m with h1 | h1
        · have := hp i h1
          split at this
          · omega
          · exact this
        · have : i = m := by omega
          subst this; omega
      · by_cases e2 : j = p m
        · refine ⟨n - 1, by omega, fun i hi => ?_⟩
          rcases Nat.lt_or_ge i m with h1 | h1
          · have := hp i h1
            split at this
            · omega
            · assumption
          · have : i = m := by omega
            subst this; exact e
        · refine ⟨j, by omega, fun i hi => ?_⟩
          rcases Nat.lt_or_ge i m with h1 | h1
          · have := hp i h1
            split at this
            · omega
            · exact this
          · have : i = m := by omega
            subst this; exact fun h => e2 h.symm
    · obtain ⟨j, hj, hp⟩ := left_out p m n (by omega)
      refine ⟨j, hj, fun i hi => ?_⟩
      rcases Nat.lt_or_ge i m with h1 | h1
      · exact hp i h1
      · have : i = m := by omega
        subst this; omega
/-- Different numbers below n: no more than n. -/
theorem no_more {p : Nat → Nat} : ∀ {m n : Nat}, (∀ i, i < m → p i < n) → (∀ i j, i < m → j < i → p i ≠ p j) → m ≤ n := by
  intro m n h1 h2
  by_cases hmn : m ≤ n
  · exact hmn
  exfalso
  -- the place of each number below n: a later one has the same
  obtain ⟨j, hj, hp⟩ := left_out (fun x => (((List.range m).find? fun i => p i == x).getD m)) n m (by omega)
  have hpj := hp (p j) (h1 j hj)
  cases hf : (List.range m).find? (fun i => p i == p j) with
  | none => rw [List.find?_eq_none] at hf; exact hf j (by simpa using hj) (by simp)
  | some i =>
    rw [hf] at hpj
    have ⟨hi1, hi2⟩ : p i = p j ∧ i < m := ⟨by simpa using List.find?_some hf, by simpa using List.mem_of_find?_eq_some hf⟩
    have hne : i ≠ j := hpj
    rcases Nat.lt_or_ge i j with h | h
    · exact h2 j i hj h hi1.symm
    · exact h2 i j hi2 (by omega) hi1
theorem Crs.Ok.m_le {c : Crs} (hc : c.Ok) : c.m ≤ c.n := no_more hc.p hc.one
theorem quiet_round {c : Crs} (h : c.m < c.R) : ∃ r, (1 ≤ r ∧ r ≤ c.R) ∧ ∀ i, i < c.m → c.r i ≠ r := by
  obtain ⟨j, hj, hp⟩ := left_out (fun i => c.r i - 1) c.m c.R h
  exact ⟨j + 1, ⟨by omega, by omega⟩, fun i hi e => hp i hi (by omega)⟩

def offF (c : Crs) : Nat → Nat
  | 0 => allW c.n
  | k + 1 => less (offF c k) (c.p k)
theorem offF_bit (c : Crs) (j : Nat) (hj : j < 32) : ∀ k, (offF c k).testBit j = true ↔ j < c.n ∧ ∀ i, i < k → c.p i ≠ j
  | 0 => by simp [offF, allW_bit]
  | k + 1 => by
    rw [offF, less_bit _ _ _ hj, Bool.and_eq_true, offF_bit c j hj k, decide_eq_true_eq]
    constructor
    · rintro ⟨⟨h1, h2⟩, h3⟩
      refine ⟨h1, fun i hi => ?_⟩
      rcases Nat.lt_or_ge i k with h4 | h4
      · exact h2 i h4
      · have : i = k := by omega
        subst this; exact fun e => h3 e.symm
    · rintro ⟨h1, h2⟩
      exact ⟨⟨h1, fun i hi => h2 i (by omega)⟩, fun e => h2 k (by omega) e.symm⟩
theorem popTo_less (a i m : Nat) (hm : m ≤ 32) (hb : a.testBit i = true) : popTo (less a i) m + (if i < m then 1 else 0) = popTo a m := by
  induction m with
  | zero => simp [popTo]
  | succ m ih =>
    have ih := ih (by omega)
    rw [popTo, popTo, less_bit _ _ _ (by omega)]
    by_cases e : m = i
    · subst e
      simp [hb] at ih ⊢
      omega
    · have : (if i < m + 1 then (1 : Nat) else 0) = if i < m then 1 else 0 := by
        by_cases h : i < m
        · rw [if_pos h, if_pos (by omega)]
        · rw [if_neg h, if_neg (by omega)]
      rw [this]
      simp only [ne_eq, e, not_false_eq_true, decide_true, Bool.and_true]
      omega
theorem pop_off {c : Crs} (hc : c.Ok) : ∀ k, k ≤ c.m → pop (offF c k) + k = c.n
  | 0, _ => by
    have h6 := hc.n6
    show popTo (allW c.n) 32 + 0 = c.n
    rw [popTo_stop (allW_lt c.n) (show c.n ≤ 32 by omega)]
    exact popTo_full c.n c.n (Nat.le_refl _)
  | k + 1, hk => by
    have ih := pop_off hc k (by omega)
    have h6 := hc.n6
    have hp := hc.p k (by omega)
    have hb : (offF c k).testBit (c.p k) = true := (offF_bit c _ (by omega) k).2 ⟨hp, fun i hi e => hc.one k i (by omega) hi e.symm⟩
    have := popTo_less (offF c k) (c.p k) 32 (Nat.le_refl _) hb
    rw [if_pos (by omega)] at this
    rw [offF]
    unfold pop at ih ⊢
    omega
theorem offF_le (c : Crs) : ∀ k, offF c k ≤ allW c.n
  | 0 => Nat.le_refl _
  | k + 1 => Nat.le_trans (less_le _ _) (offF_le c k)
theorem there_pop {c : Crs} (hc : c.Ok) : pop (kn c c.R).2 + c.m = c.n := by
  have h6 := hc.n6
  have : (kn c c.R).2 = offF c c.m := Nat.eq_of_testBit_eq fun j => by
    rw [Bool.eq_iff_iff, there_end hc]
    rcases Nat.lt_or_ge j 32 with hj | hj
    · rw [offF_bit c j hj]
    · rw [testBit_big (Nat.lt_of_lt_of_le (Nat.lt_of_le_of_lt (offF_le c c.m) (allW_lt _)) (Nat.le_trans (Nat.pow_le_pow_right (by omega) h6) (by decide))) hj]
      constructor
      · intro h; omega
      · intro h; cases h
  rw [this]; exact pop_off hc c.m (Nat.le_refl _)
theorem there_all {c : Crs} (h : c.m = 0) : ∀ r, (kn c r).2 = allW c.n
  | 0 => rfl
  | r + 1 => by
    show lftF c (r + 1) (kn c r).2 c.m = _
    rw [h]; exact there_all h r
theorem someone {c : Crs} (hc : c.Ok) (h : c.m ≠ c.n) : ∃ j, (kn c c.R).2.testBit j = true := by
  obtain ⟨j, h1, h2⟩ := left_out c.p c.m c.n (by have := hc.m_le; omega)
  exact ⟨j, (there_end hc j).2 ⟨h1, h2⟩⟩
theorem out_le {c : Crs} (v : Nat → Int) {i : Nat} (hi : (kn c c.R).2.testBit i = true) : outF c v i ≤ v i := by
  unfold outF; rw [if_pos hi]; exact (minT_le _ _ _ _).1
theorem out_has {c : Crs} (hc : c.Ok) (v : Nat → Int) {i : Nat} (hi : (kn c c.R).2.testBit i = true) : ∃ j, j < c.n ∧ outF c v i = v j := by
  unfold outF; rw [if_pos hi]
  rcases minT_is v ((kn c c.R).1 i) (v i) c.n with h | ⟨j, h1, _, h3⟩
  · exact ⟨i, ((there_end hc i).1 hi).1, h⟩
  · exact ⟨j, h1, h3⟩
theorem out_gone {c : Crs} (v : Nat → Int) {i : Nat} (hi : (kn c c.R).2.testBit i = false) : outF c v i = 0 := by
  unfold outF; rw [if_neg (by rw [hi]; simp)]
end Go.Proofs.Yteocheaihbifaaa
