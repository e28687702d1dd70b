/- Links, who is low, rounds, turns: the plain laws. -/
import Derived.Test.YtgfogcaklcnliaaCyc
import Derived.Test.YtgfogcaklcnliaaBits
import Derived.Test.YtgfogcaklcnliaaRec2
set_option linter.unusedVariables false
set_option linter.unusedSimpArgs false
namespace Go.Proofs.Ytgfogcaklcnliaa
open Relation

abbrev Lk := List (Nat × Nat)
def f1 (l : Lk) (j : Nat) : Nat := (l[j]?.getD (0, 0)).1
def f2 (l : Lk) (j : Nat) : Nat := (l[j]?.getD (0, 0)).2
def lkR (l : Lk) : Nat → Go.Value := recF2 (fun j => (f1 l j : Nat)) (fun j => (f2 l j : Nat))
theorem f_at {l : Lk} {j : Nat} (hj : j < l.length) : l[j]? = some (f1 l j, f2 l j) := by
  rw [f1, f2, List.getElem?_eq_getElem hj]
  rfl
theorem f_mem {l : Lk} {j : Nat} (hj : j < l.length) : (f1 l j, f2 l j) ∈ l := List.mem_of_getElem? (f_at hj)
theorem mem_f {l : Lk} {x : Nat × Nat} (hx : x ∈ l) : ∃ j, j < l.length ∧ f1 l j = x.1 ∧ f2 l j = x.2 := by
  obtain ⟨j, hj⟩ := List.getElem?_of_mem hx
  have hl : j < l.length := (List.getElem?_eq_some_iff.1 hj).1
  refine ⟨j, hl, ?_, ?_⟩
  · rw [f1, hj]; rfl
  · rw [f2, hj]; rfl

/-- May links be? -/
def FkOk (n : Int) (m : Nat) (p q : Nat → Int) : Prop :=
  (1 ≤ n ∧ n ≤ 6 ∧ m ≤ 15) ∧ (∀ j, j < m → 0 ≤ p j ∧ p j < n ∧ 0 ≤ q j ∧ q j < n ∧ p j ≠ q j) ∧
  ∀ i, i < m → ∀ j, j < i → ¬ (p i = p j ∧ q i = q j ∨ p i = q j ∧ q i = p j)
structure LOk (n : Nat) (l : Lk) : Prop where
  h1 : 1 ≤ n
  h6 : n ≤ 6
  hm : l.length ≤ 15
  rg : ∀ x, x ∈ l → x.1 < n ∧ x.2 < n ∧ x.1 ≠ x.2
  tw : ∀ i, i < l.length → ∀ j, j < i → ¬ (f1 l i = f1 l j ∧ f2 l i = f2 l j ∨ f1 l i = f2 l j ∧ f2 l i = f1 l j)
theorem lok_of {n : Int} {m : Nat} {p q : Nat → Int} (h : FkOk n m p q) : ∃ (n' : Nat) (l : Lk), n = n' ∧ m = l.length ∧ LOk n' l ∧ ∀ j, j < m → p j = f1 l j ∧ q j = f2 l j := by
  obtain ⟨⟨h1, h6, hm⟩, hr, ht⟩ := h
  obtain ⟨n', rfl⟩ := Int.eq_ofNat_of_zero_le (by omega : 0 ≤ n)
  let l : Lk := (List.range m).map fun j => ((p j).toNat, (q j).toNat)
  have hlen : l.length = m := by simp [l]
  have hat : ∀ j, j < m → f1 l j = (p j).toNat ∧ f2 l j = (q j).toNat := by
    intro j hj
    have : l[j]? = some ((p j).toNat, (q j).toNat) := by simp [l, hj]
    rw [f1, f2, this]
    exact ⟨rfl, rfl⟩
  have hpq : ∀ j, j < m → p j = f1 l j ∧ q j = f2 l j := by
    intro j hj
    obtain ⟨a, b⟩ := hat j hj
    have := hr j hj
    omega
  refine ⟨n', l, rfl, hlen.symm, ⟨by omega, by omega, by omega, ?_, ?_⟩, hpq⟩
  · intro x hx
    obtain ⟨j, hj, e1, e2⟩ := mem_f hx
    have := hr j (by omega)
    have := hpq j (by omega)
    omega
  · intro i hi j hj hc
    have a := hpq i (by omega)
    have b := hpq j (by omega)
    apply ht i (by omega) j hj
    omega
theorem LOk.fk {n : Nat} {l : Lk} (h : LOk n l) : FkOk n l.length (fun j => (f1 l j : Nat)) (fun j => (f2 l j : Nat)) := by
  refine ⟨⟨by have := h.h1; omega, by have := h.h6; omega, h.hm⟩, fun j hj => ?_, fun i hi j hj hc => h.tw i hi j hj (by simp only at hc; exact_mod_cast hc)⟩
  have := h.rg _ (f_mem hj)
  simp only at this
  obtain ⟨a, b, c⟩ := this
  exact ⟨Int.natCast_nonneg _, Int.ofNat_lt.2 a, Int.natCast_nonneg _, Int.ofNat_lt.2 b, fun h => c (Int.ofNat.inj h)⟩
theorem LOk.at_ {n : Nat} {l : Lk} (h : LOk n l) {j : Nat} (hj : j < l.length) : f1 l j < n ∧ f2 l j < n ∧ f1 l j ≠ f2 l j := h.rg _ (f_mem hj)

/-! Who is low. -/
def clr (a i : Nat) : Nat := a &&& (4294967295 - 2 ^ i)
theorem clr_bit {a i : Nat} (hi : i < 32) (ha : a < 4294967296) (x : Nat) : (clr a i).testBit x = (a.testBit x && !decide (i = x)) := by
  have e : 4294967295 - 2 ^ i = 2 ^ 32 - (2 ^ i + 1) := by generalize 2 ^ i = z; omega
  rw [clr, Nat.testBit_and, e, Nat.testBit_two_pow_sub_succ (Nat.pow_lt_pow_right (by omega) hi), Nat.testBit_two_pow]
  by_cases hx : x < 32
  · simp [hx]
  · have hx' : 32 ≤ x := by omega
    rw [testBit_big ha hx']; rfl
theorem clr_le (a i : Nat) : clr a i ≤ a := Nat.and_le_left
def lowTo (n : Nat) (l : Lk) : Nat → Nat
  | 0 => 2 ^ n - 1
  | k + 1 => clr (lowTo n l k) (f1 l k)
def low (n : Nat) (l : Lk) : Nat := lowTo n l l.length
theorem lowTo_lt (n : Nat) (l : Lk) (k : Nat) : lowTo n l k < 2 ^ n := by
  induction k with
  | zero => have := Nat.two_pow_pos n; rw [lowTo]; omega
  | succ k ih => exact Nat.lt_of_le_of_lt (clr_le _ _) ih
theorem low_lt (n : Nat) (l : Lk) : low n l < 2 ^ n := lowTo_lt _ _ _
theorem six_small {n a : Nat} (h6 : n ≤ 6) (ha : a < 2 ^ n) : a < 64 := Nat.lt_of_lt_of_le ha (Nat.pow_le_pow_right (n := 2) (by omega) h6)
theorem low_bit {n : Nat} {l : Lk} (h6 : n ≤ 6) (hr : ∀ x, x ∈ l → x.1 < n) (i : Nat) : (low n l).testBit i = true ↔ i < n ∧ ∀ x, x ∈ l → x.1 ≠ i := by
  have key : ∀ k, k ≤ l.length → ((lowTo n l k).testBit i = true ↔ i < n ∧ ∀ j, j < k → f1 l j ≠ i) := by
    intro k
    induction k with
    | zero =>
      intro _
      rw [lowTo, Nat.testBit_two_pow_sub_one, decide_eq_true_iff]
      exact ⟨fun h => ⟨h, fun j hj => absurd hj (by omega)⟩, fun h => h.1⟩
    | succ k ih =>
      intro hk
      have hf := hr _ (f_mem (show k < l.length by omega))
      simp only at hf
      rw [lowTo, clr_bit (by omega) (by have := six_small h6 (lowTo_lt n l k); omega), Bool.and_eq_true, ih (by omega)]
      simp only [Bool.not_eq_true', decide_eq_false_iff_not]
      constructor
      · rintro ⟨⟨h1, h2⟩, h3⟩
        refine ⟨h1, fun j hj => ?_⟩
        rcases Nat.lt_succ_iff_lt_or_eq.1 hj with h | rfl
        · exact h2 j h
        · exact h3
      · rintro ⟨h1, h2⟩
        exact ⟨⟨h1, fun j hj => h2 j (by omega)⟩, h2 k (by omega)⟩
  rw [low, key _ (Nat.le_refl _)]
  constructor
  · rintro ⟨h1, h2⟩
    refine ⟨h1, fun x hx => ?_⟩
    obtain ⟨j, hj, e, _⟩ := mem_f hx
    rw [← e]; exact h2 j hj
  · rintro ⟨h1, h2⟩
    exact ⟨h1, fun j hj => h2 _ (f_mem hj)⟩

/-! Rounds. -/
def keepL (l : Lk) (S : Nat) : Lk := l.filter fun x => !S.testBit x.2
def peel (n : Nat) (l : Lk) : Nat → Nat
  | 0 => 0
  | r + 1 => low n (keepL l (peel n l r))
def isRound (n : Nat) (l : Lk) : Bool := peel n l n != 2 ^ n - 1
def Ln (l : Lk) (a b : Nat) : Prop := (a, b) ∈ l
def Cyc (l : Lk) : Prop := ∃ v, TransGen (Ln l) v v
/-- A property that goes on along links for as many steps as there are places finds a cycle. -/
theorem path_cyc {R : Nat → Nat → Prop} {n : Nat} (P : Nat → Nat → Prop) (hlt : ∀ r v, P r v → v < n) (hs : ∀ r v, P (r + 1) v → ∃ w, R v w ∧ P r w) {v : Nat} (hv : P n v) : ∃ u, TransGen R u u := by
  have key : ∀ r v, P r v → ∃ s : Nat → Nat, (∀ k, k ≤ r → s k < n) ∧ s 0 = v ∧ ∀ k, k < r → R (s k) (s (k + 1)) := by
    intro r
    induction r with
    | zero => intro v hv; exact ⟨fun _ => v, fun _ _ => hlt _ _ hv, rfl, fun k hk => absurd hk (by omega)⟩
    | succ r ih =>
      intro v hv
      obtain ⟨w, hw, hp⟩ := hs r v hv
      obtain ⟨s, h1, h2, h3⟩ := ih w hp
      refine ⟨fun k => if k = 0 then v else s (k - 1), fun k hk => ?_, rfl, fun k hk => ?_⟩
      · show (if k = 0 then v else s (k - 1)) < n
        split
        · exact hlt _ _ hv
        · exact h1 _ (by omega)
      · show R (if k = 0 then v else s (k - 1)) (if k + 1 = 0 then v else s (k + 1 - 1))
        rw [if_neg (Nat.succ_ne_zero k)]
        by_cases h0 : k = 0
        · subst h0
          rw [if_pos rfl]
          show R v (s 0)
          rw [h2]
          exact hw
        · rw [if_neg h0]
          have := h3 (k - 1) (by omega)
          rw [show k - 1 + 1 = k by omega] at this
          exact this
  obtain ⟨s, h1, _, h3⟩ := key n v hv
  obtain ⟨a, b, hab, hb, he⟩ := pigeon n s h1
  have hp : ∀ d, a + d + 1 ≤ b → TransGen R (s a) (s (a + d + 1)) := by
    intro d
    induction d with
    | zero => intro h; exact .single (h3 a (by omega))
    | succ d ih => intro h; exact .tail (ih (by omega)) (h3 (a + d + 1) (by omega))
  have := hp (b - a - 1) (by omega)
  rw [show a + (b - a - 1) + 1 = b by omega, ← he] at this
  exact ⟨s a, this⟩
theorem keep_mem {l : Lk} {S : Nat} {x : Nat × Nat} : x ∈ keepL l S ↔ x ∈ l ∧ S.testBit x.2 = false := by simp [keepL]
theorem peel_lt (n : Nat) (l : Lk) (r : Nat) : peel n l r < 2 ^ n := by
  cases r with
  | zero => exact Nat.two_pow_pos n
  | succ r => exact low_lt _ _
theorem peel_bit {n : Nat} {l : Lk} (h : LOk n l) (r i : Nat) : (peel n l (r + 1)).testBit i = true ↔ i < n ∧ ∀ x, x ∈ l → x.1 = i → (peel n l r).testBit x.2 = true := by
  rw [peel, low_bit h.h6 (fun x hx => (h.rg x (keep_mem.1 hx).1).1)]
  constructor
  · rintro ⟨h1, h2⟩
    refine ⟨h1, fun x hx he => ?_⟩
    cases hb : (peel n l r).testBit x.2 with
    | true => rfl
    | false => exact absurd he (h2 x (keep_mem.2 ⟨hx, hb⟩))
  · rintro ⟨h1, h2⟩
    refine ⟨h1, fun x hx he => ?_⟩
    obtain ⟨h3, h4⟩ := keep_mem.1 hx
    rw [h2 x h3 he] at h4
    cases h4
theorem ln_lt {n : Nat} {l : Lk} (h : LOk n l) {a b : Nat} (hab : Ln l a b) : a < n ∧ b < n ∧ a ≠ b := h.rg _ hab
theorem full_of {n S : Nat} (hS : S < 2 ^ n) (h : ∀ i, i < n → S.testBit i = true) : S = 2 ^ n - 1 := by
  apply Nat.eq_of_testBit_eq
  intro i
  rw [Nat.testBit_two_pow_sub_one]
  by_cases hi : i < n
  · rw [h i hi]; simp [hi]
  · rw [Nat.testBit_lt_two_pow (Nat.lt_of_lt_of_le hS (Nat.pow_le_pow_right (by omega) (by omega)))]; simp [hi]
theorem round_iff {n : Nat} {l : Lk} (h : LOk n l) : isRound n l = true ↔ Cyc l := by
  have e : isRound n l = true ↔ peel n l n ≠ 2 ^ n - 1 := by simp [isRound]
  rw [e]
  constructor
  · intro hne
    obtain ⟨v, hv, hb⟩ : ∃ v, v < n ∧ (peel n l n).testBit v = false := by
      apply Classical.byContradiction
      intro hno
      apply hne
      refine full_of (peel_lt _ _ _) fun i hi => ?_
      cases hb : (peel n l n).testBit i with
      | true => rfl
      | false => exact absurd ⟨i, hi, hb⟩ hno
    refine path_cyc (R := Ln l) (n := n) (fun r v => v < n ∧ (peel n l r).testBit v = false) (fun r v hv => hv.1) ?_ (v := v) ⟨hv, hb⟩
    intro r v ⟨hv, hb⟩
    apply Classical.byContradiction
    intro hno
    have : (peel n l (r + 1)).testBit v = true := (peel_bit h r v).2 ⟨hv, fun x hx he => by
      cases hb : (peel n l r).testBit x.2 with
      | true => rfl
      | false => exact absurd ⟨x.2, he ▸ hx, (h.rg x hx).2.1, hb⟩ hno⟩
    rw [this] at hb
    cases hb
  · rintro ⟨v, hv⟩ hfull
    obtain ⟨U, hu, _, hs⟩ := of_cyc hv
    have key : ∀ r, ∀ u, U u → (peel n l r).testBit u = false := by
      intro r
      induction r with
      | zero => intro u _; simp [peel]
      | succ r ih =>
        intro u hu
        cases hb : (peel n l (r + 1)).testBit u with
        | false => rfl
        | true =>
          obtain ⟨w, hw, hl⟩ := hs u hu
          have := ((peel_bit h r u).1 hb).2 _ hl rfl
          rw [ih w hw] at this
          cases this
    have h1 := key n v hu
    have hvn : v < n := by
      obtain ⟨w, _, hl⟩ := hs v hu
      exact (ln_lt h hl).1
    rw [hfull, Nat.testBit_two_pow_sub_one] at h1
    simp [hvn] at h1
/-- Without a cycle somebody is low. -/
theorem low_some {n : Nat} {l : Lk} (h : LOk n l) (hc : ¬ Cyc l) : low n l ≠ 0 := by
  intro h0
  apply hc
  have h1 := h.h1
  obtain ⟨v, _, hv⟩ := cyc_of (R := Ln l) (n := n) (fun v => v < n) (u := 0) (by omega) (fun v hv => hv) (by
    intro v hv
    apply Classical.byContradiction
    intro hno
    have : (low n l).testBit v = true := (low_bit h.h6 (fun x hx => (h.rg x hx).1) v).2 ⟨hv, fun x hx he => hno ⟨x.2, (h.rg x hx).2.1, by
      show (v, x.2) ∈ l
      rw [← he]; exact hx⟩⟩
    rw [h0] at this
    simp at this)
  exact ⟨v, hv⟩
theorem low_full {n : Nat} {l : Lk} (h : LOk n l) : low n l = 2 ^ n - 1 ↔ l.length = 0 := by
  constructor
  · intro hf
    rcases Nat.eq_zero_or_pos l.length with h0 | hpos
    · exact h0
    · have hx := f_mem hpos
      have h1 := (h.rg _ hx).1
      simp only at h1
      have : (low n l).testBit (f1 l 0) = true := by rw [hf, Nat.testBit_two_pow_sub_one]; simp [h1]
      exact absurd rfl (((low_bit h.h6 (fun x hx => (h.rg x hx).1) _).1 this).2 _ hx)
  · intro h0
    rw [low, h0]
    rfl

/-! Turns. -/
def tn (S : Nat) (x : Nat × Nat) : Nat × Nat := if S.testBit x.2 then (x.2, x.1) else x
def turnL (l : Lk) (S : Nat) : Lk := l.map (tn S)
theorem turn_len (l : Lk) (S : Nat) : (turnL l S).length = l.length := by simp [turnL]
theorem turn_at {l : Lk} {S j : Nat} (hj : j < l.length) : f1 (turnL l S) j = (if S.testBit (f2 l j) then f2 l j else f1 l j) ∧ f2 (turnL l S) j = if S.testBit (f2 l j) then f1 l j else f2 l j := by
  have : (turnL l S)[j]? = some (tn S (f1 l j, f2 l j)) := by rw [turnL, List.getElem?_map, f_at hj]; rfl
  have e1 : f1 (turnL l S) j = (tn S (f1 l j, f2 l j)).1 := by rw [f1, this]; rfl
  have e2 : f2 (turnL l S) j = (tn S (f1 l j, f2 l j)).2 := by rw [f2, this]; rfl
  rw [e1, e2, tn]
  split <;> exact ⟨rfl, rfl⟩
theorem turn_mem {l : Lk} {S : Nat} {x : Nat × Nat} : x ∈ turnL l S ↔ (x ∈ l ∧ S.testBit x.2 = false) ∨ ((x.2, x.1) ∈ l ∧ S.testBit x.1 = true) := by
  rw [turnL, List.mem_map]
  constructor
  · rintro ⟨y, hy, rfl⟩
    unfold tn
    cases hb : S.testBit y.2
    · rw [if_neg (by simp)]; exact .inl ⟨hy, hb⟩
    · rw [if_pos rfl]; exact .inr ⟨hy, hb⟩
  · rintro (⟨h1, h2⟩ | ⟨h1, h2⟩)
    · exact ⟨x, h1, by simp [tn, h2]⟩
    · exact ⟨_, h1, by simp [tn, h2]⟩
theorem turn_ok {n : Nat} {l : Lk} (h : LOk n l) (S : Nat) : LOk n (turnL l S) := by
  refine ⟨h.h1, h.h6, by rw [turn_len]; exact h.hm, fun x hx => ?_, fun i hi j hj hc => ?_⟩
  · rcases turn_mem.1 hx with ⟨h1, _⟩ | ⟨h1, _⟩
    · exact h.rg x h1
    · have := h.rg _ h1
      simp only at this
      omega
  · rw [turn_len] at hi
    obtain ⟨a1, a2⟩ := turn_at (S := S) hi
    obtain ⟨b1, b2⟩ := turn_at (S := S) (show j < l.length by omega)
    rw [a1, a2, b1, b2] at hc
    have := h.tw i hi j hj
    split at hc <;> split at hc <;> omega
/-- Sinks: nobody's link leads from them. -/
def Sinks (l : Lk) (S : Nat) : Prop := ∀ x, x ∈ l → S.testBit x.1 = false
theorem low_sinks {n : Nat} {l : Lk} (h : LOk n l) : Sinks l (low n l) := by
  intro x hx
  cases hb : (low n l).testBit x.1 with
  | false => rfl
  | true => exact absurd rfl (((low_bit h.h6 (fun x hx => (h.rg x hx).1) _).1 hb).2 x hx)
theorem turn_cyc {n : Nat} {l : Lk} (h : LOk n l) {S : Nat} (hS : Sinks l S) : Cyc (turnL l S) ↔ Cyc l := by
  constructor
  · rintro ⟨v, hv⟩
    obtain ⟨U, hu, _, hs⟩ := of_cyc hv
    have hin : ∀ a b, Ln (turnL l S) a b → S.testBit b = false := by
      intro a b hab
      rcases turn_mem.1 hab with ⟨_, h2⟩ | ⟨h1, _⟩
      · exact h2
      · exact hS _ h1
    obtain ⟨u, hUu, hSu⟩ : ∃ u, U u ∧ S.testBit u = false := by
      obtain ⟨w, hw, hl⟩ := hs v hu
      exact ⟨w, hw, hin _ _ hl⟩
    obtain ⟨z, _, hz⟩ := cyc_of (R := Ln l) (n := n) (fun v => U v ∧ S.testBit v = false) ⟨hUu, hSu⟩ (by
      intro v ⟨hv, _⟩
      obtain ⟨w, _, hl⟩ := hs v hv
      exact (ln_lt (turn_ok h S) hl).1) (by
      intro v ⟨hv, hSv⟩
      obtain ⟨w, hw, hl⟩ := hs v hv
      refine ⟨w, ⟨hw, hin _ _ hl⟩, ?_⟩
      rcases turn_mem.1 hl with ⟨h1, _⟩ | ⟨_, h2⟩
      · exact h1
      · simp only at h2; rw [hSv] at h2; cases h2)
    exact ⟨z, hz⟩
  · rintro ⟨v, hv⟩
    obtain ⟨U, hu, _, hs⟩ := of_cyc hv
    obtain ⟨z, _, hz⟩ := cyc_of (R := Ln (turnL l S)) (n := n) U hu (fun v hv => by
      obtain ⟨w, _, hl⟩ := hs v hv
      exact (ln_lt h hl).1) (by
      intro v hv
      obtain ⟨w, hw, hl⟩ := hs v hv
      refine ⟨w, hw, turn_mem.2 (.inl ⟨hl, ?_⟩)⟩
      obtain ⟨w2, _, hl2⟩ := hs w hw
      exact hS _ hl2)
    exact ⟨z, hz⟩
end Go.Proofs.Ytgfogcaklcnliaa
