/- The generals, in plain functions: what is told by a path, what is believed; all that are no liars believe one thing. -/
import Derived.Test.YtjdibhablkhjnaaPop
set_option linter.unusedVariables false
set_option linter.unusedSimpArgs false
namespace Go.Proofs.Ytjdibhablkhjnaa
open Go.RowKit

structure Camp where
  n : Nat
  d : Nat
  ord : Bool
  L : Nat
  lies : Nat → Bool
  nl : Nat

def pset : List Nat → Nat
  | [] => 0
  | j :: p => pset p ||| 2 ^ j
def pnum : List Nat → Nat
  | [] => 0
  | j :: p => pnum p * 8 + j
def toldB (c : Camp) : List Nat → Nat → Bool
  | [], _ => c.ord
  | j :: p, to => if c.L.testBit j then c.lies ((pnum (j :: p) * 8 + to) % c.nl) else toldB c p j
def sg (b : Bool) : Int := if b then 1 else -1
def sumTo (f skip : Nat → Bool) (s0 : Int) : Nat → Int
  | 0 => s0
  | j + 1 => if skip j then sumTo f skip s0 j else sumTo f skip s0 j + sg (f j)
def skipB (p : List Nat) (i j : Nat) : Bool := (j == i) || (pset p).testBit j
def bel (c : Camp) : Nat → List Nat → Nat → Bool
  | 0, p, i => toldB c p i
  | k + 1, p, i => decide (0 < sumTo (fun j => bel c k (j :: p) i) (skipB p i) (sg (toldB c p i)) c.n)

theorem sg_cases (b : Bool) : sg b = 1 ∨ sg b = -1 := by cases b <;> simp [sg]
theorem sumTo_abs (f skip : Nat → Bool) (s0 : Int) (h0 : -1 ≤ s0 ∧ s0 ≤ 1) (m : Nat) : -1 - (m : Int) ≤ sumTo f skip s0 m ∧ sumTo f skip s0 m ≤ 1 + m := by
  induction m with
  | zero => simp only [sumTo]; omega
  | succ m ih => simp only [sumTo]; split <;> (have := sg_cases (f m); omega)
theorem sumTo_congr {f g skip skip2 : Nat → Bool} {s0 : Int} {m : Nat} (hs : ∀ j, j < m → skip j = skip2 j) (h : ∀ j, j < m → skip j = false → f j = g j) : sumTo f skip s0 m = sumTo g skip2 s0 m := by
  induction m with
  | zero => rfl
  | succ m ih =>
    rw [sumTo, sumTo, ih (fun j hj => hs j (by omega)) (fun j hj => h j (by omega)), ← hs m (by omega)]
    cases hsk : skip m
    · rw [h m (by omega) hsk]
    · rfl

/-- If all that are no liars say v the sum is on v's side. -/
theorem sumTo_low {f : Nat → Bool} {p : List Nat} {i L n : Nat} {v : Bool} (h : ∀ j, j < n → skipB p i j = false → L.testBit j = false → f j = v) : ∀ m, m ≤ n →
    (m : Int) + 1 ≤ (if v then 1 else -1) * sumTo f (skipB p i) (sg v) m + (if i < m then 1 else 0) + popTo (pset p) m + 2 * popTo L m := by
  intro m
  induction m with
  | zero => intro _; cases v <;> simp [sumTo, popTo, sg]
  | succ m ih =>
    intro hm
    have h1 := ih (by omega)
    have h2 := h m (by omega)
    rw [sumTo, popTo, popTo]
    have h3 : (if i < m + 1 then (1 : Int) else 0) = (if i < m then 1 else 0) + (if m = i then 1 else 0) := by
      by_cases e : m = i
      · subst e; simp
      · by_cases e2 : i < m
        · rw [if_pos e2, if_pos (by omega), if_neg e]; rfl
        · rw [if_neg e2, if_neg (by omega), if_neg e]; rfl
    rw [h3]
    have e0 : 0 ≤ (if m = i then (1 : Int) else 0) := by split <;> omega
    by_cases hsk : skipB p i m = true
    · rw [if_pos hsk]
      have : 1 ≤ (if m = i then (1 : Int) else 0) + ((pset p).testBit m).toNat := by
        unfold skipB at hsk
        rw [Bool.or_eq_true, beq_iff_eq] at hsk
        rcases hsk with e | e
        · rw [if_pos e]; omega
        · rw [e]; simp only [Bool.toNat_true]; omega
      push_cast
      omega
    · rw [if_neg hsk]
      have hsk : skipB p i m = false := by simpa using hsk
      have hs := sg_cases (f m)
      cases hl : L.testBit m
      · rw [h2 hsk hl]
        cases v <;> simp [sg] at h1 ⊢ <;> omega
      · simp only [Bool.toNat_true]
        push_cast
        cases v <;> simp at h1 ⊢ <;> omega

/-- The own vote among the others'. -/
theorem sumTo_own {f : Nat → Bool} {p : List Nat} {i : Nat} {b : Bool} (hi : (pset p).testBit i = false) (m : Nat) :
    sumTo f (skipB p i) (sg b) m = sumTo (fun j => if j = i then b else f j) (fun j => (pset p).testBit j) 0 m + (if i < m then 0 else sg b) := by
  induction m with
  | zero => simp [sumTo]
  | succ m ih =>
    rw [sumTo, sumTo, ih]
    by_cases e : m = i
    · subst e
      have : skipB p m m = true := by simp [skipB]
      rw [if_pos this, hi, if_neg (show ¬ (false = true) by simp), if_pos rfl, if_neg (show ¬ m < m by omega), if_pos (show m < m + 1 by omega)]
      omega
    · have h1 : skipB p i m = (pset p).testBit m := by simp [skipB, e]
      have h2 : (if i < m + 1 then (0 : Int) else sg b) = if i < m then 0 else sg b := by
        by_cases h : i < m
        · rw [if_pos h, if_pos (by omega)]
        · rw [if_neg h, if_neg (by omega)]
      rw [h1, h2, if_neg e]
      split <;> omega

/-- A path: its hosts are below n, no two alike. -/
def PathOk (n : Nat) : List Nat → Prop
  | [] => True
  | j :: p => j < n ∧ (pset p).testBit j = false ∧ PathOk n p
theorem testBit_put (a m i : Nat) : (a ||| 2 ^ m).testBit i = (a.testBit i || decide (m = i)) := by rw [Nat.testBit_or, Nat.testBit_two_pow]
theorem popTo_put {a k : Nat} (h : a.testBit k = false) (m : Nat) : popTo (a ||| 2 ^ k) m = popTo a m + if k < m then 1 else 0 := by
  induction m with
  | zero => rfl
  | succ m ih =>
    rw [popTo, popTo, ih, testBit_put]
    by_cases e : k = m
    · subst e; rw [h]; simp
    · have : decide (k = m) = false := by simp [e]
      rw [this, Bool.or_false]
      by_cases h2 : k < m
      · rw [if_pos h2, if_pos (by omega)]; omega
      · rw [if_neg h2, if_neg (by omega)]; omega
theorem path_pop {n : Nat} : ∀ {p : List Nat}, PathOk n p → ∀ m, n ≤ m → popTo (pset p) m = p.length
  | [], _, m, _ => by
    have : ∀ m, popTo 0 m = 0 := by
      intro m
      induction m with
      | zero => rfl
      | succ m ih => rw [popTo, ih]; simp
    exact this m
  | j :: p, ⟨h1, h2, h3⟩, m, hm => by
    rw [pset, popTo_put h2, path_pop h3 m hm, if_pos (show j < m by omega), List.length_cons]
theorem pset_lt {n : Nat} : ∀ {p : List Nat}, PathOk n p → pset p < 2 ^ n
  | [], _ => Nat.two_pow_pos n
  | j :: p, ⟨h1, _, h3⟩ => or_lt (pset_lt h3) h1

def lastIs (L : Nat) : List Nat → Bool
  | [] => false
  | j :: _ => L.testBit j
/-- Who has it from one that is no liar believes what that one was told. -/
theorem bel_true {c : Camp} (hL : c.L < 2 ^ c.n) (hm : 2 * pop c.L + c.d < c.n) (hn32 : c.n ≤ 32) : ∀ (k : Nat) (j : Nat) (p : List Nat) (i : Nat), PathOk c.n (j :: p) → c.L.testBit j = false → i < c.n → (pset (j :: p)).testBit i = false → (p.length + 1) + k = c.d + 1 →
    bel c k (j :: p) i = toldB c p j := by
  intro k
  induction k with
  | zero =>
    intro j p i _ hj _ _ _
    show toldB c (j :: p) i = _
    rw [toldB, if_neg (by rw [hj]; simp)]
  | succ k ih =>
    intro j p i hp hj hi hni hs
    have hto : ∀ t, toldB c (j :: p) t = toldB c p j := fun t => by rw [toldB, if_neg (by rw [hj]; simp)]
    rw [bel, hto]
    have hvote : ∀ j', j' < c.n → skipB (j :: p) i j' = false → c.L.testBit j' = false → bel c k (j' :: j :: p) i = toldB c p j := by
      intro j' h1 h2 h3
      unfold skipB at h2
      rw [Bool.or_eq_false_iff, beq_eq_false_iff_ne] at h2
      rw [ih j' (j :: p) i ⟨h1, h2.2, hp⟩ h3 hi (by rw [pset, testBit_put, hni]; simpa using h2.1) (by simp; omega)]
      exact hto j'
    have h := sumTo_low hvote c.n (Nat.le_refl _)
    rw [if_pos hi, path_pop hp c.n (Nat.le_refl _), ← pop_lt hL hn32, List.length_cons] at h
    cases hv : toldB c p j
    · rw [hv] at h
      simp at h
      simp only [decide_eq_false_iff_not, Int.not_lt]
      omega
    · rw [hv] at h
      simp at h
      simp only [decide_eq_true_eq]
      omega
/-- Behind liars alone all others believe one thing. -/
theorem bel_same {c : Camp} (hL : c.L < 2 ^ c.n) (hd : pop c.L ≤ c.d) (hm : 3 * c.d < c.n) (hn32 : c.n ≤ 32) : ∀ (k : Nat) (p : List Nat), PathOk c.n p → (∀ t, (pset p).testBit t = true → c.L.testBit t = true) → p.length + k = c.d + 1 →
    ∀ i i', i < c.n → i' < c.n → c.L.testBit i = false → c.L.testBit i' = false → bel c k p i = bel c k p i' := by
  intro k
  induction k with
  | zero =>
    intro p hp hl hs i i' _ _ _ _
    have h1 := path_pop hp c.n (Nat.le_refl _)
    have h2 := popTo_sub (a := pset p) (b := c.L) (m := c.n) fun t _ => hl t
    rw [← pop_lt hL hn32] at h2
    omega
  | succ k ih =>
    intro p hp hl hs i i' hi hi' hli hli'
    have hni : (pset p).testBit i = false := by
      cases h : (pset p).testBit i
      · rfl
      · rw [hl i h] at hli; cases hli
    have hni' : (pset p).testBit i' = false := by
      cases h : (pset p).testBit i'
      · rfl
      · rw [hl i' h] at hli'; cases hli'
    have hT := fun (j i : Nat) => bel_true (c := c) hL (by omega) hn32 k j p i
    rw [bel, bel, sumTo_own hni, sumTo_own hni', if_pos hi, if_pos hi', Int.add_zero, Int.add_zero]
    have key : ∀ j, j < c.n → (pset p).testBit j = false → (if j = i then toldB c p i else bel c k (j :: p) i) = (if j = i' then toldB c p i' else bel c k (j :: p) i') := by
      intro j hj hjp
      have hpj : PathOk c.n (j :: p) := ⟨hj, hjp, hp⟩
      have hout : ∀ t, (pset p).testBit t = false → j ≠ t → (pset (j :: p)).testBit t = false := fun t h1 h2 => by rw [pset, testBit_put, h1]; simpa using h2
      by_cases e : j = i
      · subst e
        rw [if_pos rfl]
        by_cases e2 : j = i'
        · subst e2; rw [if_pos rfl]
        · rw [if_neg e2, hT j i' hpj hli hi' (hout i' hni' e2) (by omega)]
      · rw [if_neg e]
        by_cases e2 : j = i'
        · subst e2; rw [if_pos rfl, hT j i hpj hli' hi (hout i hni e) (by omega)]
        · rw [if_neg e2]
          cases hlj : c.L.testBit j
          · rw [hT j i hpj hlj hi (hout i hni e) (by omega), hT j i' hpj hlj hi' (hout i' hni' e2) (by omega)]
          · refine ih (j :: p) hpj (fun t ht => ?_) (by simp; omega) i i' hi hi' hli hli'
            rw [pset, testBit_put] at ht
            by_cases e3 : j = t
            · subst e3; exact hlj
            · exact hl t (by simpa [e3] using ht)
    rw [sumTo_congr (fun _ _ => rfl) key]
theorem start_ok {n : Nat} (h : 1 ≤ n) : PathOk n [0] := ⟨by omega, by simp [pset], trivial⟩
/-- What the laws ask. -/
theorem gen_true {c : Camp} (hn : 1 ≤ c.n) (hL : c.L < 2 ^ c.n) (hn32 : c.n ≤ 32) (h0 : c.L.testBit 0 = false) (hm : 2 * pop c.L + c.d < c.n) {i : Nat} (hi : i < c.n) (hi0 : i ≠ 0) : bel c c.d [0] i = c.ord :=
  bel_true hL hm hn32 c.d 0 [] i (start_ok hn) h0 hi (by show ((0 : Nat) ||| 2 ^ 0).testBit i = false; rw [testBit_put]; simpa using fun h => hi0 h.symm) (by simp; omega)
theorem gen_agree {c : Camp} (hn : 1 ≤ c.n) (hL : c.L < 2 ^ c.n) (hn32 : c.n ≤ 32) (hd : pop c.L ≤ c.d) (hm : 3 * c.d < c.n) {i i' : Nat} (hi : i < c.n) (hi' : i' < c.n) (h0 : i ≠ 0) (h0' : i' ≠ 0) (hli : c.L.testBit i = false) (hli' : c.L.testBit i' = false) :
    bel c c.d [0] i = bel c c.d [0] i' := by
  cases hl : c.L.testBit 0
  · rw [gen_true hn hL hn32 hl (by omega) hi h0, gen_true hn hL hn32 hl (by omega) hi' h0']
  · refine bel_same hL hd hm hn32 c.d [0] (start_ok hn) (fun t ht => ?_) (by simp; omega) i i' hi hi' hli hli'
    have ht : ((0 : Nat) ||| 2 ^ 0).testBit t = true := ht
    rw [testBit_put] at ht
    have : 0 = t := by simpa using ht
    rw [← this]; exact hl
end Go.Proofs.Ytjdibhablkhjnaa
