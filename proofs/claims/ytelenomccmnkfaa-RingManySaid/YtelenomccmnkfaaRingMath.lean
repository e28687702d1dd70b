/- Rings in plain functions: those that stay behind a phase. -/
import Derived.Test.YtelenomccmnkfaaWords
set_option linter.unusedVariables false
set_option linter.unusedSimpArgs false
namespace Go.Proofs.Ytelenomccmnkfaa
open Go.RowKit

def pm1 (i n : Nat) : Nat := if i = 0 then n - 1 else i - 1
def pm2 (i n : Nat) : Nat := if 2 ≤ i then i - 2 else i + n - 2
theorem pm1_eq {i n : Nat} (h : i < n) : (i + n - 1) % n = pm1 i n := by
  unfold pm1
  split
  · subst i; rw [Nat.zero_add, Nat.mod_eq_of_lt (by omega)]
  · rw [show i + n - 1 = (i - 1) + n by omega, Nat.add_mod_right, Nat.mod_eq_of_lt (by omega)]
theorem pm2_eq {i n : Nat} (h : i < n) (h2 : 2 ≤ n) : (i + n - 2) % n = pm2 i n := by
  unfold pm2
  split
  · rw [show i + n - 2 = (i - 2) + n by omega, Nat.add_mod_right, Nat.mod_eq_of_lt (by omega)]
  · rw [Nat.mod_eq_of_lt (by omega)]
theorem pm1_lt {i n : Nat} (h : i < n) : pm1 i n < n := by unfold pm1; split <;> omega
theorem pm2_lt {i n : Nat} (h : i < n) (h2 : 2 ≤ n) : pm2 i n < n := by unfold pm2; split <;> omega

/-- Does the number ahead of i stay? -/
def stayB (f : Nat → Int) (n i : Nat) : Bool := decide (f (pm2 i n) < f (pm1 i n)) && decide (f i < f (pm1 i n))
def halfTo (f : Nat → Int) (n : Nat) : Nat → List Int
  | 0 => []
  | i + 1 => if stayB f n i then halfTo f n i ++ [f (pm1 i n)] else halfTo f n i
def maxTo (f : Nat → Int) : Nat → Int
  | 0 => f 0
  | i + 1 => if maxTo f i < f i then f i else maxTo f i
def hf (f : Nat → Int) (n : Nat) : List Int := if n < 3 then [maxTo f n] else halfTo f n n
def gd (l : List Int) : Nat → Int := fun j => l.getD j 0

structure RingOk (f : Nat → Int) (n : Nat) : Prop where
  sz : 1 ≤ n ∧ n ≤ 12
  inj : ∀ i j, i < n → j < i → f i ≠ f j
theorem RingOk.eq {f : Nat → Int} {n i j : Nat} (h : RingOk f n) (hi : i < n) (hj : j < n) (e : f i = f j) : i = j := by
  rcases Nat.lt_trichotomy i j with h1 | h1 | h1
  · exact absurd e.symm (h.inj j i hj h1)
  · exact h1
  · exact absurd e (h.inj i j hi h1)
theorem maxTo_spec (f : Nat → Int) {n : Nat} (h : 1 ≤ n) : (∃ p, p < n ∧ maxTo f n = f p) ∧ ∀ j, j < n → f j ≤ maxTo f n := by
  induction n with
  | zero => omega
  | succ n ih =>
    rw [maxTo]
    rcases Nat.eq_zero_or_pos n with e | hp
    · subst e
      refine ⟨⟨0, by omega, by rw [maxTo]; split <;> rfl⟩, fun j hj => ?_⟩
      obtain rfl : j = 0 := by omega
      split
      · exact Int.le_refl _
      · rw [maxTo]; exact Int.le_refl _
    · obtain ⟨⟨p, h1, h2⟩, h3⟩ := ih hp
      split
      · exact ⟨⟨n, by omega, rfl⟩, fun j hj => by
          rcases Nat.lt_succ_iff_lt_or_eq.1 hj with h4 | h4
          · have := h3 j h4; omega
          · rw [h4]; exact Int.le_refl _⟩
      · exact ⟨⟨p, by omega, h2⟩, fun j hj => by
          rcases Nat.lt_succ_iff_lt_or_eq.1 hj with h4 | h4
          · exact h3 j h4
          · rw [h4]; omega⟩

theorem stay_next {f : Nat → Int} {n i : Nat} (h : i + 1 < n) (hn : 2 ≤ n) : ¬ (stayB f n i = true ∧ stayB f n (i + 1) = true) := by
  simp only [stayB, Bool.and_eq_true, decide_eq_true_eq]
  rintro ⟨⟨h1, h2⟩, h3, h4⟩
  have e1 : pm1 (i + 1) n = i := by simp [pm1]
  rw [e1] at h3 h4
  have e2 : pm2 (i + 1) n = pm1 i n := by
    unfold pm1 pm2
    split <;> split <;> omega
  rw [e2] at h3
  omega
theorem stay_wrap {f : Nat → Int} {n : Nat} (hn : 2 ≤ n) : ¬ (stayB f n (n - 1) = true ∧ stayB f n 0 = true) := by
  simp only [stayB, Bool.and_eq_true, decide_eq_true_eq]
  rintro ⟨⟨h1, h2⟩, h3, h4⟩
  have e1 : pm1 0 n = n - 1 := by simp [pm1]
  have e2 : pm2 0 n = pm1 (n - 1) n := by
    unfold pm1 pm2
    split <;> split <;> omega
  rw [e1, e2] at h3
  omega
theorem half_len (f : Nat → Int) (n : Nat) (hn : 2 ≤ n) : ∀ m, 1 ≤ m → m ≤ n → 2 * (halfTo f n m).length ≤ m - 1 + (stayB f n 0).toNat + (stayB f n (m - 1)).toNat := by
  intro m
  induction m with
  | zero => intro h; omega
  | succ m ih =>
    intro _ hm
    rcases Nat.eq_zero_or_pos m with e | hp
    · subst e
      rw [halfTo]
      cases h : stayB f n 0 <;> simp [halfTo, h]
    · have h1 := ih hp (by omega)
      have h2 := stay_next (f := f) (n := n) (i := m - 1) (by omega) hn
      rw [show m - 1 + 1 = m by omega] at h2
      rw [halfTo, show m + 1 - 1 = m by omega]
      cases h3 : stayB f n m
      · have := Bool.toNat_le (stayB f n (m - 1))
        simp
        omega
      · cases h4 : stayB f n (m - 1)
        · rw [h4] at h1
          simp at h1 ⊢
          omega
        · exact absurd ⟨h4, h3⟩ h2
theorem half_mem {f : Nat → Int} {n : Nat} {x : Int} : ∀ {m}, x ∈ halfTo f n m ↔ ∃ q, q < m ∧ stayB f n q = true ∧ x = f (pm1 q n) := by
  intro m
  induction m with
  | zero => simp [halfTo]
  | succ m ih =>
    rw [halfTo]
    split
    · rename_i hs
      rw [List.mem_append, ih]
      constructor
      · rintro (⟨q, h1, h2⟩ | h)
        · exact ⟨q, by omega, h2⟩
        · exact ⟨m, by omega, hs, by simpa using h⟩
      · rintro ⟨q, h1, h2, h3⟩
        rcases Nat.lt_succ_iff_lt_or_eq.1 h1 with h4 | h4
        · exact .inl ⟨q, h4, h2, h3⟩
        · subst h4; exact .inr (by simpa using h3)
    · rename_i hs
      rw [ih]
      constructor
      · rintro ⟨q, h1, h2⟩; exact ⟨q, by omega, h2⟩
      · rintro ⟨q, h1, h2, h3⟩
        rcases Nat.lt_succ_iff_lt_or_eq.1 h1 with h4 | h4
        · exact ⟨q, h4, h2, h3⟩
        · subst h4; exact absurd h2 hs
theorem pm1_inj {i j n : Nat} (hi : i < n) (hj : j < n) (h : pm1 i n = pm1 j n) : i = j := by
  unfold pm1 at h
  split at h <;> split at h <;> omega
theorem half_nodup {f : Nat → Int} {n : Nat} (hr : RingOk f n) : ∀ m, m ≤ n → (halfTo f n m).Nodup := by
  intro m
  induction m with
  | zero => intro _; exact List.nodup_nil
  | succ m ih =>
    intro hm
    rw [halfTo]
    split
    · refine List.nodup_append.2 ⟨ih (by omega), by simp, ?_⟩
      intro a ha b hb e
      subst e
      obtain ⟨q, h1, _, h3⟩ := half_mem.1 ha
      have hb : a = f (pm1 m n) := by simpa using hb
      rw [hb] at h3
      have := pm1_inj (by omega) (by omega) (hr.eq (pm1_lt (by omega)) (pm1_lt (by omega)) h3)
      omega
    · exact ih (by omega)
theorem half_max {f : Nat → Int} {n : Nat} (hr : RingOk f n) (hn : 3 ≤ n) : maxTo f n ∈ halfTo f n n := by
  obtain ⟨⟨p, h1, h2⟩, h3⟩ := maxTo_spec f (n := n) (by omega)
  have lt : ∀ q, q < n → q ≠ p → f q < f p := fun q hq hne => by
    have h4 := h3 q hq
    have h5 : f q ≠ f p := fun e => hne (hr.eq hq h1 e)
    omega
  have key : ∃ i, i < n ∧ pm1 i n = p ∧ pm2 i n ≠ p ∧ i ≠ p := by
    by_cases e : p + 1 = n
    · exact ⟨0, by omega, by simp [pm1]; omega, by simp [pm2]; omega, by omega⟩
    · exact ⟨p + 1, by omega, by simp [pm1], by unfold pm2; split <;> omega, by omega⟩
  obtain ⟨i, h4, h5, h6, h7⟩ := key
  rw [h2]
  refine half_mem.2 ⟨i, h4, ?_, by rw [h5]⟩
  simp only [stayB, Bool.and_eq_true, decide_eq_true_eq, h5]
  exact ⟨lt _ (pm2_lt h4 (by omega)) h6, lt i h4 h7⟩

theorem gd_mem {l : List Int} {j : Nat} (h : j < l.length) : gd l j ∈ l := by
  unfold gd
  rw [List.getD_eq_getElem?_getD, List.getElem?_eq_getElem h]
  exact List.getElem_mem h
theorem mem_gd {l : List Int} {x : Int} (h : x ∈ l) : ∃ j, j < l.length ∧ gd l j = x := by
  obtain ⟨j, hj, e⟩ := List.mem_iff_getElem.1 h
  exact ⟨j, hj, by unfold gd; rw [List.getD_eq_getElem?_getD, List.getElem?_eq_getElem hj]; exact e⟩
theorem gd_inj {l : List Int} (hn : l.Nodup) {i j : Nat} (hi : i < l.length) (hj : j < i) : gd l i ≠ gd l j := by
  unfold gd
  rw [List.getD_eq_getElem?_getD, List.getD_eq_getElem?_getD, List.getElem?_eq_getElem hi, List.getElem?_eq_getElem (by omega)]
  exact fun e => List.pairwise_iff_getElem.1 hn j i (by omega) hi hj e.symm
/-- What Half gives. -/
structure HalfOk (f : Nat → Int) (n : Nat) (l : List Int) : Prop where
  ok : RingOk (gd l) l.length
  less : 1 < n → 2 * l.length ≤ n
  mem : ∀ j, j < l.length → ∃ p, p < n ∧ gd l j = f p
  max : ∃ j, j < l.length ∧ gd l j = maxTo f n
theorem hf_ok {f : Nat → Int} {n : Nat} (h : RingOk f n) : HalfOk f n (hf f n) := by
  unfold hf
  obtain ⟨h1, h12⟩ := h.sz
  split
  · rename_i h3
    obtain ⟨⟨p, h4, h5⟩, _⟩ := maxTo_spec f h1
    exact ⟨⟨by simp, fun i j hi hj => by simp at hi; omega⟩, fun h => by simp; omega, fun j hj => ⟨p, h4, by
      simp at hj; subst hj; rw [← h5]; rfl⟩, ⟨0, by simp, rfl⟩⟩
  · rename_i h3
    have hm := half_max h (by omega)
    have hl := half_len f n (by omega) n h1 (Nat.le_refl _)
    have hw := stay_wrap (f := f) (n := n) (by omega)
    have hl2 : 2 * (halfTo f n n).length ≤ n := by
      cases ha : stayB f n (n - 1) <;> cases hb : stayB f n 0 <;> simp [ha, hb] at hl hw <;> omega
    have hp : 0 < (halfTo f n n).length := List.length_pos_of_mem hm
    refine ⟨⟨by omega, fun i j hi hj => gd_inj (half_nodup h n (Nat.le_refl _)) hi hj⟩, fun _ => hl2, fun j hj => ?_, mem_gd hm⟩
    obtain ⟨q, h4, _, h6⟩ := half_mem.1 (gd_mem hj)
    exact ⟨pm1 q n, pm1_lt h4, h6⟩
end Go.Proofs.Ytelenomccmnkfaa
