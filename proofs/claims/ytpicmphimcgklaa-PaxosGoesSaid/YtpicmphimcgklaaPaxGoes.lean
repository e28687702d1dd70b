/- What PaxosGoes asks, in plain functions. -/
import Derived.Test.YtpicmphimcgklaaPaxMath
set_option linter.unusedVariables false
set_option linter.unusedSimpArgs false
namespace Go.Proofs.Ytpicmphimcgklaa

/-- Nobody has promised ballot 9 yet. -/
structure Fresh (s : PS) : Prop where
  pr : s.pr 9 = 0
  tk : s.tk 9 = 0
  of : s.of 9 = 0
  P : ∀ i, s.P i < 9
theorem Fresh.step {n : Nat} {s : PS} (h : Fresh s) (k f v : Int) (hv : v < 9) : Fresh (pxStep n k f v s).2 := by
  have h9 : ∀ b : Nat, b = v.toNat → (9 : Nat) ≠ b ∧ b < 9 := by omega
  unfold pxStep
  repeat' split
  all_goals first
    | exact h
    | skip
  · obtain ⟨h1, h2⟩ := h9 v.toNat rfl
    refine ⟨by show upd s.pr _ _ 9 = 0; rw [upd_ne _ _ h1]; exact h.pr, h.tk, h.of, fun i => ?_⟩
    show upd s.P _ _ i < 9
    rw [upd_apply]; split
    · exact h2
    · exact h.P i
  · obtain ⟨h1, h2⟩ := h9 v.toNat rfl
    exact ⟨h.pr, h.tk, by show upd s.of _ _ 9 = 0; rw [upd_ne _ _ h1]; exact h.of, h.P⟩
  · obtain ⟨h1, h2⟩ := h9 v.toNat rfl
    refine ⟨h.pr, by show upd s.tk _ _ 9 = 0; rw [upd_ne _ _ h1]; exact h.tk, h.of, fun i => ?_⟩
    show upd s.P _ _ i < 9
    rw [upd_apply]; split
    · exact h2
    · exact h.P i
theorem Fresh.all {n : Nat} {M : Mv} {q : Nat} (hv : ∀ j, j < q → M.v j < 9) : ∀ j, j ≤ q → Fresh (pxE n M j) := by
  intro j
  induction j with
  | zero => exact fun _ => ⟨rfl, rfl, rfl, fun i => by show 0 < 9; omega⟩
  | succ j ih => exact fun hj => (ih (by omega)).step _ _ _ (hv j (by omega))

/-- The moves behind the first q: all ask, one offers, all take, by ballot 9. -/
structure GoesM (n : Nat) (M : Mv) (q : Nat) : Prop where
  v : ∀ j, j < q → M.v j < 9
  ask : ∀ t, t < n → M.k (q + t) = 1 ∧ M.f (q + t) = t ∧ M.v (q + t) = 9
  off : M.k (q + n) = 2 ∧ M.v (q + n) = 9
  tak : ∀ t, t < n → M.k (q + n + 1 + t) = 3 ∧ M.f (q + n + 1 + t) = t ∧ M.v (q + n + 1 + t) = 9

theorem goes_ask {n : Nat} {M : Mv} {q : Nat} (h : GoesM n M q) : ∀ i, i ≤ n → (∀ t, t < i → (pxE n M (q + i)).P t = 9 ∧ ((pxE n M (q + i)).pr 9).testBit t = true) ∧ (∀ t, i ≤ t → (pxE n M (q + i)).P t < 9) ∧ (pxE n M (q + i)).of 9 = 0 := by
  intro i
  induction i with
  | zero =>
    intro _
    have hf := Fresh.all (n := n) h.v q (Nat.le_refl _)
    exact ⟨fun t ht => by omega, fun t _ => hf.P t, hf.of⟩
  | succ i ih =>
    intro hi
    obtain ⟨h1, h2, h3⟩ := ih (by omega)
    obtain ⟨k1, k2, k3⟩ := h.ask i (by omega)
    have hs : pxE n M (q + (i + 1)) = askS (pxE n M (q + i)) i 9 := by
      show (pxStep n (M.k (q + i)) (M.f (q + i)) (M.v (q + i)) (pxE n M (q + i))).2 = _
      rw [k1, k2, k3]
      unfold pxStep
      rw [if_neg (by omega), if_neg (by omega), if_neg (by omega), if_pos rfl]
      have hp : ¬ (9 : Int).toNat ≤ (pxE n M (q + i)).P (i : Int).toNat := by have := h2 i (Nat.le_refl _); simp; omega
      rw [if_neg hp]
      rfl
    rw [hs]
    refine ⟨fun t ht => ⟨?_, ?_⟩, fun t ht => ?_, h3⟩
    · show upd _ i 9 t = 9
      rw [upd_apply]; split
      · rfl
      · exact (h1 t (by omega)).1
    · show (upd (pxE n M (q + i)).pr 9 ((pxE n M (q + i)).pr 9 ||| 2 ^ i) 9).testBit t = true
      rw [upd_same]
      refine (testBit_put _ _ _).2 ?_
      by_cases e : t = i
      · exact .inr e
      · exact .inl (h1 t (by omega)).2
    · show upd _ i 9 t < 9
      rw [upd_ne _ _ (by omega)]
      exact h2 t (by omega)
theorem goes_off {n : Nat} {M : Mv} {q : Nat} (hn1 : 1 ≤ n) (hn : n ≤ 6) (h : GoesM n M q) : (pxE n M (q + n + 1)).of 9 ≠ 0 ∧ ∀ t, (pxE n M (q + n + 1)).P t ≤ 9 := by
  obtain ⟨h1, h2, h3⟩ := goes_ask h n (Nat.le_refl _)
  obtain ⟨k1, k3⟩ := h.off
  have hI := PI.all (n := n) (by omega) M (q + n)
  have hI2 := PI.all (n := n) (by omega) M (q + n + 1)
  have hp : n ≤ pop ((pxE n M (q + n)).pr 9) := pop_all (by omega) fun t ht => (h1 t ht).2
  have hs : pxE n M (q + n + 1) = offS (pxE n M (q + n)) 9 := by
    show (pxStep n (M.k (q + n)) (M.f (q + n)) (M.v (q + n)) (pxE n M (q + n))).2 = _
    rw [k1, k3]
    unfold pxStep
    rw [if_neg (by omega), if_neg (by omega), if_neg (by omega), if_neg (by omega), if_pos rfl]
    have ho : ¬ 0 < (pxE n M (q + n)).of (9 : Int).toNat := by show ¬ 0 < (pxE n M (q + n)).of 9; omega
    have hm : mostB n ((pxE n M (q + n)).pr (9 : Int).toNat) = true := decide_eq_true (by show n < 2 * pop ((pxE n M (q + n)).pr 9); omega)
    rw [if_neg ho, if_pos hm]
    rfl
  refine ⟨?_, fun t => (hI2.T0 t).2⟩
  rw [hs]
  show upd (pxE n M (q + n)).of 9 (if 0 < (pxE n M (q + n)).be 9 then (pxE n M (q + n)).va 9 else 9) 9 ≠ 0
  rw [upd_same]
  split
  · rcases hI.beb 9 with h4 | ⟨_, h5, h6⟩
    · omega
    · rw [h5]; exact h6
  · omega
theorem goes_take {n : Nat} {M : Mv} {q : Nat} (hn1 : 1 ≤ n) (hn : n ≤ 6) (h : GoesM n M q) : ∀ i, i ≤ n → (pxE n M (q + n + 1 + i)).of 9 = (pxE n M (q + n + 1)).of 9 ∧ ∀ t, t < i → (pxE n M (q + n + 1 + i)).V t = (pxE n M (q + n + 1)).of 9 ∧ ((pxE n M (q + n + 1 + i)).tk 9).testBit t = true := by
  have ho := (goes_off hn1 hn h).1
  intro i
  induction i with
  | zero => exact fun _ => ⟨rfl, fun t ht => by omega⟩
  | succ i ih =>
    intro hi
    obtain ⟨h1, h2⟩ := ih (by omega)
    obtain ⟨k1, k2, k3⟩ := h.tak i (by omega)
    have hI := PI.all (n := n) (by omega) M (q + n + 1 + i)
    have hs : pxE n M (q + n + 1 + (i + 1)) = takS n (pxE n M (q + n + 1 + i)) i 9 := by
      show (pxStep n (M.k (q + n + 1 + i)) (M.f (q + n + 1 + i)) (M.v (q + n + 1 + i)) (pxE n M (q + n + 1 + i))).2 = _
      rw [k1, k2, k3]
      unfold pxStep
      rw [if_neg (by omega), if_neg (by omega), if_neg (by omega), if_neg (by omega), if_neg (by omega)]
      have h5 : ¬ (pxE n M (q + n + 1 + i)).of (9 : Int).toNat = 0 := by show ¬ (pxE n M (q + n + 1 + i)).of 9 = 0; rw [h1]; exact ho
      have h6 : ¬ (9 : Int).toNat < (pxE n M (q + n + 1 + i)).P (i : Int).toNat := by have := (hI.T0 i).2; simp; omega
      rw [if_neg h5, if_neg h6]
      rfl
    rw [hs]
    refine ⟨h1, fun t ht => ⟨?_, ?_⟩⟩
    · show upd _ i ((pxE n M (q + n + 1 + i)).of 9) t = _
      rw [upd_apply]; split
      · exact h1
      · exact (h2 t (by omega)).1
    · show (upd (pxE n M (q + n + 1 + i)).tk 9 ((pxE n M (q + n + 1 + i)).tk 9 ||| 2 ^ i) 9).testBit t = true
      rw [upd_same]
      refine (testBit_put _ _ _).2 ?_
      by_cases e : t = i
      · exact .inr e
      · exact .inl (h2 t (by omega)).2
/-- A value is chosen, and all have it. -/
theorem goes_law {n : Nat} {M : Mv} {q : Nat} (hn1 : 1 ≤ n) (hn : n ≤ 6) (h : GoesM n M q) : 1 ≤ (pxE n M (q + n + 1 + n)).ch ∧ ∀ t, t < n → ((pxE n M (q + n + 1 + n)).V t : Int) = (pxE n M (q + n + 1 + n)).ch := by
  obtain ⟨h1, h2⟩ := goes_take hn1 hn h n (Nat.le_refl _)
  have ho := (goes_off hn1 hn h).1
  have hI := PI.all (n := n) (by omega) M (q + n + 1 + n)
  have hp : n ≤ pop ((pxE n M (q + n + 1 + n)).tk 9) := pop_all (by omega) fun t ht => (h2 t ht).2
  have hc := hI.chosen (by omega) (b := 9) (by omega)
  rw [hc, h1]
  refine ⟨by omega, fun t ht => by rw [(h2 t ht).1]⟩
end Go.Proofs.Ytpicmphimcgklaa
