/- One that stands again and again leads at last. -/
import Derived.Test.YtlfffanadoldpaaElLaw
import Derived.Test.YtlfffanadoldpaaMvApp
set_option linter.unusedVariables false
set_option linter.unusedSimpArgs false
namespace Go.Proofs.Ytlfffanadoldpaa
open Go.RowKit

def Bnd (c : Nat) (s : ES) : Prop := ∀ i, s.T i ≤ 10 ∨ s.T i ≤ s.T c
structure Good (c n i : Nat) (s : ES) : Prop where
  R : s.R c = 1
  few : 2 * pop (s.H c) ≤ n
  own : (s.H c).testBit c = true
  done : ∀ j, j < i → j < n → (s.H c).testBit j = true
  todo : ∀ j, i ≤ j → j < n → j ≠ c → s.T j < s.T c
def StG (c n r : Nat) (s : ES) : Prop := s.R c = 2 ∨ (s.R c ≠ 2 ∧ r ≤ 10 ∧ r ≤ s.T c ∧ Bnd c s)
def MidG (c n r i : Nat) (s : ES) : Prop := s.R c = 2 ∨ (r < 10 ∧ r + 1 ≤ s.T c ∧ Bnd c s) ∨ (r = 10 ∧ Good c n i s)
theorem count_R2 {n i b : Nat} {s : ES} (h : (countS n i b s).R i ≠ 2) : (countS n i b s) = haveS i b s ∧ ¬ (s.R i = 1 ∧ n < 2 * pop (s.H i ||| 2 ^ b)) := by
  unfold countS at h ⊢
  split
  · rename_i hc
    rw [if_pos hc] at h
    exact absurd (upd_same ..) h
  · rename_i hc
    exact ⟨rfl, hc⟩
theorem count_T (n i b : Nat) (s : ES) : (countS n i b s).T = s.T := by unfold countS; split <;> rfl
theorem stG_crash {n c B : Nat} {s : ES} (hc : c < n) (h : EI n B s) (hB : B ≤ 10) : StG c n 0 (elStep n 6 c 0 s).2 := by
  rw [el_crash, if_neg (by simp; omega), Int.toNat_natCast]
  refine .inr ⟨?_, by omega, Nat.zero_le _, fun i => .inl ?_⟩
  · show upd s.R c 0 c ≠ 2
    rw [upd_same]; decide
  · have := h.T i
    show s.T i ≤ 10
    omega
theorem stG_stand {n c r : Nat} {s : ES} (hc : c < n) (h : StG c n r s) : MidG c n r 0 (elStep n 1 c 0 s).2 := by
  rw [el_stand, if_neg (by simp; omega), Int.toNat_natCast]
  unfold standS
  rcases h with h | ⟨h1, h2, h3, h4⟩
  · rw [if_pos h]; exact .inl h
  · rw [if_neg h1]
    show MidG c n r 0 (countS n c c (setE c (s.T c + 1) 1 c s))
    by_cases hR : (countS n c c (setE c (s.T c + 1) 1 c s)).R c = 2
    · exact .inl hR
    · obtain ⟨e, hn⟩ := count_R2 hR
      have hTc : (countS n c c (setE c (s.T c + 1) 1 c s)).T c = s.T c + 1 := by rw [count_T]; exact upd_same ..
      have hTj : ∀ j, j ≠ c → (countS n c c (setE c (s.T c + 1) 1 c s)).T j = s.T j := fun j hj => by rw [count_T]; exact upd_ne _ _ hj
      have hH : (setE c (s.T c + 1) 1 c s).H c = 0 := upd_same ..
      have hRr : (setE c (s.T c + 1) 1 c s).R c = 1 := upd_same ..
      by_cases hr : r < 10
      · refine .inr (.inl ⟨hr, by rw [hTc]; omega, fun i => ?_⟩)
        rw [hTc]
        by_cases e : i = c
        · subst e; rw [hTc]; exact .inr (Nat.le_refl _)
        · rw [hTj i e]
          rcases h4 i with h | h
          · exact .inl h
          · exact .inr (by omega)
      · refine .inr (.inr ⟨by omega, ?_⟩)
        have hHc : (countS n c c (setE c (s.T c + 1) 1 c s)).H c = 0 ||| 2 ^ c := by
          rw [e]
          show upd _ c _ c = _
          rw [upd_same, hH]
        refine ⟨by rw [e]; exact hRr, ?_, ?_, fun j hj => absurd hj (by omega), fun j _ hjn hjc => ?_⟩
        · rw [hHc]
          rw [hH] at hn
          have : ¬ n < 2 * pop (0 ||| 2 ^ c) := fun h => hn ⟨hRr, h⟩
          omega
        · rw [hHc]; simp
        · rw [hTc, hTj j hjc]
          rcases h4 j with h | h <;> omega
theorem midG_skip {n c r : Nat} {s : ES} (h : MidG c n r c s) : MidG c n r (c + 1) s := by
  rcases h with h | h | ⟨h, hg⟩
  · exact .inl h
  · exact .inr (.inl h)
  · refine .inr (.inr ⟨h, hg.R, hg.few, hg.own, fun j hj hjn => ?_, fun j hj hjn hjc => hg.todo j (by omega) hjn hjc⟩)
    by_cases e : j = c
    · subst e; exact hg.own
    · exact hg.done j (by omega) hjn
theorem midG_vote {n c r i : Nat} {s : ES} (hc : c < n) (hi : i < n) (hic : i ≠ c) (h : MidG c n r i s) : MidG c n r (i + 1) (elStep n 2 i c s).2 := by
  have e0 : ((i : Int) == (c : Int)) = false := by rw [beq_eq_false_iff_ne]; omega
  rw [el_vote, e0, if_neg (by simp; omega), Int.toNat_natCast, Int.toNat_natCast]
  rcases h with h | ⟨h1, h2, h3⟩ | ⟨h1, hg⟩
  · unfold voteS
    rw [if_pos (by rw [h]; decide)]
    exact .inl h
  · have hrise : ∀ p, s.T p ≤ (voteS n i c true s).2.T p := by
      have := (Rise.step (n := n) (k := 2) (f := i) (t := c) s).1
      rw [el_vote, e0, if_neg (by simp; omega), Int.toNat_natCast, Int.toNat_natCast] at this
      exact fun p => (this p).1
    refine .inr (.inl ⟨h1, by have := hrise c; omega, ?_⟩)
    have hTc : (knowS i (s.T c) s).T c = s.T c := by rw [know_T, if_neg (fun h => hic h.1.symm)]
    have hbk : Bnd c (knowS i (s.T c) s) := by
      intro j
      rw [hTc, know_T]
      split
      · exact .inr (Nat.le_refl _)
      · exact h3 j
    unfold voteS
    split
    · exact h3
    split
    · rename_i hlt
      intro j
      have hT2 : (knowS c ((knowS i (s.T c) s).T i) (knowS i (s.T c) s)).T c = (knowS i (s.T c) s).T i := by rw [know_T, if_pos ⟨rfl, hlt⟩]
      show (knowS c ((knowS i (s.T c) s).T i) (knowS i (s.T c) s)).T j ≤ 10 ∨ (knowS c ((knowS i (s.T c) s).T i) (knowS i (s.T c) s)).T j ≤ (knowS c ((knowS i (s.T c) s).T i) (knowS i (s.T c) s)).T c
      rw [hT2, know_T c]
      split
      · exact .inr (Nat.le_refl _)
      · rcases hbk j with h | h
        · exact .inl h
        · exact .inr (by omega)
    split
    · exact hbk
    · intro j
      rw [count_T]
      exact hbk j
  · have hlt := hg.todo i (Nat.le_refl _) hi hic
    have hk : knowS i (s.T c) s = setE i (s.T c) 0 (-1) s := if_pos hlt
    have hTc : (knowS i (s.T c) s).T c = s.T c := by rw [hk]; exact upd_ne _ _ (Ne.symm hic)
    have hTi : (knowS i (s.T c) s).T i = s.T c := by rw [hk]; exact upd_same ..
    have hVi : (knowS i (s.T c) s).V i = -1 := by rw [hk]; exact upd_same ..
    have hRc : (knowS i (s.T c) s).R c = 1 := by rw [hk]; show upd s.R i 0 c = 1; rw [upd_ne _ _ (Ne.symm hic)]; exact hg.R
    have hHc : (knowS i (s.T c) s).H c = s.H c := by rw [hk]; exact upd_ne _ _ (Ne.symm hic)
    have hv : (voteS n i c true s).2 = countS n c i { knowS i (s.T c) s with V := upd (knowS i (s.T c) s).V i c } := by
      unfold voteS
      rw [if_neg (by rw [hg.R]; decide), if_neg (by rw [hTc, hTi]; omega), if_neg (by rw [hVi]; simp)]
    rw [hv]
    by_cases hR : (countS n c i { knowS i (s.T c) s with V := upd (knowS i (s.T c) s).V i c }).R c = 2
    · exact .inl hR
    · obtain ⟨e, hn⟩ := count_R2 hR
      refine .inr (.inr ⟨h1, ?_⟩)
      have hn : ¬ n < 2 * pop ((knowS i (s.T c) s).H c ||| 2 ^ i) := fun h => hn ⟨hRc, h⟩
      rw [hHc] at hn
      have hH2 : (countS n c i { knowS i (s.T c) s with V := upd (knowS i (s.T c) s).V i c }).H c = s.H c ||| 2 ^ i := by
        rw [e]
        show upd _ c ((knowS i (s.T c) s).H c ||| 2 ^ i) c = _
        rw [upd_same, hHc]
      have hT2 : (countS n c i { knowS i (s.T c) s with V := upd (knowS i (s.T c) s).V i c }).T = (knowS i (s.T c) s).T := count_T ..
      refine ⟨by rw [e]; exact hRc, by rw [hH2]; omega, by rw [hH2]; simp [hg.own], fun j hj hjn => ?_, fun j hj hjn hjc => ?_⟩
      · rw [hH2, Nat.testBit_or, Bool.or_eq_true, Nat.testBit_two_pow]
        by_cases e : j = i
        · subst e; exact .inr (by simp)
        · exact .inl (hg.done j (by omega) hjn)
      · rw [hT2, hTc, know_T, if_neg (by omega)]
        exact hg.todo j (by omega) hjn hjc
theorem midG_end {n c r : Nat} {s : ES} (hn1 : 1 ≤ n) (hn : n ≤ 32) (h : MidG c n r n s) : StG c n (r + 1) s := by
  by_cases hR : s.R c = 2
  · exact .inl hR
  · rcases h with h | ⟨h1, h2, h3⟩ | ⟨h1, hg⟩
    · exact .inl h
    · exact .inr ⟨hR, by omega, h2, h3⟩
    · have := pop_all (a := s.H c) hn fun i hi => hg.done i hi hi
      have := hg.few
      omega
theorem stG_end {n c : Nat} {s : ES} (h : StG c n 11 s) : s.R c = 2 := by
  rcases h with h | ⟨_, h, _⟩
  · exact h
  · omega
theorem elE_push (n : Nat) (M : Mv) (q : Nat) (k f t v : Int) : elE n (M.push q k f t v) (q + 1) = (elStep n k f t (elE n M q)).2 := by
  have he : elE n (M.push q k f t v) q = elE n M q := elE_congr (q := q) (fun j hj => by
    obtain ⟨h1, h2, h3, _⟩ := push_other M q k f t v (j := j) (by omega)
    exact ⟨h1, h2, h3⟩) q (Nat.le_refl _)
  obtain ⟨a, b, c, _⟩ := push_at M q k f t v
  rw [elE, he, a, b, c]
end Go.Proofs.Ytlfffanadoldpaa
