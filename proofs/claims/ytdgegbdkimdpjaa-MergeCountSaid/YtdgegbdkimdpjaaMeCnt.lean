/- What all have counted: plain. -/
import Derived.Test.YtdgegbdkimdpjaaMergeSame
set_option linter.unusedVariables false
set_option linter.unusedSimpArgs false
namespace Go.Proofs.Ytdgegbdkimdpjaa
open Go.RowKit

def totI (s : MeS) : Nat → Int
  | 0 => 0
  | k + 1 => totI s k + (((s.ct (2 * k) k : Nat) : Int) - ((s.ct (2 * k + 1) k : Nat) : Int))
def sumU (n : Nat) (M : Mv) : Nat → Int
  | 0 => 0
  | j + 1 => sumU n M j + if M.k j = 3 ∧ meCode n M j = 0 then M.v j else 0
/-- Each knows best what it counted itself. -/
def OwnC (s : MeS) : Prop := ∀ a k e, e ≤ 1 → s.ct (2 * a + e) k ≤ s.ct (2 * k + e) k
theorem own_join {s : MeS} (h : OwnC s) (i j : Nat) : OwnC (meJoin s i j) ∧ ∀ k e, e ≤ 1 → (meJoin s i j).ct (2 * k + e) k = s.ct (2 * k + e) k := by
  have h2 : ∀ k e, e ≤ 1 → (meJoin s i j).ct (2 * k + e) k = s.ct (2 * k + e) k := fun k e he => by
    rw [join_n _ _ _ _ _ _ he]
    by_cases c : k = i
    · subst c; rw [upd_same]; exact Nat.max_eq_left (h j k e he)
    · rw [upd_ne _ _ c]
  refine ⟨fun a k e he => ?_, h2⟩
  rw [h2 k e he, join_n _ _ _ _ _ _ he]
  by_cases c : a = i
  · subst c; rw [upd_same]; exact Nat.max_le.2 ⟨h _ k e he, h j k e he⟩
  · rw [upd_ne _ _ c]; exact h a k e he
theorem up_ct (s : MeS) (a i b k : Nat) : (meUp s a i).ct b k = if b = a ∧ k = i then s.ct a i + 1 else s.ct b k := by
  show upd s.ct a (upd (s.ct a) i (s.ct a i + 1)) b k = _
  by_cases e : b = a
  · subst e
    rw [upd_same]
    by_cases e2 : k = i
    · subst e2; rw [upd_same, if_pos ⟨rfl, rfl⟩]
    · rw [upd_ne _ _ e2, if_neg (fun c => e2 c.2)]
  · rw [upd_ne _ _ e, if_neg (fun c => e c.1)]
theorem own_up {s : MeS} (h : OwnC s) (i e : Nat) (he : e ≤ 1) : OwnC (meUp s (2 * i + e) i) := by
  intro a k e' he'
  rw [up_ct, up_ct]
  have h1 := h a k e' he'
  by_cases c : 2 * a + e' = 2 * i + e ∧ k = i
  · rw [if_pos c, if_pos (by omega)]
    exact Nat.le_refl _
  · rw [if_neg c]
    by_cases c2 : 2 * k + e' = 2 * i + e ∧ k = i
    · rw [if_pos c2]
      obtain ⟨c3, rfl⟩ := c2
      rw [← c3]; omega
    · rw [if_neg c2]; exact h1
theorem tot_congr {s s' : MeS} (h : ∀ k e, e ≤ 1 → s'.ct (2 * k + e) k = s.ct (2 * k + e) k) : ∀ n, totI s' n = totI s n
  | 0 => rfl
  | n + 1 => by
    have h0 := h n 0 (by omega)
    have h1 := h n 1 (by omega)
    rw [Nat.add_zero] at h0
    rw [totI, totI, tot_congr h n, h0, h1]
theorem tot_up (s : MeS) (i : Nat) : ∀ n, totI (meUp s (2 * i) i) n = totI s n + (if i < n then 1 else 0) ∧ totI (meUp s (2 * i + 1) i) n = totI s n - (if i < n then 1 else 0)
  | 0 => by simp [totI]
  | n + 1 => by
    obtain ⟨h1, h2⟩ := tot_up s i n
    rw [totI, totI, totI, h1, h2, up_ct, up_ct, up_ct, up_ct]
    rcases Nat.lt_trichotomy i n with c | c | c
    · constructor <;> (repeat' split) <;> omega
    · subst c
      have h1 : ¬ (2 * i + 1 = 2 * i) := by omega
      have h2 : ¬ (2 * i = 2 * i + 1) := by omega
      simp only [h1, h2, false_and, if_false, and_self, if_true, Nat.lt_irrefl, Nat.lt_succ_self]
      constructor <;> omega
    · constructor <;> (repeat' split) <;> omega
theorem cnt_do {n : Nat} {s : MeS} (h : OwnC s) (k f t v : Int) : OwnC (meDo n s k f t v).1 ∧ totI (meDo n s k f t v).1 n = totI s n + (if k = 3 ∧ (meDo n s k f t v).2 = 0 then v else 0) ∧ (k = 3 ∧ (meDo n s k f t v).2 = 0 → v = 1 ∨ v = -1) := by
  have same : ∀ c : Int, k ≠ 3 ∨ c ≠ 0 → OwnC s ∧ totI s n = totI s n + (if k = 3 ∧ c = 0 then v else 0) ∧ (k = 3 ∧ c = 0 → v = 1 ∨ v = -1) := fun c hc => by
    have : ¬ (k = 3 ∧ c = 0) := fun e => hc.elim (fun x => x e.1) (fun x => x e.2)
    refine ⟨h, ?_, fun e => absurd e this⟩
    rw [if_neg this]; omega
  unfold meDo
  by_cases c1 : k < 1 ∨ 4 < k
  · rw [if_pos c1]; exact same 6 (by omega)
  rw [if_neg c1]
  by_cases c2 : (f < 0 ∨ (n : Int) ≤ f) ∨ k = 4 ∧ (t < 0 ∨ (n : Int) ≤ t)
  · rw [if_pos c2]; exact same 2 (by omega)
  rw [if_neg c2]
  by_cases c3 : k ≤ 2 ∧ (v < 0 ∨ 8 < v)
  · rw [if_pos c3]; exact same 4 (by omega)
  rw [if_neg c3]
  by_cases c4 : k = 1
  · rw [if_pos c4]
    have := same 0 (by omega)
    exact ⟨fun a k e he => h a k e he, (tot_congr (s := s) (s' := meAdd s f.toNat v.toNat) (fun _ _ _ => rfl) n).trans this.2.1, this.2.2⟩
  rw [if_neg c4]
  by_cases c5 : k = 2
  · rw [if_pos c5]
    by_cases c6 : hasB s f.toNat v.toNat = true
    · rw [if_pos c6]
      have := same 0 (by omega)
      exact ⟨fun a k e he => h a k e he, (tot_congr (s := s) (s' := meDrop s f.toNat v.toNat) (fun _ _ _ => rfl) n).trans this.2.1, this.2.2⟩
    · rw [if_neg c6]; exact same 5 (by omega)
  rw [if_neg c5]
  by_cases c6 : k = 3
  · rw [if_pos c6]
    have hf : f.toNat < n := by omega
    by_cases c7 : v = 1
    · rw [if_pos c7]
      have := own_up h f.toNat 0 (by omega)
      refine ⟨this, ?_, fun _ => .inl c7⟩
      rw [if_pos ⟨c6, rfl⟩, c7]
      have := (tot_up s f.toNat n).1
      rwa [if_pos hf] at this
    · rw [if_neg c7]
      by_cases c8 : v = -1
      · rw [if_pos c8]
        have := own_up h f.toNat 1 (by omega)
        refine ⟨this, ?_, fun _ => .inr c8⟩
        rw [if_pos ⟨c6, rfl⟩, c8]
        have := (tot_up s f.toNat n).2
        rwa [if_pos hf] at this
      · rw [if_neg c8]; exact same 4 (by omega)
  rw [if_neg c6]
  have := same 0 (by omega)
  have hj := own_join h f.toNat t.toNat
  exact ⟨hj.1, (tot_congr hj.2 n).trans this.2.1, this.2.2⟩
theorem cnt_all (n : Nat) (M : Mv) : ∀ j, OwnC (meSt n M j) ∧ totI (meSt n M j) n = sumU n M j
  | 0 => ⟨fun _ _ _ _ => Nat.le_refl _, by
    have : ∀ k, totI MeS0 k = 0 := fun k => by
      induction k with
      | zero => rfl
      | succ k ih => rw [totI, ih]; rfl
    exact this n⟩
  | j + 1 => by
    obtain ⟨h1, h2⟩ := cnt_all n M j
    obtain ⟨h3, h4, _⟩ := cnt_do (n := n) h1 (M.k j) (M.f j) (M.t j) (M.v j)
    refine ⟨h3, ?_⟩
    rw [sumU, ← h2]; exact h4
theorem up_one (n : Nat) (M : Mv) (j : Nat) (h : M.k j = 3 ∧ meCode n M j = 0) : M.v j = 1 ∨ M.v j = -1 :=
  (cnt_do (n := n) (cnt_all n M j).1 (M.k j) (M.f j) (M.t j) (M.v j)).2.2 h
theorem sumU_abs (n : Nat) (M : Mv) : ∀ j : Nat, -(j : Int) ≤ sumU n M j ∧ sumU n M j ≤ j
  | 0 => by simp [sumU]
  | j + 1 => by
    have := sumU_abs n M j
    rw [sumU]
    by_cases h : M.k j = 3 ∧ meCode n M j = 0
    · rw [if_pos h]; have := up_one n M j h; omega
    · rw [if_neg h]; omega
theorem flat_cnt {d : Nat} {s : MeS} (h : Flat d s) : ∀ a, a ≤ d → ∀ k, k ≤ d + 1 → cntI s a k = totI s k
  | a, ha, 0, _ => rfl
  | a, ha, k + 1, hk => by
    have e : ∀ e, e ≤ 1 → s.ct (2 * a + e) k = s.ct (2 * k + e) k := fun e he => by
      rw [(h a ha e he).2, (h k (by omega) e he).2]
    have h0 := e 0 (by omega)
    have h1 := e 1 (by omega)
    rw [Nat.add_zero, Nat.add_zero] at h0
    rw [cntI, totI, flat_cnt h a ha k (by omega), h0, h1]
/-- Behind all joins each count is the sum of the ups. -/
theorem count_plain {d m : Nat} {X M : Mv} (hd : d + 1 ≤ 6) : ∀ a, a < d + 1 → cntI (meSt (d + 1) ((X.app 0 M).app m (JM d)) (m + 4 * d)) a (d + 1) = sumU (d + 1) ((X.app 0 M).app m (JM d)) (m + 4 * d) := by
  intro a ha
  rw [← (cnt_all _ _ _).2, joined_state _ _ hd]
  exact flat_cnt (flat_all d _) a (by omega) _ (Nat.le_refl _)
end Go.Proofs.Ytdgegbdkimdpjaa
