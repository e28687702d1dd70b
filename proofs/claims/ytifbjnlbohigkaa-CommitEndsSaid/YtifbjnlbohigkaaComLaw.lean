/- What the laws of commit ask, in plain functions. -/
import Derived.Test.YtifbjnlbohigkaaComMath
import Derived.Test.YtifbjnlbohigkaaMvApp
set_option linter.unusedVariables false
set_option linter.unusedSimpArgs false
namespace Go.Proofs.Ytifbjnlbohigkaa
open Go.RowKit

/-- What a move does. -/
theorem cm_cases {n : Nat} {k f t v : Int} {s : CS} (P : Int × CS → Prop)
    (h0 : ∀ c, c ≠ 0 → P (c, s))
    (hyes : ∀ i : Nat, k = 1 → f = i → 0 < i → i < n → s.gone i = false → s.st i = 0 → v = 1 → P (0, { s with st := upd (upd s.st i 3) i 1, yes := upd s.yes i (!s.gone 0) }))
    (hno : ∀ i : Nat, k = 1 → f = i → 0 < i → i < n → s.gone i = false → s.st i = 0 → v ≠ 1 → P (0, setSt s i 3))
    (htally : k = 2 → s.gone 0 = false → dec (s.st 0) = false → P (0, setSt s 0 (tallyTo s (n - 1))))
    (htell : ∀ j : Nat, k = 3 → t = j → 0 < j → j < n → s.gone 0 = false → s.gone j = false → dec (s.st 0) = true → dec (s.st j) = false → P (0, setSt s j (s.st 0)))
    (hcrash : ∀ i : Nat, k = 4 → f = i → i < n → s.gone i = false → P (0, { s with gone := upd s.gone i true }))
    (hback : ∀ i : Nat, k = 5 → f = i → i < n → s.gone i = true → P (0, ⟨if i = 0 && !dec (s.st 0) then upd s.st 0 3 else s.st, upd s.gone i false, s.yes⟩))
    (hask0 : ∀ i j : Nat, k = 6 → f = i → t = j → 0 < i → i < n → 0 < j → j < n → i ≠ j → s.st i ≠ 0 → dec (s.st i) = false → s.st j = 0 → P (0, setSt (setSt s j 3) i 3))
    (hask : ∀ i j : Nat, k = 6 → f = i → t = j → 0 < i → i < n → 0 < j → j < n → i ≠ j → s.st i ≠ 0 → dec (s.st i) = false → s.st j ≠ 1 → s.st j ≠ 0 → P (0, setSt s i (s.st j))) :
    P (cmStep n k f t v s) := by
  by_cases hk : k < 1 ∨ 6 < k
  · rw [show cmStep n k f t v s = (6, s) by unfold cmStep; rw [if_pos hk]]
    exact h0 6 (by decide)
  rcases (show k = 1 ∨ k = 2 ∨ k = 3 ∨ k = 4 ∨ k = 5 ∨ k = 6 by omega) with rfl | rfl | rfl | rfl | rfl | rfl
  · rw [cm_vote]
    split
    · exact h0 2 (by decide)
    rename_i hb
    simp at hb
    obtain ⟨i, rfl⟩ := Int.eq_ofNat_of_zero_le hb.1.1
    simp only [Int.toNat_natCast]
    split
    · exact h0 4 (by decide)
    unfold voteS
    split
    · exact h0 7 (by decide)
    split
    · exact hyes i rfl rfl (by omega) (by omega) (by simpa using ‹¬ s.gone i = true›) (by simpa using ‹¬ s.st i ≠ 0›) (by assumption)
    · exact hno i rfl rfl (by omega) (by omega) (by simpa using ‹¬ s.gone i = true›) (by simpa using ‹¬ s.st i ≠ 0›) (by assumption)
  · by_cases hn : n = 0
    · subst hn
      have : cmStep 0 2 f t v s = (2, s) := by simp [cmStep, badB, doesI]
      rw [this]; exact h0 2 (by decide)
    rw [cm_tally (by omega)]
    split
    · exact h0 4 (by decide)
    unfold tallyS
    split
    · exact h0 7 (by decide)
    · exact htally rfl (by simpa using ‹¬ s.gone 0 = true›) (by simpa using ‹¬ dec (s.st 0) = true›)
  · by_cases hn : n = 0
    · subst hn
      have : cmStep 0 3 f t v s = (2, s) := by simp [cmStep, badB, doesI]
      rw [this]; exact h0 2 (by decide)
    rw [cm_tell (by omega)]
    split
    · exact h0 2 (by decide)
    rename_i hb
    simp at hb
    obtain ⟨j, rfl⟩ := Int.eq_ofNat_of_zero_le (show 0 ≤ t by omega)
    simp only [Int.toNat_natCast]
    split
    · exact h0 4 (by decide)
    rename_i hg
    simp at hg
    unfold tellS
    split
    · exact h0 5 (by decide)
    split
    · exact h0 8 (by decide)
    · exact htell j rfl rfl (by omega) (by omega) hg.1 hg.2 (by simpa using ‹¬ (!dec (s.st 0)) = true›) (by simpa using ‹¬ dec (s.st j) = true›)
  · rw [cm_crash]
    split
    · exact h0 2 (by decide)
    rename_i hb
    simp at hb
    obtain ⟨i, rfl⟩ := Int.eq_ofNat_of_zero_le hb.1
    simp only [Int.toNat_natCast]
    unfold crashS
    split
    · exact h0 7 (by decide)
    · exact hcrash i rfl rfl (by omega) (by simpa using ‹¬ s.gone i = true›)
  · rw [cm_back]
    split
    · exact h0 2 (by decide)
    rename_i hb
    simp at hb
    obtain ⟨i, rfl⟩ := Int.eq_ofNat_of_zero_le hb.1
    simp only [Int.toNat_natCast]
    unfold backS
    split
    · exact h0 7 (by decide)
    · exact hback i rfl rfl (by omega) (by simpa using ‹¬ (!s.gone i) = true›)
  · rw [cm_ask]
    split
    · exact h0 2 (by decide)
    rename_i hb
    simp at hb
    obtain ⟨i, rfl⟩ := Int.eq_ofNat_of_zero_le (show 0 ≤ f by omega)
    obtain ⟨j, rfl⟩ := Int.eq_ofNat_of_zero_le (show 0 ≤ t by omega)
    simp only [Int.toNat_natCast]
    split
    · exact h0 4 (by decide)
    unfold askS
    split
    · exact h0 3 (by decide)
    split
    · exact h0 8 (by decide)
    split
    · exact h0 5 (by decide)
    split
    · exact hask0 i j rfl rfl rfl (by omega) (by omega) (by omega) (by omega) (by omega) (by assumption) (by simpa using ‹¬ dec (s.st i) = true›) (by assumption)
    · exact hask i j rfl rfl rfl (by omega) (by omega) (by omega) (by omega) (by omega) (by assumption) (by simpa using ‹¬ dec (s.st i) = true›) (by assumption) (by assumption)

theorem dec_no {x : Int} : dec x = false ↔ x ≠ 2 ∧ x ≠ 3 := by
  rw [← Bool.not_eq_true, dec_iff]; omega
theorem tallyTo_2 {s : CS} {q : Nat} (h : tallyTo s q = 2) : ∀ j, j < q → s.yes (j + 1) = true := by
  unfold tallyTo at h
  split at h
  · cases h
  · rename_i hn
    intro j hj
    have := anyTo_no.1 (by simpa using hn) j hj
    simpa using this
theorem tallyTo_or (s : CS) (q : Nat) : tallyTo s q = 2 ∨ tallyTo s q = 3 := by
  unfold tallyTo; split <;> simp

/-- Who has said yes, by the moves. -/
def saidB (n : Nat) (M : Mv) (q p : Nat) : Bool := anyTo (fun t => M.k t == 1 && M.v t == 1 && cmC n M t == 0 && (decide (0 ≤ M.f t) && decide (M.f t < n)) && M.f t == p) q
/-- What holds between the moves. -/
structure CJ (n : Nat) (Y : Nat → Prop) (s : CS) : Prop where
  yes : ∀ i, s.yes i = true → s.st i ≠ 0 ∧ Y i
  two : ∀ i, i < n → s.st i = 2 → s.st 0 = 2
  all : s.st 0 = 2 → ∀ j, 0 < j → j < n → s.yes j = true
  gone : ∀ j, j < n → s.st j = 3 → s.st 0 = 3 ∨ ∃ t, 0 < t ∧ t < n ∧ s.yes t = false ∧ s.st t ≠ 0
theorem CJ.mono {n : Nat} {Y Y' : Nat → Prop} {s : CS} (h : CJ n Y s) (hY : ∀ i, Y i → Y' i) : CJ n Y' s := ⟨fun i hi => ⟨(h.yes i hi).1, hY i (h.yes i hi).2⟩, h.two, h.all, h.gone⟩
theorem CJ.step {n : Nat} {Y : Nat → Prop} {k f t v : Int} {s : CS} (h : CJ n Y s) :
    CJ n (fun p => Y p ∨ (k = 1 ∧ v = 1 ∧ (cmStep n k f t v s).1 = 0 ∧ f = p ∧ p < n)) (cmStep n k f t v s).2 := by
  refine cm_cases (fun r => CJ n (fun p => Y p ∨ (k = 1 ∧ v = 1 ∧ r.1 = 0 ∧ f = p ∧ p < n)) r.2) ?_ ?_ ?_ ?_ ?_ ?_ ?_ ?_ ?_
  · exact fun c _ => h.mono fun i hi => .inl hi
  · intro i hk hf hi0 hi _ hs hv
    have hne : ∀ {j}, s.st j ≠ 0 → j ≠ i := fun hj e => hj (by rw [e]; exact hs)
    refine ⟨fun p hp => ?_, fun p hp hp2 => ?_, fun h0 p hp0 hp => ?_, fun p hp hp3 => ?_⟩
    · simp only [upd_apply] at hp ⊢
      by_cases e : p = i
      · subst e
        simp only [if_true]
        exact ⟨by decide, .inr ⟨hk, hv, trivial, hf, hi⟩⟩
      · simp only [if_neg e] at hp ⊢
        exact ⟨(h.yes p hp).1, .inl (h.yes p hp).2⟩
    · simp only [upd_apply] at hp2 ⊢
      have e0 : (0 : Nat) ≠ i := by omega
      by_cases e : p = i
      · subst e; simp at hp2
      · simp only [if_neg e] at hp2
        simp only [if_neg e0]
        exact h.two p hp hp2
    · have e0 : (0 : Nat) ≠ i := by omega
      simp only [upd_apply, if_neg e0] at h0
      have := h.all h0 i hi0 hi
      exact absurd hs (h.yes i this).1
    · have e0 : (0 : Nat) ≠ i := by omega
      simp only [upd_apply] at hp3 ⊢
      by_cases e : p = i
      · subst e; simp at hp3
      · simp only [if_neg e] at hp3
        rcases h.gone p hp hp3 with h1 | ⟨t, h1, h2, h3, h4⟩
        · exact .inl (by simp only [if_neg e0]; exact h1)
        · exact .inr ⟨t, h1, h2, by simp only [if_neg (hne h4)]; exact h3, by simp only [if_neg (hne h4)]; exact h4⟩
  · intro i hk hf hi0 hi _ hs hv
    have e0 : (0 : Nat) ≠ i := by omega
    have hyi : s.yes i = false := by
      cases hy : s.yes i
      · rfl
      · exact absurd hs (h.yes i hy).1
    have hne : ∀ {j}, s.st j ≠ 0 → j ≠ i := fun hj e => hj (by rw [e]; exact hs)
    refine ⟨fun p hp => ?_, fun p hp hp2 => ?_, fun h0 p hp0 hp => ?_, fun p hp hp3 => ?_⟩
    · have hp' : s.yes p = true := hp
      have hpi : p ≠ i := fun e => by rw [e, hyi] at hp'; cases hp'
      refine ⟨?_, .inl (h.yes p hp').2⟩
      show upd s.st i 3 p ≠ 0
      rw [upd_ne _ _ hpi]; exact (h.yes p hp').1
    · have hp2 : upd s.st i 3 p = 2 := hp2
      show upd s.st i 3 0 = 2
      rw [upd_ne _ _ e0]
      by_cases e : p = i
      · subst e; rw [upd_same] at hp2; cases hp2
      · rw [upd_ne _ _ e] at hp2; exact h.two p hp hp2
    · have h0 : upd s.st i 3 0 = 2 := h0
      rw [upd_ne _ _ e0] at h0
      exact h.all h0 p hp0 hp
    · exact .inr ⟨i, hi0, hi, hyi, by show upd s.st i 3 i ≠ 0; rw [upd_same]; decide⟩
  · intro hk hg hd
    obtain ⟨hd2, hd3⟩ := dec_no.1 hd
    refine ⟨fun p hp => ?_, fun p hp hp2 => ?_, fun h0 p hp0 hp => ?_, fun p hp hp3 => ?_⟩
    · have hp' : s.yes p = true := hp
      refine ⟨?_, .inl (h.yes p hp').2⟩
      show upd s.st 0 _ p ≠ 0
      by_cases e : p = 0
      · subst e; rw [upd_same]; rcases tallyTo_or s (n - 1) with h1 | h1 <;> rw [h1] <;> decide
      · rw [upd_ne _ _ e]; exact (h.yes p hp').1
    · show upd s.st 0 _ 0 = 2
      have hp2 : upd s.st 0 _ p = 2 := hp2
      by_cases e : p = 0
      · subst e; exact hp2
      · rw [upd_ne _ _ e] at hp2
        exact absurd (h.two p hp hp2) hd2
    · have h0 : upd s.st 0 _ 0 = 2 := h0
      rw [upd_same] at h0
      have := tallyTo_2 h0 (p - 1) (by omega)
      rw [show p - 1 + 1 = p by omega] at this
      exact this
    · show upd s.st 0 _ 0 = 3 ∨ ∃ t, 0 < t ∧ t < n ∧ s.yes t = false ∧ upd s.st 0 _ t ≠ 0
      have hp3 : upd s.st 0 _ p = 3 := hp3
      by_cases e : p = 0
      · subst e; exact .inl hp3
      · rw [upd_ne _ _ e] at hp3
        rcases h.gone p hp hp3 with h1 | ⟨t, h1, h2, h3, h4⟩
        · exact absurd h1 hd3
        · exact .inr ⟨t, h1, h2, h3, by rw [upd_ne _ _ (by omega)]; exact h4⟩
  · intro j hk ht hj0 hj _ _ hd hdj
    have e0 : (0 : Nat) ≠ j := by omega
    refine ⟨fun p hp => ?_, fun p hp hp2 => ?_, fun h0 p hp0 hp => ?_, fun p hp hp3 => ?_⟩
    · have hp' : s.yes p = true := hp
      refine ⟨?_, .inl (h.yes p hp').2⟩
      show upd s.st j _ p ≠ 0
      by_cases e : p = j
      · subst e; rw [upd_same]; rcases dec_iff.1 hd with h1 | h1 <;> rw [h1] <;> decide
      · rw [upd_ne _ _ e]; exact (h.yes p hp').1
    · show upd s.st j _ 0 = 2
      rw [upd_ne _ _ e0]
      have hp2 : upd s.st j _ p = 2 := hp2
      by_cases e : p = j
      · subst e; rw [upd_same] at hp2; exact hp2
      · rw [upd_ne _ _ e] at hp2; exact h.two p hp hp2
    · have h0 : upd s.st j _ 0 = 2 := h0
      rw [upd_ne _ _ e0] at h0
      exact h.all h0 p hp0 hp
    · show upd s.st j _ 0 = 3 ∨ ∃ t, 0 < t ∧ t < n ∧ s.yes t = false ∧ upd s.st j _ t ≠ 0
      rw [upd_ne _ _ e0]
      have hp3 : upd s.st j _ p = 3 := hp3
      by_cases e : p = j
      · subst e; rw [upd_same] at hp3; exact .inl hp3
      · rw [upd_ne _ _ e] at hp3
        rcases h.gone p hp hp3 with h1 | ⟨t, h1, h2, h3, h4⟩
        · exact .inl h1
        · refine .inr ⟨t, h1, h2, h3, ?_⟩
          by_cases e : t = j
          · subst e; rw [upd_same]; rcases dec_iff.1 hd with h1 | h1 <;> rw [h1] <;> decide
          · rw [upd_ne _ _ e]; exact h4
  · intro i _ _ _ _
    exact ⟨fun p hp => ⟨(h.yes p hp).1, .inl (h.yes p hp).2⟩, h.two, h.all, h.gone⟩
  · intro i _ _ hi _
    by_cases hc : (i = 0 && !dec (s.st 0)) = true
    · simp only [hc, if_true]
      simp at hc
      obtain ⟨_, hd⟩ := hc
      obtain ⟨hd2, hd3⟩ := dec_no.1 hd
      refine ⟨fun p hp => ?_, fun p hp hp2 => ?_, fun h0 p hp0 hp => ?_, fun p hp hp3 => ?_⟩
      · refine ⟨?_, .inl (h.yes p hp).2⟩
        show upd s.st 0 _ p ≠ 0
        rw [upd_apply]
        split
        · decide
        · exact (h.yes p hp).1
      · have hp2 : upd s.st 0 3 p = 2 := hp2
        rw [upd_apply] at hp2
        split at hp2
        · cases hp2
        · exact absurd (h.two p hp hp2) hd2
      · have h0 : upd s.st 0 3 0 = 2 := h0
        rw [upd_same] at h0; cases h0
      · exact .inl (by show upd s.st 0 3 0 = 3; rw [upd_same])
    · simp only [hc]
      exact ⟨fun p hp => ⟨(h.yes p hp).1, .inl (h.yes p hp).2⟩, h.two, h.all, h.gone⟩
  · intro i j hk _ _ hi0 hi hj0 hj hij hs1 hs2 hs3
    have hyj : s.yes j = false := by
      cases hy : s.yes j
      · rfl
      · exact absurd hs3 (h.yes j hy).1
    have hst : ∀ p, (setSt (setSt s j 3) i 3).st p = if p = i ∨ p = j then 3 else s.st p := by
      intro p
      show upd (upd s.st j 3) i 3 p = _
      rw [upd_apply, upd_apply]
      by_cases e1 : p = i
      · simp [e1]
      · by_cases e2 : p = j <;> simp [e1, e2]
    have h00 : (setSt (setSt s j 3) i 3).st 0 = s.st 0 := by rw [hst, if_neg (by omega)]
    refine ⟨fun p hp => ?_, fun p hp hp2 => ?_, fun h0 p hp0 hp => ?_, fun p hp hp3 => ?_⟩
    · have hp' : s.yes p = true := hp
      refine ⟨?_, .inl (h.yes p hp').2⟩
      show (setSt (setSt s j 3) i 3).st p ≠ 0
      rw [hst]
      split
      · decide
      · exact (h.yes p hp').1
    · have hp2 : (setSt (setSt s j 3) i 3).st p = 2 := hp2
      show (setSt (setSt s j 3) i 3).st 0 = 2
      rw [h00]
      rw [hst] at hp2
      split at hp2
      · cases hp2
      · exact h.two p hp hp2
    · have h0 : (setSt (setSt s j 3) i 3).st 0 = 2 := h0
      rw [h00] at h0
      exact h.all h0 p hp0 hp
    · refine .inr ⟨j, hj0, hj, hyj, ?_⟩
      show (setSt (setSt s j 3) i 3).st j ≠ 0
      rw [hst, if_pos (.inr rfl)]
      decide
  · intro i j hk _ _ hi0 hi hj0 hj hij hs1 hs2 hs3 hs4
    have e0 : (0 : Nat) ≠ i := by omega
    refine ⟨fun p hp => ?_, fun p hp hp2 => ?_, fun h0 p hp0 hp => ?_, fun p hp hp3 => ?_⟩
    · have hp' : s.yes p = true := hp
      refine ⟨?_, .inl (h.yes p hp').2⟩
      show upd s.st i _ p ≠ 0
      by_cases e : p = i
      · subst e; rw [upd_same]; exact hs4
      · rw [upd_ne _ _ e]; exact (h.yes p hp').1
    · show upd s.st i _ 0 = 2
      rw [upd_ne _ _ e0]
      have hp2 : upd s.st i _ p = 2 := hp2
      by_cases e : p = i
      · subst e; rw [upd_same] at hp2; exact h.two j hj hp2
      · rw [upd_ne _ _ e] at hp2; exact h.two p hp hp2
    · have h0 : upd s.st i _ 0 = 2 := h0
      rw [upd_ne _ _ e0] at h0
      exact h.all h0 p hp0 hp
    · show upd s.st i _ 0 = 3 ∨ ∃ t, 0 < t ∧ t < n ∧ s.yes t = false ∧ upd s.st i _ t ≠ 0
      rw [upd_ne _ _ e0]
      have hp3 : upd s.st i _ p = 3 := hp3
      have key : s.st 0 = 3 ∨ ∃ t, 0 < t ∧ t < n ∧ s.yes t = false ∧ s.st t ≠ 0 := by
        by_cases e : p = i
        · subst e; rw [upd_same] at hp3; exact h.gone j hj hp3
        · rw [upd_ne _ _ e] at hp3; exact h.gone p hp hp3
      rcases key with h1 | ⟨t, h1, h2, h3, h4⟩
      · exact .inl h1
      · refine .inr ⟨t, h1, h2, h3, ?_⟩
        by_cases e : t = i
        · subst e; rw [upd_same]; exact hs4
        · rw [upd_ne _ _ e]; exact h4
theorem CJ.all_ (n : Nat) (M : Mv) : ∀ q, CJ n (fun p => saidB n M q p = true) (cmE n M q)
  | 0 => ⟨fun i h => (by cases h), fun i _ h => (by cases h), fun h => (by cases h), fun i _ h => (by cases h)⟩
  | q + 1 => ((CJ.all_ n M q).step (k := M.k q) (f := M.f q) (t := M.t q) (v := M.v q)).mono fun p hp => by
    show anyTo _ (q + 1) = true
    rw [anyTo, Bool.or_eq_true]
    rcases hp with hp | ⟨h1, h2, h3, h4, h5⟩
    · exact .inl hp
    · have h3 : cmC n M q = 0 := h3
      refine .inr ?_
      simp [h1, h2, h3, h4, h5]
/-- The law CommitOne. -/
theorem com_one {n : Nat} {M : Mv} {q i j : Nat} (hi : i < n) (hj : j < n) (h : (cmE n M q).st i = 2) : (cmE n M q).st j ≠ 3 ∧ (0 < j → saidB n M q j = true) := by
  have hI := CJ.all_ n M q
  have h0 := hI.two i hi h
  refine ⟨fun h3 => ?_, fun hj0 => (hI.yes j (hI.all h0 j hj0 hj)).2⟩
  rcases hI.gone j hj h3 with h1 | ⟨t, h1, h2, h3, _⟩
  · rw [h0] at h1; cases h1
  · rw [hI.all h0 t h1 h2] at h3; cases h3
/-- All decided are so as 0 is. -/
theorem com_same {n : Nat} {M : Mv} {q i : Nat} (hi : i < n) (h : dec ((cmE n M q).st i) = true) (h0 : dec ((cmE n M q).st 0) = true) : (cmE n M q).st i = (cmE n M q).st 0 := by
  have hI := CJ.all_ n M q
  rcases dec_iff.1 h with h1 | h1
  · rw [h1, hI.two i hi h1]
  · rcases dec_iff.1 h0 with h2 | h2
    · have : n ≠ 0 := by omega
      rcases hI.gone i hi h1 with h3 | ⟨t, h3, h4, h5, _⟩
      · rw [h2] at h3; cases h3
      · rw [hI.all h2 t h3 h4] at h5; cases h5
    · rw [h1, h2]
/-- What is decided stays; who has done something stays so. -/
theorem com_stay {n : Nat} {k f t v : Int} {s : CS} (p : Nat) : (dec (s.st p) = true → (cmStep n k f t v s).2.st p = s.st p) ∧ (s.st p ≠ 0 → (cmStep n k f t v s).2.st p ≠ 0) := by
  have key : ∀ (i : Nat) (x : Int), dec (s.st i) = false → x ≠ 0 → (dec (s.st p) = true → upd s.st i x p = s.st p) ∧ (s.st p ≠ 0 → upd s.st i x p ≠ 0) := by
    intro i x hd hx
    by_cases e : p = i
    · subst e
      rw [upd_same]
      exact ⟨fun h => (by rw [hd] at h; cases h), fun _ => hx⟩
    · rw [upd_ne _ _ e]
      exact ⟨fun _ => rfl, fun h => h⟩
  have z : ∀ {i : Nat}, s.st i = 0 → dec (s.st i) = false := fun h => by rw [h]; rfl
  refine cm_cases (fun r => (dec (s.st p) = true → r.2.st p = s.st p) ∧ (s.st p ≠ 0 → r.2.st p ≠ 0)) ?_ ?_ ?_ ?_ ?_ ?_ ?_ ?_ ?_
  · exact fun _ _ => ⟨fun _ => rfl, fun h => h⟩
  · intro i _ _ _ _ _ hs _
    show (_ → upd (upd s.st i 3) i 1 p = _) ∧ (_ → upd (upd s.st i 3) i 1 p ≠ 0)
    rw [upd_upd]
    exact key i 1 (z hs) (by decide)
  · intro i _ _ _ _ _ hs _
    exact key i 3 (z hs) (by decide)
  · intro _ _ hd
    exact key 0 _ hd (by rcases tallyTo_or s (n - 1) with h1 | h1 <;> rw [h1] <;> decide)
  · intro j _ _ _ _ _ _ hd hdj
    exact key j _ hdj (by rcases dec_iff.1 hd with h1 | h1 <;> rw [h1] <;> decide)
  · intro i _ _ _ _
    exact ⟨fun _ => rfl, fun h => h⟩
  · intro i _ _ _ _
    show (_ → (if _ then _ else _ : Nat → Int) p = _) ∧ (_ → (if _ then _ else _ : Nat → Int) p ≠ 0)
    split
    · rename_i hc
      simp at hc
      exact key 0 3 hc.2 (by decide)
    · exact ⟨fun _ => rfl, fun h => h⟩
  · intro i j _ _ _ _ _ _ _ hij _ hd hs3
    have h1 := key i 3 hd (by decide)
    have h2 := key j 3 (z hs3) (by decide)
    show (_ → upd (upd s.st j 3) i 3 p = _) ∧ (_ → upd (upd s.st j 3) i 3 p ≠ 0)
    by_cases e : p = i
    · subst e
      rw [upd_same] at h1 ⊢
      exact h1
    · rw [upd_ne _ _ e]
      exact h2
  · intro i j _ _ _ _ _ _ _ _ _ hd _ hs4
    exact key i _ hd hs4
theorem com_stays {n : Nat} {M : Mv} {q : Nat} (p : Nat) : ∀ d, (dec ((cmE n M q).st p) = true → (cmE n M (q + d)).st p = (cmE n M q).st p) ∧ ((cmE n M q).st p ≠ 0 → (cmE n M (q + d)).st p ≠ 0)
  | 0 => ⟨fun _ => rfl, fun h => h⟩
  | d + 1 => by
    obtain ⟨h1, h2⟩ := com_stays (n := n) (M := M) (q := q) p d
    obtain ⟨h3, h4⟩ := com_stay (n := n) (k := M.k (q + d)) (f := M.f (q + d)) (t := M.t (q + d)) (v := M.v (q + d)) (s := cmE n M (q + d)) p
    exact ⟨fun h => (h3 (by rw [h1 h]; exact h)).trans (h1 h), fun h => h4 (h2 h)⟩
theorem cmE_congr {n : Nat} {M M' : Mv} {q : Nat} (h : ∀ j, j < q → M.k j = M'.k j ∧ M.f j = M'.f j ∧ M.t j = M'.t j ∧ M.v j = M'.v j) : ∀ j, j ≤ q → cmE n M j = cmE n M' j := by
  intro j
  induction j with
  | zero => intro _; rfl
  | succ j ih =>
    intro hj
    obtain ⟨h1, h2, h3, h4⟩ := h j (by omega)
    rw [cmE, cmE, ih (by omega), h1, h2, h3, h4]
/-- All are back, 0 tallies, and tells all. -/
theorem gone_back {n : Nat} {f t v : Int} {s : CS} {p : Nat} (h : s.gone p = false ∨ f = p ∧ p < n) : (cmStep n 5 f t v s).2.gone p = false := by
  rw [cm_back]
  split
  · rename_i hb
    rcases h with h | ⟨rfl, h⟩
    · exact h
    · simp at hb; omega
  · unfold backS
    split
    · rename_i hb hg
      rcases h with h | ⟨rfl, h⟩
      · exact h
      · simpa using hg
    · show upd s.gone f.toNat false p = false
      rw [upd_apply]
      split
      · rfl
      · rename_i hne
        rcases h with h | ⟨rfl, h⟩
        · exact h
        · simp at hne
theorem com_ends {n q : Nat} {M : Mv} (hn : 1 ≤ n) (hback : ∀ i, i < n → M.k (q + i) = 5 ∧ M.f (q + i) = i) (htally : M.k (q + n) = 2) (htell : ∀ j, 1 ≤ j → j < n → M.k (q + n + j) = 3 ∧ M.t (q + n + j) = j) :
    ∀ p, p < n → dec ((cmE n M (q + n + n)).st p) = true := by
  have h1 : ∀ i, i ≤ n → ∀ p, p < i → (cmE n M (q + i)).gone p = false := by
    intro i
    induction i with
    | zero => intro _ p hp; omega
    | succ i ih =>
      intro hi p hp
      obtain ⟨hk, hf⟩ := hback i (by omega)
      show (cmStep n (M.k (q + i)) (M.f (q + i)) _ _ (cmE n M (q + i))).2.gone p = false
      rw [hk, hf]
      refine gone_back ?_
      by_cases e : p = i
      · exact .inr ⟨by rw [e], by omega⟩
      · exact .inl (ih (by omega) p (by omega))
  have h2 : dec ((cmE n M (q + n + 1)).st 0) = true ∧ ∀ p, p < n → (cmE n M (q + n + 1)).gone p = false := by
    have hg := h1 n (Nat.le_refl _)
    have e : cmE n M (q + n + 1) = (tallyS n (cmE n M (q + n))).2 := by
      show (cmStep n (M.k (q + n)) _ _ _ (cmE n M (q + n))).2 = _
      rw [htally, cm_tally hn, if_neg (by rw [hg 0 (by omega)]; simp)]
    rw [e]
    unfold tallyS
    split
    · exact ⟨by assumption, hg⟩
    · refine ⟨?_, hg⟩
      show dec (upd (cmE n M (q + n)).st 0 (tallyTo (cmE n M (q + n)) (n - 1)) 0) = true
      rw [upd_same]
      rcases tallyTo_or (cmE n M (q + n)) (n - 1) with h | h <;> rw [h] <;> rfl
  have h3 : ∀ j, 1 ≤ j → j ≤ n → (∀ p, p < j → dec ((cmE n M (q + n + j)).st p) = true) ∧ ∀ p, p < n → (cmE n M (q + n + j)).gone p = false := by
    intro j hj
    induction j with
    | zero => omega
    | succ j ih =>
      intro hjn
      by_cases hj0 : j = 0
      · subst hj0
        exact ⟨fun p hp => by obtain rfl : p = 0 := by omega
                              exact h2.1, h2.2⟩
      · obtain ⟨i1, i2⟩ := ih (by omega) (by omega)
        obtain ⟨hk, ht⟩ := htell j (by omega) (by omega)
        have e : cmE n M (q + n + (j + 1)) = (tellS j (cmE n M (q + n + j))).2 := by
          show (cmStep n (M.k (q + n + j)) _ (M.t (q + n + j)) _ (cmE n M (q + n + j))).2 = _
          rw [hk, ht, cm_tell hn, if_neg (by simp; omega), Int.toNat_natCast, if_neg (by rw [i2 0 (by omega), i2 j (by omega)]; simp)]
        rw [e]
        unfold tellS
        rw [if_neg (by rw [i1 0 (by omega)]; simp)]
        split
        · refine ⟨fun p hp => ?_, i2⟩
          by_cases e : p = j
          · subst e; assumption
          · exact i1 p (by omega)
        · refine ⟨fun p hp => ?_, i2⟩
          show dec (upd _ j _ p) = true
          by_cases e : p = j
          · subst e; rw [upd_same]; exact i1 0 (by omega)
          · rw [upd_ne _ _ e]; exact i1 p (by omega)
  exact (h3 n hn (Nat.le_refl _)).1
/-- All have said yes, 0 has tallied and is gone: no asking helps. -/
theorem com_stuck {n q : Nat} {M : Mv} (hn : 2 ≤ n) (hvote : ∀ i, 1 ≤ i → i < n → M.k (i - 1) = 1 ∧ M.f (i - 1) = i ∧ M.v (i - 1) = 1) (htally : M.k (n - 1) = 2) (hcrash : M.k n = 4) (hask : ∀ j, j < q → M.k (n + 1 + j) = 6) :
    (cmE n M (n + 1 + q)).st 0 = 2 ∧ ∀ p, 1 ≤ p → p < n → (cmE n M (n + 1 + q)).st p = 1 := by
  have h1 : ∀ i, 1 ≤ i → i ≤ n → (∀ p, 1 ≤ p → p < i → (cmE n M (i - 1)).st p = 1 ∧ (cmE n M (i - 1)).yes p = true) ∧ (∀ p, i ≤ p → (cmE n M (i - 1)).st p = 0) ∧ (cmE n M (i - 1)).st 0 = 0 ∧ ∀ p, (cmE n M (i - 1)).gone p = false := by
    intro i hi
    induction i with
    | zero => omega
    | succ i ih =>
      intro hin
      by_cases hi0 : i = 0
      · subst hi0
        exact ⟨fun p h1 h2 => by omega, fun p _ => rfl, rfl, fun p => rfl⟩
      · obtain ⟨i1, i2, i3, i4⟩ := ih (by omega) (by omega)
        obtain ⟨hk, hf, hv⟩ := hvote i (by omega) (by omega)
        have e : cmE n M (i + 1 - 1) = { cmE n M (i - 1) with st := upd (upd (cmE n M (i - 1)).st i 3) i 1, yes := upd (cmE n M (i - 1)).yes i true } := by
          rw [show i + 1 - 1 = i - 1 + 1 by omega]
          show (cmStep n (M.k (i - 1)) (M.f (i - 1)) _ (M.v (i - 1)) (cmE n M (i - 1))).2 = _
          rw [hk, hf, hv, cm_vote, if_neg (by simp; omega), Int.toNat_natCast, if_neg (by rw [i4 i]; simp), voteS, if_neg (by rw [i2 i (Nat.le_refl _)]; simp), if_pos rfl, i4 0]
          rfl
        rw [e]
        simp only [upd_upd]
        refine ⟨fun p h1 h2 => ?_, fun p hp => ?_, ?_, i4⟩
        · simp only [upd_apply]
          by_cases e : p = i
          · simp [e]
          · simp only [if_neg e]; exact i1 p h1 (by omega)
        · show upd _ i _ p = 0
          rw [upd_ne _ _ (by omega)]; exact i2 p (by omega)
        · show upd _ i _ 0 = 0
          rw [upd_ne _ _ (by omega)]; exact i3
  obtain ⟨i1, i2, i3, i4⟩ := h1 n (by omega) (Nat.le_refl _)
  have h2 : (cmE n M n).st 0 = 2 ∧ (∀ p, 1 ≤ p → p < n → (cmE n M n).st p = 1) ∧ ∀ p, (cmE n M n).gone p = false := by
    have e : cmE n M n = setSt (cmE n M (n - 1)) 0 2 := by
      have : n = n - 1 + 1 := by omega
      rw [this]
      show (cmStep (n - 1 + 1) (M.k (n - 1)) _ _ _ (cmE (n - 1 + 1) M (n - 1))).2 = _
      rw [← this, htally, cm_tally (by omega), if_neg (by rw [i4 0]; simp), tallyS, if_neg (by rw [i3]; decide), tallyTo]
      rw [if_neg]
      rw [Bool.not_eq_true, anyTo_no]
      intro j hj
      rw [(i1 (j + 1) (by omega) (by omega)).2]; rfl
    rw [e]
    refine ⟨by show upd (cmE n M (n - 1)).st 0 2 0 = 2; rw [upd_same], fun p hp hpn => ?_, i4⟩
    show upd (cmE n M (n - 1)).st 0 2 p = 1
    rw [upd_ne _ _ (by omega)]; exact (i1 p hp hpn).1
  have h3 : ∀ j, j ≤ q → (cmE n M (n + 1 + j)).st 0 = 2 ∧ ∀ p, 1 ≤ p → p < n → (cmE n M (n + 1 + j)).st p = 1 := by
    intro j
    induction j with
    | zero =>
      intro _
      have e : (cmE n M (n + 1 + 0)).st = (cmE n M n).st := by
        show (cmStep n (M.k n) _ _ _ (cmE n M n)).2.st = _
        rw [hcrash, cm_crash]
        split
        · rfl
        · unfold crashS; split <;> rfl
      rw [e]
      exact ⟨h2.1, h2.2.1⟩
    | succ j ih =>
      intro hj
      obtain ⟨a1, a2⟩ := ih (by omega)
      have e : cmE n M (n + 1 + (j + 1)) = cmE n M (n + 1 + j) := by
        show (cmStep n (M.k (n + 1 + j)) (M.f (n + 1 + j)) (M.t (n + 1 + j)) (M.v (n + 1 + j)) (cmE n M (n + 1 + j))).2 = _
        rw [hask j (by omega), cm_ask]
        split
        · rfl
        · rename_i hb
          simp at hb
          split
          · rfl
          · unfold askS
            have b1 := a2 (M.t (n + 1 + j)).toNat (by omega) (by omega)
            split
            · rfl
            · split
              · rfl
              · first | rfl | rw [if_pos b1]
      rw [e]
      exact ⟨a1, a2⟩
  exact h3 q (Nat.le_refl _)
end Go.Proofs.Ytifbjnlbohigkaa
