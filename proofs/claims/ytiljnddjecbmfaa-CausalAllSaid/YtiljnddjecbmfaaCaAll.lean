/- causal: what has come everywhere has been told everywhere. -/
import Derived.Test.YtiljnddjecbmfaaCausalOrder
import Derived.Test.YtiljnddjecbmfaaMvApp
set_option linter.unusedVariables false
set_option linter.unusedSimpArgs false
namespace Go.Proofs.Ytiljnddjecbmfaa

def Settled (n : Nat) (s : CaS) : Prop := ∀ p k, k < s.m → mayC n s p k = false
theorem may_tell {n i k p q : Nat} {s : CaS} (h : p ≠ i) : mayC n (tellC i k s) p q = mayC n s p q := by
  unfold mayC tellC tickC toldC
  simp only [upd_ne _ _ h]
theorem may_settle {n i p q : Nat} (h : p ≠ i) : ∀ (f : Nat) (s : CaS), mayC n (settleC n i f s) p q = mayC n s p q
  | 0, _ => rfl
  | f + 1, s => by
    rw [settleC]
    split
    · rfl
    · rw [may_settle h f, may_tell h]
theorem settle_done {n j i : Nat} : ∀ (f : Nat) (s : CaS), CaB n j s → s.m < f + (s.told i).length → nextC n i (settleC n i f s) = none
  | 0, s, hB, h => by have := hB.len i; omega
  | f + 1, s, hB, h => by
    rw [settleC]
    split
    · assumption
    · rename_i k hk
      obtain ⟨h1, h2, _⟩ := next_some hk
      refine settle_done f _ (hB.tell h1 (may_not h2)) ?_
      show s.m < f + (upd s.told i (s.told i ++ [k]) i).length
      rw [upd_same]; simp; omega
theorem settle_come {n i : Nat} : ∀ (f : Nat) (s : CaS), (settleC n i f s).come = s.come
  | 0, _ => rfl
  | f + 1, s => by
    rw [settleC]
    split
    · rfl
    · rw [settle_come f]; rfl
theorem Settled.send {n j i : Nat} {s : CaS} (h : Settled n s) (hB : CaB n j s) (hJ : CJ n s) : Settled n (sendC i s) := by
  intro p k hk
  have hk : k < s.m + 1 := hk
  have hcm : s.come p s.m = false := by
    cases hc : s.come p s.m
    · rfl
    · have := hJ.cm p s.m hc; omega
  by_cases e : k = s.m
  · subst e
    unfold mayC
    show (s.come p s.m && _ && _) = false
    rw [hcm]; rfl
  · have hkm : k < s.m := by omega
    have h0 := h p k hkm
    have ha : (sendC i s).ahead k = s.ahead k := by
      show upd s.ahead s.m (s.clock i) k = _
      rw [upd_ne _ _ e]
    by_cases hp : p = i
    · subst hp
      cases hc : mayC n (sendC p s) p k
      · rfl
      · exfalso
        unfold mayC at hc h0
        rw [ha] at hc
        simp only [Bool.and_eq_true, Bool.not_eq_true', decide_eq_false_iff_not] at hc
        obtain ⟨⟨h1, h2⟩, h3⟩ := hc
        have h1 : s.come p k = true := h1
        have h2 : k ∉ s.told p := fun hm => h2 (by show k ∈ upd s.told p (s.told p ++ [s.m]) p; rw [upd_same]; exact List.mem_append_left _ hm)
        have h4 : underB n (s.ahead k) (s.clock p) = true := under_of fun o ho => by
          by_cases eo : o = p
          · subst eo
            rw [hJ.ah k hkm, hJ.cnt]
            have hnd : (fromO s.by_ o (bef (s.told (s.by_ k)) k)).Nodup := (bef_nodup (hB.nd _)).filter _
            refine hnd.length_le_of_subset fun z hz => ?_
            obtain ⟨z1, z2⟩ := List.mem_filter.1 hz
            have z2 : s.by_ z = o := by simpa using z2
            refine List.mem_filter.2 ⟨?_, by simpa using z2⟩
            have := hJ.own z (hB.told _ z (bef_mem z1))
            rwa [z2] at this
          · have h5 := under_le h3 ho
            have e5 : (sendC p s).clock p o = s.clock p o := by
              show upd s.clock p (upd (s.clock p) (upd s.by_ s.m p s.m) (s.clock p (upd s.by_ s.m p s.m) + 1)) p o = _
              rw [upd_same, upd_same, upd_ne _ _ eo]
            omega
        rw [h1, h4] at h0
        simp [h2] at h0
    · have : mayC n (sendC i s) p k = mayC n s p k := by
        unfold mayC
        rw [ha]
        show (s.come p k && !(decide (k ∈ upd s.told i _ p)) && underB n (s.ahead k) (upd s.clock i _ p)) = _
        rw [upd_ne _ _ hp, upd_ne _ _ hp]
      rw [this]; exact h0
theorem Settled.step {n j : Nat} {k f t v : Int} {s : CaS} (h : Settled n s) (hB : CaB n j s) (hJ : CJ n s) : Settled n (caStep n k f t v s).2 := by
  unfold caStep
  split
  · split
    · exact h.send hB hJ
    · exact h
  · split
    · split
      · split
        · split
          · exact h
          · intro p q hq
            have hm : (comeC n t.toNat v.toNat s).m = s.m := (settle_m _ (markC t.toNat v.toNat s)).1
            have hq : q < (comeC n t.toNat v.toNat s).m := hq
            show mayC n (settleC n t.toNat ((markC t.toNat v.toNat s).m - ((markC t.toNat v.toNat s).told t.toNat).length + 1) (markC t.toNat v.toNat s)) p q = false
            by_cases e : p = t.toNat
            · subst e
              have hBm : CaB n j (markC t.toNat v.toNat s) := hB.mark
              have hl := hBm.len t.toNat
              refine next_none (settle_done _ _ hBm (by omega)) q ?_
              exact hq
            · rw [may_settle e]
              have := h p q (by rw [hm] at hq; exact hq)
              unfold mayC at this ⊢
              show (upd s.come t.toNat _ p q && _ && _) = false
              rw [upd_ne _ _ e]; exact this
        · exact h
      · exact h
    · exact h
theorem caE_S (n : Nat) (M : Mv) : ∀ j, Settled n (caE n M j)
  | 0 => fun p k hk => absurd hk (by show ¬ k < 0; omega)
  | j + 1 => (caE_S n M j).step (caE_B n M j) (caE_J n M j)
theorem all_told {n j p : Nat} {s : CaS} (hJ : CJ n s) (hB : CaB n j s) (hS : Settled n s) (hc : ∀ k, k < s.m → s.come p k = true ∨ s.by_ k = p) : ∀ k, k < s.m → k ∈ s.told p := by
  intro k
  induction k using Nat.strongRecOn with
  | ind k ih =>
    intro hk
    refine Classical.byContradiction fun hno => ?_
    have hne : s.by_ k ≠ p := fun e => hno (by rw [← e]; exact hJ.own k hk)
    have hcm : s.come p k = true := (hc k hk).resolve_right hne
    have hu : underB n (s.ahead k) (s.clock p) = true := under_of fun o _ => by
      rw [hJ.ah k hk, hJ.cnt]
      have hnd : (fromO s.by_ o (bef (s.told (s.by_ k)) k)).Nodup := (bef_nodup (hB.nd _)).filter _
      refine hnd.length_le_of_subset fun z hz => ?_
      obtain ⟨z1, z2⟩ := List.mem_filter.1 hz
      have hzk := hJ.lt k hk z z1
      exact List.mem_filter.2 ⟨ih z hzk (by omega), z2⟩
    have := hS p k hk
    unfold mayC at this
    rw [hcm, hu] at this
    simp [hno] at this
theorem caE_congr {n : Nat} {M N : Mv} : ∀ {q : Nat}, (∀ j, j < q → M.k j = N.k j ∧ M.f j = N.f j ∧ M.t j = N.t j ∧ M.v j = N.v j) → caE n M q = caE n N q
  | 0, _ => rfl
  | q + 1, h => by
    obtain ⟨h1, h2, h3, h4⟩ := h q (by omega)
    rw [caE, caE, h1, h2, h3, h4, caE_congr fun j hj => h j (by omega)]
theorem come_step {n : Nat} {f t v : Int} {s : CaS} : (caStep n 2 f t v s).2.m = s.m ∧ (caStep n 2 f t v s).2.by_ = s.by_ ∧ (∀ p k, s.come p k = true → (caStep n 2 f t v s).2.come p k = true) ∧ (inB n t = true → inB s.m v = true → s.by_ v.toNat = t.toNat ∨ (caStep n 2 f t v s).2.come t.toNat v.toNat = true) := by
  have hm := step_m n 2 f t v s
  have hm2 : (caStep n 2 f t v s).2.m = s.m ∧ (caStep n 2 f t v s).2.by_ = s.by_ := by
    rcases hm with ⟨h1, _⟩ | ⟨_, h2, h3⟩
    · exact absurd h1 (by decide)
    · exact ⟨h2, h3⟩
  refine ⟨hm2.1, hm2.2, fun p k hc => ?_, fun ht hv => ?_⟩
  · rw [ca_comeS]
    split
    · split
      · split
        · exact hc
        · show (settleC n t.toNat _ (markC t.toNat v.toNat s)).come p k = true
          rw [settle_come]
          show upd s.come t.toNat (upd (s.come t.toNat) v.toNat true) p k = true
          rw [upd_apply]; split
          · rename_i e; subst e
            rw [upd_apply]; split
            · rfl
            · exact hc
          · exact hc
      · exact hc
    · exact hc
  · rw [ca_comeS, if_pos ht, if_pos hv]
    have htt : 0 ≤ t ∧ t < n := by simpa [inB] using ht
    by_cases hs : (s.by_ v.toNat : Int) = t ∨ s.come t.toNat v.toNat = true
    · rw [if_pos hs]
      rcases hs with h | h
      · exact .inl (by omega)
      · exact .inr h
    · rw [if_neg hs]
      right
      show (settleC n t.toNat _ (markC t.toNat v.toNat s)).come t.toNat v.toNat = true
      rw [settle_come]
      show upd s.come t.toNat (upd (s.come t.toNat) v.toNat true) t.toNat v.toNat = true
      rw [upd_same, upd_same]
theorem drain_m {n m : Nat} {M N : Mv} {q : Nat} (hk : ∀ j, j < q → N.k j = 2) : ∀ d, d ≤ q → (caE n (M.app m N) (m + d)).m = (caE n M m).m ∧ (caE n (M.app m N) (m + d)).by_ = (caE n M m).by_
  | 0, _ => by
    have : caE n (M.app m N) (m + 0) = caE n M m := caE_congr fun j hj => app_old M m N hj
    rw [this]; exact ⟨rfl, rfl⟩
  | d + 1, hd => by
    obtain ⟨h1, h2⟩ := drain_m (n := n) (m := m) (M := M) hk d (by omega)
    obtain ⟨a1, a2, a3, a4⟩ := app_new M m N d
    have e : caE n (M.app m N) (m + (d + 1)) = (caStep n 2 (N.f d) (N.t d) (N.v d) (caE n (M.app m N) (m + d))).2 := by
      rw [← Nat.add_assoc, caE, a1, a2, a3, a4, hk d (by omega)]
    obtain ⟨c1, c2, _⟩ := come_step (n := n) (f := N.f d) (t := N.t d) (v := N.v d) (s := caE n (M.app m N) (m + d))
    rw [e, c1, c2]; exact ⟨h1, h2⟩
theorem drain_come {n m : Nat} {M N : Mv} {q : Nat} (hk : ∀ j, j < q → N.k j = 2) {i k j : Nat} (hi : i < n) (hkm : k < (caE n M m).m) (hj : j < q) (ht : N.t j = (i : Nat)) (hv : N.v j = (k : Nat)) : ∀ d, j + d < q → (caE n (M.app m N) (m + (j + 1 + d))).come i k = true ∨ (caE n M m).by_ k = i
  | 0, _ => by
    obtain ⟨h1, h2⟩ := drain_m (n := n) (m := m) (M := M) hk j (by omega)
    obtain ⟨a1, a2, a3, a4⟩ := app_new M m N j
    have e : caE n (M.app m N) (m + (j + 1 + 0)) = (caStep n 2 (N.f j) (N.t j) (N.v j) (caE n (M.app m N) (m + j))).2 := by
      rw [Nat.add_zero, ← Nat.add_assoc, caE, a1, a2, a3, a4, hk j hj]
    obtain ⟨_, _, _, c4⟩ := come_step (n := n) (f := N.f j) (t := N.t j) (v := N.v j) (s := caE n (M.app m N) (m + j))
    rw [e]
    have := c4 (by rw [ht]; simp [inB]; omega) (by rw [hv, h1]; simp [inB]; omega)
    rw [h2, ht, hv, Int.toNat_natCast, Int.toNat_natCast] at this
    rcases this with h | h
    · exact .inr h
    · rw [ht, hv]; exact .inl h
  | d + 1, hd => by
    rcases drain_come hk hi hkm hj ht hv d (by omega) with h | h
    · left
      obtain ⟨a1, a2, a3, a4⟩ := app_new M m N (j + 1 + d)
      have e : caE n (M.app m N) (m + (j + 1 + (d + 1))) = (caStep n 2 (N.f (j + 1 + d)) (N.t (j + 1 + d)) (N.v (j + 1 + d)) (caE n (M.app m N) (m + (j + 1 + d)))).2 := by
        rw [show m + (j + 1 + (d + 1)) = m + (j + 1 + d) + 1 by omega, caE, a1, a2, a3, a4, hk _ (by omega)]
      rw [e]
      exact come_step.2.2.1 i k h
    · exact .inr h
/-- Behind the drain all are told all. -/
theorem drain_all {n m : Nat} {M N : Mv} {q : Nat} (hk : ∀ j, j < q → N.k j = 2) (hcov : ∀ i, i < n → ∀ k, k < (caE n M m).m → ∃ j, j < q ∧ N.t j = (i : Nat) ∧ N.v j = (k : Nat)) {p : Nat} (hp : p < n) :
    (caE n (M.app m N) (m + q)).m = (caE n M m).m ∧ ∀ k, k < (caE n M m).m → k ∈ (caE n (M.app m N) (m + q)).told p := by
  obtain ⟨h1, h2⟩ := drain_m (n := n) (m := m) (M := M) hk q (Nat.le_refl _)
  refine ⟨h1, fun k hkm => all_told (caE_J n _ _) (caE_B n _ _) (caE_S n _ _) (fun k2 hk2 => ?_) k (by rw [h1]; exact hkm)⟩
  rw [h1] at hk2
  obtain ⟨j, j1, j2, j3⟩ := hcov p hp k2 hk2
  have := drain_come hk hp hk2 j1 j2 j3 (q - j - 1) (by omega)
  rw [show j + 1 + (q - j - 1) = q by omega] at this
  rw [h2]; exact this
end Go.Proofs.Ytiljnddjecbmfaa
