/- What holds of logs all the time: the moves (plain). -/
import Derived.Test.YtfhmabpalimcnaaLgInv
set_option linter.unusedVariables false
set_option linter.unusedSimpArgs false
namespace Go.Proofs.Ytfhmabpalimcnaa
open Go.RowKit

section
variable {n : Nat} {G : Nat → Nat → Int} {s s' : LS} {L L' : Nat → List Ent} {ak ak' : Nat → Nat → Nat}
/-- Who leads is alone in its term. -/
theorem GI.alone (h : GI n G s L ak) {i j : Nat} (hi : s.e.R i = 2) (hj : s.e.R j = 2) (he : s.e.T i = s.e.T j) : i = j := by
  have a := h.j.lead i hi
  have b := h.j.lead j hj
  rw [he] at a
  rcases Classical.em (i = j) with e | e
  · exact e
  · exfalso
    have hp := h.j.apart
    have : (s.e.T j, i) ≠ (s.e.T j, j) := fun h => e (congrArg Prod.snd h)
    obtain ⟨x, hx⟩ := List.getElem?_of_mem a
    obtain ⟨y, hy⟩ := List.getElem?_of_mem b
    obtain ⟨hx1, hx2⟩ := List.getElem?_eq_some_iff.1 hx
    obtain ⟨hy1, hy2⟩ := List.getElem?_eq_some_iff.1 hy
    rcases Nat.lt_trichotomy x y with hl | hl | hl
    · have := List.pairwise_iff_getElem.1 hp x y hx1 hy1 hl
      rw [hx2, hy2] at this; exact this rfl
    · subst hl
      exact this (hx2.symm.trans hy2)
    · have := List.pairwise_iff_getElem.1 hp y x hy1 hx1 hl
      rw [hx2, hy2] at this; exact this rfl
theorem GI.ledOf (h : GI n G s L ak) {i : Nat} (hi : s.e.R i = 2) : Led s (s.e.T i) := ⟨_, h.j.lead i hi, rfl⟩
/-- Who leads adds. -/
theorem GI.push (h : GI n G s L ak) (hn : n ≤ 32) {i : Nat} (hi : s.e.R i = 2) (v : Int) : ∃ L' ak', GI n G (pushL i v s) L' ak' ∧ Ext s (pushL i v s) L L' ak ak' := by
  obtain ⟨hin, hLi, hha, haki⟩ := h.lead i hi
  have hled := h.ledOf hi
  have hu1 : 1 ≤ s.e.T i := h.t1 i (by rw [hi]; decide)
  have hal : ∀ p, s.e.R p = 2 → p ≠ i → s.e.T p ≠ s.e.T i := fun p hp hne e => hne (h.alone hp hi e)
  obtain ⟨u, hu⟩ : ∃ u, s.e.T i = u := ⟨_, rfl⟩
  rw [hu] at hLi haki hled hu1 hal
  obtain ⟨s', hs'⟩ : ∃ s', s' = pushL i v s := ⟨_, rfl⟩
  rw [← hs']
  have he : s'.e = s.e := by rw [hs']; rfl
  have hlg : ∀ p, s'.lg p = if p = i then s.lg i ++ [(u, v)] else s.lg p := fun p => by rw [hs', ← hu]; rfl
  have hsu : s'.su = s.su := by rw [hs']; rfl
  have hha' : s'.ha = s.ha := by rw [hs']; rfl
  have hnx : s'.nx = s.nx := by rw [hs']; rfl
  have hL : ∀ t, Led s' t ↔ Led s t := led_same (by rw [he])
  obtain ⟨ak', hak'⟩ : ∃ ak' : Nat → Nat → Nat, ak' = upd ak u (upd (ak u) i ((s.lg i).length + 1)) := ⟨_, rfl⟩
  obtain ⟨L', hL'⟩ : ∃ L', L' = upd L u (s.lg i ++ [(u, v)]) := ⟨_, rfl⟩
  have aks : ∀ t p, ¬ (t = u ∧ p = i) → ak' t p = ak t p := fun t p ht => by
    rw [hak']
    by_cases e : t = u
    · subst e; rw [upd_same, upd_ne _ _ (fun e => ht ⟨rfl, e⟩)]
    · rw [upd_ne _ _ e]
  have akn : ak' u i = (s.lg i).length + 1 := by rw [hak', upd_same, upd_same]
  have akm : ∀ t p, ak t p ≤ ak' t p := fun t p => by
    by_cases e : t = u ∧ p = i
    · rw [e.1, e.2, akn, haki]; omega
    · rw [aks t p e]; exact Nat.le_refl _
  have Ls : ∀ t, t ≠ u → L' t = L t := fun t ht => by rw [hL', upd_ne _ _ ht]
  have Lu : L' u = L u ++ [(u, v)] := by rw [hL', upd_same, hLi]
  have LC : ∀ t k, k ≤ (L t).length → Cm k (L t) (L' t) := fun t k hk => by
    by_cases e : t = u
    · subst e; rw [Lu]; exact (Cm.refl hk).app _
    · rw [Ls t e]; exact Cm.refl hk
  have gC : ∀ k l p, Cm k l (s.lg p) → Cm k l (s'.lg p) := fun k l p hc => by
    rw [hlg]; split
    · rename_i e; rw [← e]; exact hc.app _
    · exact hc
  have hM : ∀ t k, May n s' ak' t k → May n s ak t k := fun t k hm => hm.mono fun p hp => by
    rw [he] at hp
    by_cases e : t = u ∧ p = i
    · right; rw [e.1, e.2, hu]; exact Nat.le_refl _
    · rw [aks t p e] at hp; exact hp
  have hP : ∀ l, Pf s L l → Pf s' L' l := fun l hp k hk => ⟨(hL _).2 (hp k hk).1, (hp k hk).2.trans (LC _ _ (hp k hk).2.2.1)⟩
  have hPn : Pf s' L' (s.lg i ++ [(u, v)]) := by
    intro k hk
    rw [List.length_append, List.length_singleton] at hk
    rcases Nat.lt_or_ge k (s.lg i).length with h1 | h1
    · rw [trm_old h1]
      obtain ⟨a, b⟩ := hP _ (h.pf i) k h1
      exact ⟨a, (b.symm.app _).symm⟩
    · obtain rfl : k = (s.lg i).length := by omega
      rw [trm_new]
      refine ⟨(hL _).2 hled, ?_⟩
      rw [Lu, hLi]
      exact Cm.refl (by simp)
  refine ⟨L', ak', ⟨by rw [he]; exact h.j, by rw [he]; exact h.H, by rw [he]; exact h.lt, by rw [he]; exact h.t1, fun p hp => ?_, fun p hp q => ?_, fun p => ?_, fun t ht => ?_, fun p => ?_, fun t ht => ?_, fun t p hp => ?_, fun p t k h1 h2 h3 h4 => ?_, fun t w k h1 h2 h3 h4 h5 h6 h7 => ?_, fun c hc p hp t k h1 h2 h3 h4 h5 => ?_, fun p => ?_⟩,
    ⟨fun p => by rw [he]; exact Nat.le_refl _, fun t ht => (hL t).2 ht, fun t _ => LC t _ (Nat.le_refl _), akm⟩⟩
  · rw [he] at hp ⊢
    rw [hha', hlg]
    by_cases e : p = i
    · subst e
      rw [hu, if_pos rfl, Lu, hLi, akn]
      exact ⟨hin, rfl, fun q hq hqn => by rw [aks u q (fun h => hq h.2), hha q hq hqn, hu], by simp⟩
    · rw [if_neg e]
      have h1 := h.lead p hp
      have h2 := hal p hp e
      rw [Ls _ h2, aks _ _ (fun h => h2 h.1)]
      exact ⟨h1.1, h1.2.1, fun q hq hqn => by rw [aks _ _ (fun h => h2 h.1)]; exact h1.2.2.1 q hq hqn, h1.2.2.2⟩
  · rw [he] at hp
    have := h.nxt p hp q
    rw [hnx, hlg]; split
    · rename_i e; rw [List.length_append, ← e]; omega
    · exact this
  · rw [hlg]; split
    · exact hPn
    · exact hP _ (h.pf p)
  · by_cases e : t = u
    · subst e; rw [Lu, hLi]; exact hPn
    · rw [Ls t e]; exact hP _ (h.pL t ((hL t).1 ht))
  · rw [he, hlg]; split
    · rename_i e
      rw [e, hu]
      have := h.so i
      rw [hu] at this
      exact this.push hu1 v
    · exact h.so p
  · by_cases e : t = u
    · subst e; rw [Lu]; exact (h.sL t ((hL t).1 ht)).push hu1 v
    · rw [Ls t e]; exact h.sL t ((hL t).1 ht)
  · rw [he, hL]
    by_cases e : t = u ∧ p = i
    · rw [e.1, e.2, akn, Lu, hu, hLi]
      exact ⟨hled, Nat.le_refl _, by simp⟩
    · rw [aks t p e] at hp ⊢
      have := h.ak0 t p hp
      have h2 := (LC t _ (Nat.le_refl _)).2.1
      exact ⟨this.1, this.2.1, by omega⟩
  · by_cases e : t = u ∧ p = i
    · obtain ⟨rfl, rfl⟩ := e
      rw [akn] at h2
      rw [Lu, hLi, hlg, if_pos rfl]
      exact Cm.refl (by simp; omega)
    · rw [aks t p e] at h2
      have hk : k ≤ (L t).length := Nat.le_trans h2 (h.ak0 t p (by omega)).2.2
      rw [← (LC t k hk).trm (by omega)] at h3
      exact gC _ _ _ ((LC t k hk).symm.trans (h.P p t k h1 h2 h3 (hM t k h4)))
  · rcases Nat.lt_or_ge (L t).length k with hx | hx
    · have e : t = u := Classical.byContradiction fun e => by rw [Ls t e] at h5; omega
      subst e
      exfalso
      obtain ⟨Q, q1, q2, q3⟩ := h7
      obtain ⟨Z, z1, z2, z3⟩ := h.most ((hL w).1 h2)
      obtain ⟨p, _, p1, p2⟩ := pop_meet hn q1 z1 q2 z2
      have hT := z3 p p2
      rw [he] at q3
      have h9 := (q3 p p1).resolve_right (by omega)
      by_cases e : p = i
      · rw [e, hu] at hT; omega
      · rw [aks t p (fun h => e h.2)] at h9
        have := (h.ak0 t p (by omega)).2.2
        omega
    · rw [← (LC t k hx).trm (by omega)] at h6
      have := h.I t w k ((hL t).1 h1) ((hL w).1 h2) h3 h4 hx h6 (hM t k h7)
      exact ((LC t k hx).symm.trans this).trans (LC w k this.2.1)
  · rw [he] at hc hp h1
    by_cases e : t = u ∧ p = i
    · have := h.voter hp
      rw [e.2, hu] at this
      omega
    · rw [aks t p e] at h3
      have hk : k ≤ (L t).length := Nat.le_trans h3 (h.ak0 t p (by omega)).2.2
      rw [← (LC t k hk).trm (by omega)] at h4
      exact gC _ _ _ ((LC t k hk).symm.trans (h.C c hc p hp t k h1 h2 h3 h4 (hM t k h5)))
  · rw [hsu, he]
    rcases h.S p with e | ⟨t, k, h1, h2, h3, h4, h5, h6, h7⟩
    · exact .inl e
    · by_cases e0 : k = 0
      · left; omega
      refine .inr ⟨t, k, (hL t).2 h1, h2, h3, (LC t k h4).2.1, ?_, h6.mono akm, gC _ _ _ ((LC t _ (by omega)).symm.trans h7)⟩
      rw [← (LC t k h4).trm (by omega)]; exact h5
/-- Who leads tells its log. -/
theorem GI.tell (h : GI n G s L ak) {i t : Nat} (hi : s.e.R i = 2) (hit : i ≠ t) (hT : s.e.T t = s.e.T i) (hR : s.e.R t = 0) (hm : missB (s.lg i) (s.lg t) (s.nx i t) = false) : ∃ ak', GI n G (tellL i t s) L ak' ∧ Ext s (tellL i t s) L L ak ak' := by
  obtain ⟨hin, hLi, hha, haki⟩ := h.lead i hi
  have hled := h.ledOf hi
  have hal : ∀ p, s.e.R p = 2 → p ≠ i → s.e.T p ≠ s.e.T i := fun p hp hne e => hne (h.alone hp hi e)
  have hm := miss_no hm
  have hnx1 := h.nxt i hi t
  have htk : (s.lg i).take (s.nx i t) = (s.lg t).take (s.nx i t) := by
    rcases Nat.eq_zero_or_pos (s.nx i t) with e | e
    · rw [e]; simp
    · have h1 := hm.2 e
      obtain ⟨_, a⟩ := h.pf i (s.nx i t - 1) (by omega)
      obtain ⟨_, b⟩ := h.pf t (s.nx i t - 1) (by omega)
      have e2 : trm (s.lg i) (s.nx i t - 1) = trm (s.lg t) (s.nx i t - 1) := by unfold trm; rw [h1]
      rw [e2] at a
      have := (a.trans b.symm).2.2
      rw [Nat.sub_add_cancel e] at this
      exact this
  have hnew := sendLog_is (s.lg i) (s.lg t) hnx1 hm.1 htk
  generalize hN : sendLog (s.lg i) (s.lg t) (s.nx i t) = N at hnew
  have hNC : Cm (s.lg i).length (s.lg i) N := by
    rcases hnew with e | ⟨e, e1, e2⟩
    · rw [e]; exact Cm.refl (Nat.le_refl _)
    · rw [e]; exact ⟨Nat.le_refl _, e1, by rw [e2]; simp⟩
  obtain ⟨u, hu⟩ : ∃ u, s.e.T i = u := ⟨_, rfl⟩
  rw [hu] at hLi haki hled hal hT
  have hLN : ∀ k l, Cm k l (L u) → Cm k l N := fun k l hc => by rw [hLi] at hc; exact hc.trans (hNC.le hc.2.1)
  have hNP : Pf s L N := by
    rcases hnew with e | ⟨e, _⟩ <;> rw [e]
    · exact h.pf i
    · exact h.pf t
  have hNS : Srt u N := by
    rcases hnew with e | ⟨e, _⟩ <;> rw [e]
    · rw [← hu]; exact h.so i
    · rw [← hT]; exact h.so t
  have hNold : N = s.lg t ∨ N = L u := by
    rcases hnew with e | ⟨e, _⟩
    · right; rw [e, hLi]
    · exact .inl e
  obtain ⟨s', hs'⟩ : ∃ s', s' = tellL i t s := ⟨_, rfl⟩
  rw [← hs']
  have he : s'.e = s.e := by rw [hs']; rfl
  have hlg : ∀ p, s'.lg p = if p = t then N else s.lg p := fun p => by rw [hs', ← hN]; rfl
  have hsu : ∀ p, s'.su p = if p = t then max (s.su t) (min (s.su i) (s.lg i).length) else s.su p := fun p => by rw [hs']; rfl
  have hha' : ∀ p q, s'.ha p q = if p = i then (if q = t then (s.lg i).length else s.ha i q) else s.ha p q := fun p q => by
    rw [hs']; show upd s.ha i (upd (s.ha i) t _) p q = _
    rw [upd_apply]; split <;> rfl
  have hnx' : ∀ p q, s'.nx p q = if p = i then (if q = t then (s.lg i).length else s.nx i q) else s.nx p q := fun p q => by
    rw [hs']; show upd s.nx i (upd (s.nx i) t _) p q = _
    rw [upd_apply]; split <;> rfl
  have hL : ∀ t, Led s' t ↔ Led s t := led_same (by rw [he])
  obtain ⟨ak', hak'⟩ : ∃ ak' : Nat → Nat → Nat, ak' = upd ak u (upd (ak u) t (s.lg i).length) := ⟨_, rfl⟩
  have aks : ∀ x p, ¬ (x = u ∧ p = t) → ak' x p = ak x p := fun x p ht => by
    rw [hak']
    by_cases e : x = u
    · subst e; rw [upd_same, upd_ne _ _ (fun e => ht ⟨rfl, e⟩)]
    · rw [upd_ne _ _ e]
  have akn : ak' u t = (s.lg i).length := by rw [hak', upd_same, upd_same]
  have akm : ∀ x p, ak x p ≤ ak' x p := fun x p => by
    by_cases e : x = u ∧ p = t
    · rw [e.1, e.2, akn]
      rcases Nat.eq_zero_or_pos (ak u t) with e | e
      · omega
      · have := (h.ak0 u t e).2.2
        rw [hLi] at this; exact this
    · rw [aks x p e]; exact Nat.le_refl _
  have hM : ∀ x k, May n s' ak' x k → May n s ak x k := fun x k hm => hm.mono fun p hp => by
    rw [he] at hp
    by_cases e : x = u ∧ p = t
    · right; rw [e.1, e.2, hT]; exact Nat.le_refl _
    · rw [aks x p e] at hp; exact hp
  have hP : ∀ l, Pf s L l → Pf s' L l := fun l hp k hk => ⟨(hL _).2 (hp k hk).1, (hp k hk).2⟩
  refine ⟨ak', ⟨by rw [he]; exact h.j, by rw [he]; exact h.H, by rw [he]; exact h.lt, by rw [he]; exact h.t1, fun p hp => ?_, fun p hp q => ?_, fun p => ?_, fun x hx => hP _ (h.pL x ((hL x).1 hx)), fun p => ?_, fun x hx => h.sL x ((hL x).1 hx), fun x p hp => ?_, fun p x k h1 h2 h3 h4 => ?_, fun x w k h1 h2 h3 h4 h5 h6 h7 => h.I x w k ((hL x).1 h1) ((hL w).1 h2) h3 h4 h5 h6 (hM x k h7), fun c hc p hp x k h1 h2 h3 h4 h5 => ?_, fun p => ?_⟩,
    ⟨fun p => by rw [he]; exact Nat.le_refl _, fun x hx => (hL x).2 hx, fun x _ => Cm.refl (Nat.le_refl _), akm⟩⟩
  · rw [he] at hp ⊢
    have hpt : p ≠ t := by rintro rfl; rw [hR] at hp; cases hp
    have h1 := h.lead p hp
    rw [hlg, if_neg hpt]
    refine ⟨h1.1, h1.2.1, fun q hq hqn => ?_, ?_⟩
    · rw [hha']
      by_cases e : p = i
      · subst e
        rw [if_pos rfl]
        split
        · rename_i e2; rw [e2, hu, akn]
        · rename_i e2; rw [hu, aks _ _ (fun h => e2 h.2), ← hu]; exact h1.2.2.1 q hq hqn
      · rw [if_neg e, aks _ _ (fun h => hal p hp e h.1)]; exact h1.2.2.1 q hq hqn
    · rw [aks _ _ (fun h => hpt h.2)]; exact h1.2.2.2
  · rw [he] at hp
    have hpt : p ≠ t := by rintro rfl; rw [hR] at hp; cases hp
    rw [hnx', hlg, if_neg hpt]
    by_cases e : p = i
    · subst e
      rw [if_pos rfl]
      split
      · exact Nat.le_refl _
      · exact h.nxt p hp q
    · rw [if_neg e]; exact h.nxt p hp q
  · rw [hlg]; split
    · exact hP _ hNP
    · exact hP _ (h.pf p)
  · rw [he, hlg]; split
    · rename_i e; rw [e, hT]; exact hNS
    · exact h.so p
  · rw [he, hL]
    by_cases e : x = u ∧ p = t
    · rw [e.1, e.2, akn, hT, hLi]; exact ⟨hled, Nat.le_refl _, Nat.le_refl _⟩
    · rw [aks x p e] at hp ⊢; exact h.ak0 x p hp
  · rw [hlg]
    by_cases e : x = u ∧ p = t
    · obtain ⟨rfl, rfl⟩ := e
      rw [akn] at h2
      rw [if_pos rfl]
      exact hLN _ _ (Cm.refl (by rw [hLi]; exact h2))
    · rw [aks x p e] at h2
      have h9 := h.P p x k h1 h2 h3 (hM x k h4)
      split
      · rename_i e2
        subst e2
        obtain ⟨a1, a2, a3⟩ := h.ak0 x p (by omega)
        rw [hT] at a2
        have : x ≠ u := fun e3 => e ⟨e3, rfl⟩
        exact hLN _ _ (h.I x u k a1 hled (by omega) h1 h9.1 h3 (hM x k h4))
      · exact h9
  · rw [he] at hc hp h1
    have hct : c ≠ t := by rintro rfl; rw [hR] at hc; cases hc
    rw [hlg, if_neg hct]
    by_cases e : x = u ∧ p = t
    · have := h.voter hp
      rw [e.2, hT] at this
      omega
    · rw [aks x p e] at h3
      exact h.C c hc p hp x k h1 h2 h3 h4 (hM x k h5)
  · rw [hsu, he, hlg]
    have old : ∀ q, s.su q = 0 ∨ ∃ x k, Led s' x ∧ x ≤ s.e.T q ∧ s.su q ≤ k ∧ k ≤ (L x).length ∧ trm (L x) (k - 1) = x ∧ Cho n ak' x k ∧ Cho n ak x k ∧ Cm (s.su q) (L x) (s.lg q) := fun q => by
      rcases h.S q with e | ⟨x, k, h1, h2, h3, h4, h5, h6, h7⟩
      · exact .inl e
      · exact .inr ⟨x, k, (hL x).2 h1, h2, h3, h4, h5, h6.mono akm, h6, h7⟩
    by_cases e : p = t
    · subst e
      rw [if_pos rfl, if_pos rfl]
      have key : ∀ m, (m = s.su p ∨ m = s.su i) → m = 0 ∨ ∃ x k, Led s' x ∧ x ≤ s.e.T p ∧ m ≤ k ∧ k ≤ (L x).length ∧ trm (L x) (k - 1) = x ∧ Cho n ak' x k ∧ Cm m (L x) N := by
        rintro m (rfl | rfl)
        · rcases old p with e | ⟨x, k, h1, h2, h3, h4, h5, h6, h6', h7⟩
          · exact .inl e
          · by_cases e0 : s.su p = 0
            · exact .inl e0
            refine .inr ⟨x, k, h1, h2, h3, h4, h5, h6, ?_⟩
            rcases hNold with e | e
            · rw [e]; exact h7
            · rw [e]
              by_cases ex : x = u
              · subst ex; exact Cm.refl (by omega)
              · rw [hT] at h2
                exact (h.I x u k ((hL x).1 h1) hled (by omega) (by omega) h4 h5 h6'.may).le h3
        · rcases old i with e | ⟨x, k, h1, h2, h3, h4, h5, h6, h6', h7⟩
          · exact .inl e
          · rw [hu] at h2
            refine .inr ⟨x, k, h1, by rw [hT]; exact h2, h3, h4, h5, h6, ?_⟩
            exact hLN _ _ (by rw [hLi]; exact h7)
      have hsl : s.su i ≤ (s.lg i).length := by
        rcases h.S i with e | ⟨x, k, _, _, _, _, _, _, h7⟩
        · omega
        · exact h7.2.1
      refine key _ ?_
      omega
    · rw [if_neg e, if_neg e]
      rcases old p with e | ⟨x, k, h1, h2, h3, h4, h5, h6, h6', h7⟩
      · exact .inl e
      · exact .inr ⟨x, k, h1, h2, h3, h4, h5, h6, h7⟩
theorem GI.back (h : GI n G s L ak) (i t : Nat) : GI n G (backL i t s) L ak := by
  refine ⟨h.j, h.H, h.lt, h.t1, h.lead, fun p hp q => ?_, h.pf, h.pL, h.so, h.sL, h.ak0, h.P, h.I, h.C, h.S⟩
  have := h.nxt p hp q
  show upd s.nx i (upd (s.nx i) t (s.nx i t - 1)) p q ≤ (s.lg p).length
  by_cases e : p = i
  · subst e
    rw [upd_same, upd_apply]; split
    · rename_i e2; rw [e2] at this; omega
    · exact this
  · rw [upd_ne _ _ e]; exact this
/-- A mask of what holds. -/
theorem cnt_mask (f : Nat → Bool) : ∀ n, ∃ Q, Q < 2 ^ n ∧ (∀ p, Q.testBit p = true → p < n ∧ f p = true) ∧ ∀ m, n ≤ m → popTo Q m = cntL f n
  | 0 => ⟨0, by decide, fun p hp => by simp at hp, fun m _ => by
      show popTo 0 m = 0
      have := popTo_stop (a := 0) (n := 0) (by decide) (m := m) (Nat.zero_le _)
      rw [this]; rfl⟩
  | n + 1 => by
    obtain ⟨Q, h1, h2, h3⟩ := cnt_mask f n
    by_cases hf : f n = true
    · refine ⟨Q ||| 2 ^ n, or_lt (Nat.lt_of_lt_of_le h1 (Nat.pow_le_pow_right (by omega) (by omega))) (by omega), fun p hp => ?_, fun m hm => ?_⟩
      · rw [Nat.testBit_or, Bool.or_eq_true, Nat.testBit_two_pow, decide_eq_true_eq] at hp
        rcases hp with hp | rfl
        · have := h2 p hp; exact ⟨by omega, this.2⟩
        · exact ⟨by omega, hf⟩
      · have hb : Q.testBit n = false := Nat.testBit_lt_two_pow h1
        have e1 : popTo (Q ||| 2 ^ n) m = popTo (Q ||| 2 ^ n) (n + 1) := popTo_stop (or_lt (Nat.lt_of_lt_of_le h1 (Nat.pow_le_pow_right (by omega) (by omega))) (by omega)) hm
        have e2 : popTo (Q ||| 2 ^ n) n = popTo Q n := by
          have a : popTo Q n ≤ popTo (Q ||| 2 ^ n) n := popTo_sub fun p _ hp => by rw [Nat.testBit_or, hp]; rfl
          have b : popTo (Q ||| 2 ^ n) n ≤ popTo Q n := popTo_sub fun p hpn hp => by
            rw [Nat.testBit_or, Bool.or_eq_true, Nat.testBit_two_pow, decide_eq_true_eq] at hp
            exact hp.resolve_right (by omega)
          omega
        rw [e1, popTo, e2, h3 n (Nat.le_refl _), cntL, if_pos hf, Nat.testBit_or, Nat.testBit_two_pow_self]
        simp
    · refine ⟨Q, Nat.lt_of_lt_of_le h1 (Nat.pow_le_pow_right (by omega) (by omega)), fun p hp => ?_, fun m hm => ?_⟩
      · have := h2 p hp; exact ⟨by omega, this.2⟩
      · rw [h3 m (by omega), cntL, if_neg hf]; rfl
theorem GI.sure (h : GI n G s L ak) (hn : n ≤ 32) {i k : Nat} (hi : s.e.R i = 2) (hk : k ≤ (s.lg i).length) (h0 : 0 < k) (ho : okL n i s k = true) : GI n G (sureL i k s) L ak := by
  refine ⟨h.j, h.H, h.lt, h.t1, h.lead, h.nxt, h.pf, h.pL, h.so, h.sL, h.ak0, h.P, h.I, h.C, fun p => ?_⟩
  show upd s.su i k p = 0 ∨ _
  by_cases e : p = i
  · subst e
    obtain ⟨hin, hLi, hha, haki⟩ := h.lead p hi
    unfold okL at ho
    rw [Bool.and_eq_true, decide_eq_true_eq, beq_iff_eq] at ho
    refine .inr ⟨s.e.T p, k, h.ledOf hi, Nat.le_refl _, by show upd s.su p k p ≤ k; rw [upd_same]; exact Nat.le_refl _, by rw [hLi]; exact hk, by rw [hLi]; exact ho.2, ?_, ?_⟩
    · obtain ⟨Q, q1, q2, q3⟩ := cnt_mask (fun j => decide (j ≠ p) && decide (k ≤ s.ha p j)) n
      have hb : Q.testBit p = false := by
        cases hx : Q.testBit p
        · rfl
        · have := (q2 p hx).2
          simp at this
      refine ⟨Q ||| 2 ^ p, or_lt q1 hin, ?_, fun q hq => ?_⟩
      · have e1 : pop Q + 1 ≤ pop (Q ||| 2 ^ p) := by
          have hor := popTo_or Q (2 ^ p) 32 (fun j _ hj => by
            rw [Nat.testBit_two_pow]; exact decide_eq_false (by rintro rfl; rw [hb] at hj; cases hj))
          have h2 : ∀ m, p < m → popTo Q m + 1 ≤ popTo (Q ||| 2 ^ p) m := by
            intro m hm
            induction m with
            | zero => omega
            | succ m ih =>
              rw [popTo, popTo, Nat.testBit_or, Nat.testBit_two_pow]
              by_cases e : p = m
              · subst e
                rw [hb]
                have : popTo Q p ≤ popTo (Q ||| 2 ^ p) p := popTo_sub fun j _ hj => by rw [Nat.testBit_or, hj]; rfl
                simp; omega
              · have := ih (by omega)
                simp only [e, decide_false, Bool.or_false]
                omega
          exact h2 32 (by omega)
        have e2 : pop Q = cntL (fun j => decide (j ≠ p) && decide (k ≤ s.ha p j)) n := q3 32 hn
        have := ho.1
        unfold manyL at this
        omega
      · rw [Nat.testBit_or, Bool.or_eq_true, Nat.testBit_two_pow, decide_eq_true_eq] at hq
        rcases hq with hq | rfl
        · have := q2 q hq
          rw [Bool.and_eq_true, decide_eq_true_eq, decide_eq_true_eq] at this
          rw [← hha q this.2.1 this.1]; exact this.2.2
        · rw [haki]; exact hk
    · show Cm (upd s.su p k p) _ (s.lg p)
      rw [upd_same, hLi]; exact Cm.refl hk
  · rw [upd_ne _ _ e]
    rcases h.S p with e | ⟨x, k', h1, h2, h3, h4⟩
    · exact .inl e
    · exact .inr ⟨x, k', h1, h2, by show upd s.su i k p ≤ k'; rw [upd_ne _ _ e]; exact h3, h4.1, h4.2.1, h4.2.2.1, by show Cm (upd s.su i k p) _ _; rw [upd_ne _ _ e]; exact h4.2.2.2⟩
end
end Go.Proofs.Ytfhmabpalimcnaa
