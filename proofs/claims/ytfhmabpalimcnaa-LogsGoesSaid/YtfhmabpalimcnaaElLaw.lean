/- What the laws of elections ask, in plain functions. -/
import Derived.Test.YtfhmabpalimcnaaElMath
set_option linter.unusedVariables false
set_option linter.unusedSimpArgs false
namespace Go.Proofs.Ytfhmabpalimcnaa
open Go.RowKit

/-- Who voted for whom, by terms (a ghost). -/
def gset (G : Nat → Nat → Int) (t p : Nat) (v : Int) : Nat → Nat → Int := fun t' p' => if t' = t ∧ p' = p then v else G t' p'
structure EJ (n : Nat) (G : Nat → Nat → Int) (s : ES) : Prop where
  now : ∀ p, G (s.T p) p = s.V p
  later : ∀ p t, s.T p < t → G t p = -1
  have_ : ∀ i p, (s.H i).testBit p = true → G (s.T i) p = i
  led : ∀ x ∈ s.led, ∃ Q, Q < 2 ^ n ∧ n < 2 * pop Q ∧ ∀ p, Q.testBit p = true → G x.1 p = (x.2 : Nat)
  lead : ∀ i, s.R i = 2 → (s.T i, i) ∈ s.led
  apart : s.led.Pairwise fun x y => x.1 ≠ y.1
  past : ∀ x ∈ s.led, x.1 < s.T x.2 ∨ (x.1 = s.T x.2 ∧ s.R x.2 ≠ 1)
section
variable {n : Nat} {G : Nat → Nat → Int} {s : ES}
theorem EJ.know (h : EJ n G s) {i t : Nat} (ht : s.T i < t) : EJ n G (setE i t 0 (-1) s) := by
  refine ⟨fun p => ?_, fun p t' hp => ?_, fun j p hp => ?_, h.led, fun j hj => ?_, h.apart, fun x hx => ?_⟩
  · show G (upd s.T i t p) p = upd s.V i (-1) p
    by_cases e : p = i
    · subst e; rw [upd_same, upd_same]; exact h.later p t ht
    · rw [upd_ne _ _ e, upd_ne _ _ e]; exact h.now p
  · have hp : upd s.T i t p < t' := hp
    by_cases e : p = i
    · subst e; rw [upd_same] at hp; exact h.later p t' (by omega)
    · rw [upd_ne _ _ e] at hp; exact h.later p t' hp
  · have hp : (upd s.H i 0 j).testBit p = true := hp
    show G (upd s.T i t j) p = j
    by_cases e : j = i
    · subst e; rw [upd_same] at hp; simp at hp
    · rw [upd_ne _ _ e] at hp ⊢; exact h.have_ j p hp
  · have hj : upd s.R i 0 j = 2 := hj
    show (upd s.T i t j, j) ∈ s.led
    by_cases e : j = i
    · subst e; rw [upd_same] at hj; cases hj
    · rw [upd_ne _ _ e] at hj ⊢; exact h.lead j hj
  · show x.1 < upd s.T i t x.2 ∨ (x.1 = upd s.T i t x.2 ∧ upd s.R i 0 x.2 ≠ 1)
    have := h.past x hx
    by_cases e : x.2 = i
    · rw [e, upd_same]
      rw [e] at this
      exact .inl (by omega)
    · rw [upd_ne _ _ e, upd_ne _ _ e]; exact this
theorem gset_led (h : EJ n G s) {t p : Nat} {v : Int} (hv : G t p = -1 ∨ G t p = v) : ∀ x ∈ s.led, ∃ Q, Q < 2 ^ n ∧ n < 2 * pop Q ∧ ∀ p', Q.testBit p' = true → gset G t p v x.1 p' = (x.2 : Nat) := by
  intro x hx
  obtain ⟨Q, h1, h2, h3⟩ := h.led x hx
  refine ⟨Q, h1, h2, fun p' hp => ?_⟩
  have := h3 p' hp
  unfold gset
  split
  · rename_i e
    rw [e.1, e.2] at this
    omega
  · exact this
theorem EJ.stand (h : EJ n G s) (i : Nat) : EJ n (gset G (s.T i + 1) i i) (setE i (s.T i + 1) 1 i s) := by
  have hG : G (s.T i + 1) i = -1 := h.later i _ (by omega)
  refine ⟨fun p => ?_, fun p t' hp => ?_, fun j p hp => ?_, gset_led h (.inl hG), fun j hj => ?_, h.apart, fun x hx => ?_⟩
  · show gset G _ i i (upd s.T i (s.T i + 1) p) p = upd s.V i i p
    by_cases e : p = i
    · subst e; rw [upd_same, upd_same, gset, if_pos ⟨rfl, rfl⟩]
    · rw [upd_ne _ _ e, upd_ne _ _ e, gset, if_neg (fun h => e h.2)]; exact h.now p
  · have hp : upd s.T i (s.T i + 1) p < t' := hp
    unfold gset
    by_cases e : p = i
    · subst e
      rw [upd_same] at hp
      rw [if_neg (by omega)]
      exact h.later p t' (by omega)
    · rw [upd_ne _ _ e] at hp
      rw [if_neg (fun h => e h.2)]; exact h.later p t' hp
  · have hp : (upd s.H i 0 j).testBit p = true := hp
    show gset G _ i i (upd s.T i (s.T i + 1) j) p = j
    by_cases e : j = i
    · subst e; rw [upd_same] at hp; simp at hp
    · rw [upd_ne _ _ e] at hp ⊢
      have := h.have_ j p hp
      unfold gset
      split
      · rename_i e2
        rw [e2.1, e2.2, hG] at this
        omega
      · exact this
  · have hj : upd s.R i 1 j = 2 := hj
    show (upd s.T i _ j, j) ∈ s.led
    by_cases e : j = i
    · subst e; rw [upd_same] at hj; cases hj
    · rw [upd_ne _ _ e] at hj ⊢; exact h.lead j hj
  · show x.1 < upd s.T i _ x.2 ∨ (x.1 = upd s.T i _ x.2 ∧ upd s.R i 1 x.2 ≠ 1)
    have := h.past x hx
    by_cases e : x.2 = i
    · rw [e, upd_same]
      rw [e] at this
      exact .inl (by omega)
    · rw [upd_ne _ _ e, upd_ne _ _ e]; exact this
theorem EJ.vote (h : EJ n G s) (i t : Nat) (hV : s.V i = -1 ∨ s.V i = t) : EJ n (gset G (s.T i) i t) { s with V := upd s.V i t } := by
  have hG : G (s.T i) i = -1 ∨ G (s.T i) i = t := by rw [h.now]; exact hV
  refine ⟨fun p => ?_, fun p t' hp => ?_, fun j p hp => ?_, gset_led h hG, h.lead, h.apart, h.past⟩
  · show gset G _ i t (s.T p) p = upd s.V i t p
    by_cases e : p = i
    · subst e; rw [upd_same, gset, if_pos ⟨rfl, rfl⟩]
    · rw [upd_ne _ _ e, gset, if_neg (fun h => e h.2)]; exact h.now p
  · have hp : s.T p < t' := hp
    unfold gset
    rw [if_neg]
    · exact h.later p t' hp
    · rintro ⟨e1, e2⟩
      rw [e2] at hp; omega
  · have hp : (s.H j).testBit p = true := hp
    show gset G _ i t (s.T j) p = j
    have := h.have_ j p hp
    unfold gset
    split
    · rename_i e2
      rw [e2.1, e2.2] at this
      omega
    · exact this
theorem EJ.count (h : EJ n G s) (hn : n ≤ 32) (i b : Nat) (hb : b < n) (hH : ∀ i, s.H i < 2 ^ n) (hG : G (s.T i) b = i) : EJ n G (countS n i b s) := by
  have h1 : EJ n G (haveS i b s) := by
    refine ⟨h.now, h.later, fun j p hp => ?_, h.led, h.lead, h.apart, h.past⟩
    have hp : (upd s.H i (s.H i ||| 2 ^ b) j).testBit p = true := hp
    show G (s.T j) p = j
    by_cases e : j = i
    · subst e
      rw [upd_same, Nat.testBit_or, Bool.or_eq_true] at hp
      rcases hp with hp | hp
      · exact h.have_ j p hp
      · rw [Nat.testBit_two_pow] at hp
        have : b = p := by simpa using hp
        rw [← this]; exact hG
    · rw [upd_ne _ _ e] at hp; exact h.have_ j p hp
  unfold countS
  split
  · rename_i hc
    obtain ⟨hR, hm⟩ := hc
    have hQ : s.H i ||| 2 ^ b < 2 ^ n := or_lt (hH i) hb
    have hQv : ∀ p, (s.H i ||| 2 ^ b).testBit p = true → G (s.T i) p = i := fun p hp => h1.have_ i p (by show (upd s.H i _ i).testBit p = true; rw [upd_same]; exact hp)
    have hnew : ∀ x ∈ s.led, x.1 ≠ s.T i := by
      intro x hx e
      obtain ⟨Q, q1, q2, q3⟩ := h.led x hx
      obtain ⟨p, _, hp1, hp2⟩ := pop_meet hn q1 hQ q2 hm
      have a := q3 p hp1
      rw [e, hQv p hp2] at a
      have e2 : x.2 = i := by omega
      have := h.past x hx
      rw [e2] at this
      rcases this with h3 | ⟨_, h3⟩
      · omega
      · exact h3 hR
    refine ⟨h1.now, h1.later, h1.have_, fun x hx => ?_, fun j hj => ?_, ?_, fun x hx => ?_⟩
    · rcases List.mem_append.1 hx with hx | hx
      · exact h.led x hx
      · obtain rfl : x = (s.T i, i) := by simpa using hx
        exact ⟨_, hQ, hm, hQv⟩
    · have hj : upd s.R i 2 j = 2 := hj
      show (s.T j, j) ∈ s.led ++ [(s.T i, i)]
      by_cases e : j = i
      · subst e; simp
      · rw [upd_ne _ _ e] at hj
        exact List.mem_append.2 (.inl (h.lead j hj))
    · show (s.led ++ [(s.T i, i)]).Pairwise _
      rw [List.pairwise_append]
      refine ⟨h.apart, by simp, fun x hx y hy => ?_⟩
      obtain rfl : y = (s.T i, i) := by simpa using hy
      exact hnew x hx
    · show x.1 < s.T x.2 ∨ (x.1 = s.T x.2 ∧ upd s.R i 2 x.2 ≠ 1)
      rcases List.mem_append.1 hx with hx | hx
      · rcases h.past x hx with h3 | ⟨h3, h4⟩
        · exact .inl h3
        · refine .inr ⟨h3, ?_⟩
          rw [upd_apply]; split
          · decide
          · exact h4
      · obtain rfl : x = (s.T i, i) := by simpa using hx
        exact .inr ⟨rfl, by show upd s.R i 2 i ≠ 1; rw [upd_same]; decide⟩
  · exact h1
theorem EJ.follow (h : EJ n G s) (i : Nat) : EJ n G { s with R := upd s.R i 0 } := by
  refine ⟨h.now, h.later, h.have_, h.led, fun j hj => ?_, h.apart, fun x hx => ?_⟩
  · have hj : upd s.R i 0 j = 2 := hj
    by_cases e : j = i
    · subst e; rw [upd_same] at hj; cases hj
    · rw [upd_ne _ _ e] at hj; exact h.lead j hj
  · rcases h.past x hx with h3 | ⟨h3, h4⟩
    · exact .inl h3
    · refine .inr ⟨h3, ?_⟩
      show upd s.R i 0 x.2 ≠ 1
      rw [upd_apply]; split
      · decide
      · exact h4
theorem EJ.crash (h : EJ n G s) (i : Nat) : EJ n G (crashS i s) := by
  have h1 := h.follow i
  refine ⟨h1.now, h1.later, fun j p hp => ?_, h1.led, h1.lead, h1.apart, h1.past⟩
  have hp : (upd s.H i 0 j).testBit p = true := hp
  by_cases e : j = i
  · subst e; rw [upd_same] at hp; simp at hp
  · rw [upd_ne _ _ e] at hp; exact h.have_ j p hp
theorem EJ.knowS_ (h : EJ n G s) (i t : Nat) : EJ n G (knowS i t s) := by
  unfold knowS
  split
  · exact h.know (by assumption)
  · exact h
end
theorem know_T (i t j : Nat) (s : ES) : (knowS i t s).T j = if j = i ∧ s.T i < t then t else s.T j := by
  unfold knowS
  by_cases h : s.T i < t
  · rw [if_pos h]
    show upd s.T i t j = _
    rw [upd_apply]
    by_cases e : j = i <;> simp [e, h]
  · rw [if_neg h]; simp [h]
theorem EJ.step {n : Nat} {G : Nat → Nat → Int} {s : ES} {k f t : Int} (hn : n ≤ 32) (h : EJ n G s) {B : Nat} (hI : EI n B s) : ∃ G', EJ n G' (elStep n k f t s).2 := by
  unfold elStep
  split
  · exact ⟨G, h⟩
  split
  · exact ⟨G, h⟩
  rename_i hb
  have hf : 0 ≤ f ∧ f < n := by
    cases hh : (decide (0 ≤ f) && decide (f < (n : Int)))
    · simp [elBad, hh] at hb
    · simpa using hh
  split
  · unfold standS
    split
    · exact ⟨G, h⟩
    · refine ⟨_, (h.stand f.toNat).count hn _ _ (by omega) (fun j => ?_) ?_⟩
      · show upd s.H _ 0 j < _
        rw [upd_apply]; split
        · exact Nat.two_pow_pos n
        · exact hI.H j
      · show gset G _ _ _ (upd s.T _ _ _) _ = _
        rw [upd_same, gset, if_pos ⟨rfl, rfl⟩]
  split
  · unfold voteS
    have hk := h.knowS_ f.toNat (s.T t.toNat)
    split
    · exact ⟨G, h⟩
    split
    · exact ⟨G, hk.knowS_ _ _⟩
    split
    · exact ⟨G, hk⟩
    · rename_i h1 h2 h3
      have hkI := hI.know f.toNat (hI.T t.toNat)
      have hV : (knowS f.toNat (s.T t.toNat) s).V f.toNat = -1 ∨ (knowS f.toNat (s.T t.toNat) s).V f.toNat = t.toNat := by
        have := (hkI.V f.toNat).1
        by_cases e : (knowS f.toNat (s.T t.toNat) s).V f.toNat = t.toNat
        · exact .inr e
        · by_cases e2 : 0 ≤ (knowS f.toNat (s.T t.toNat) s).V f.toNat
          · exact absurd (.inl ⟨e2, e⟩) h3
          · exact .inl (by omega)
      have hT : (knowS f.toNat (s.T t.toNat) s).T t.toNat = (knowS f.toNat (s.T t.toNat) s).T f.toNat := by
        have a := know_T f.toNat (s.T t.toNat) t.toNat s
        have b := know_T f.toNat (s.T t.toNat) f.toNat s
        split at a <;> split at b <;> omega
      refine ⟨_, (hk.vote f.toNat t.toNat hV).count hn _ _ (by omega) hkI.H ?_⟩
      show gset G _ _ _ ((knowS f.toNat (s.T t.toNat) s).T t.toNat) _ = _
      rw [hT, gset, if_pos ⟨rfl, rfl⟩]
  split
  · unfold beatS
    split
    · exact ⟨G, h⟩
    split
    · exact ⟨G, h.knowS_ _ _⟩
    · exact ⟨G, (h.knowS_ _ _).follow _⟩
  · exact ⟨G, h.crash _⟩
theorem EJ.all_ (n : Nat) (hn : n ≤ 32) (M : Mv) : ∀ q, ∃ G, EJ n G (elE n M q)
  | 0 => ⟨fun _ _ => -1, fun _ => rfl, fun _ _ _ => rfl, fun i p h => (by simp [elE, ES0] at h), fun x hx => (by cases hx), fun i h => (by cases h), List.Pairwise.nil, fun x hx => (by cases hx)⟩
  | q + 1 => by
    obtain ⟨G, h⟩ := EJ.all_ n hn M q
    exact h.step hn (EI.all n M q)
/-- The law ElectOne. -/
theorem el_one_ {n : Nat} (hn : n ≤ 32) (M : Mv) (q : Nat) : ((elE n M q).led.Pairwise fun x y => x.1 ≠ y.1) ∧ ∀ i, (elE n M q).R i = 2 → ((elE n M q).T i, i) ∈ (elE n M q).led := by
  obtain ⟨G, h⟩ := EJ.all_ n hn M q
  exact ⟨h.apart, h.lead⟩
/-- No term falls; a vote stays in its term; who has led stays. -/
def Rise (s s' : ES) : Prop := (∀ p, s.T p ≤ s'.T p ∧ (s.T p = s'.T p → 0 ≤ s.V p → s'.V p = s.V p)) ∧ ∃ l, s'.led = s.led ++ l
theorem Rise.refl (s : ES) : Rise s s := ⟨fun p => ⟨Nat.le_refl _, fun _ _ => rfl⟩, [], by simp⟩
theorem Rise.trans {a b c : ES} (h : Rise a b) (h' : Rise b c) : Rise a c := by
  refine ⟨fun p => ?_, ?_⟩
  · have h1 := h.1 p
    have h2 := h'.1 p
    refine ⟨by omega, fun e hv => ?_⟩
    have e1 := h1.2 (by omega) hv
    have e2 := h2.2 (by omega) (by omega)
    rw [e2, e1]
  · obtain ⟨l, hl⟩ := h.2
    obtain ⟨l', hl'⟩ := h'.2
    exact ⟨l ++ l', by rw [hl', hl, List.append_assoc]⟩
theorem rise_set {s : ES} {i t : Nat} {r v : Int} (ht : s.T i < t) : Rise s (setE i t r v s) := by
  refine ⟨fun p => ?_, [], by simp [setE]⟩
  show s.T p ≤ upd s.T i t p ∧ (s.T p = upd s.T i t p → _ → upd s.V i v p = s.V p)
  by_cases e : p = i
  · subst e; rw [upd_same]; exact ⟨by omega, fun h => by omega⟩
  · rw [upd_ne _ _ e, upd_ne _ _ e]; exact ⟨Nat.le_refl _, fun _ _ => rfl⟩
theorem rise_know (i t : Nat) (s : ES) : Rise s (knowS i t s) := by
  unfold knowS
  split
  · exact rise_set (by assumption)
  · exact Rise.refl _
theorem rise_same {s s' : ES} (hT : s'.T = s.T) (hV : s'.V = s.V) (hl : ∃ l, s'.led = s.led ++ l) : Rise s s' := ⟨fun p => by rw [hT, hV]; exact ⟨Nat.le_refl _, fun _ _ => rfl⟩, hl⟩
theorem rise_count (n i b : Nat) (s : ES) : Rise s (countS n i b s) := by
  unfold countS
  split
  · exact rise_same rfl rfl ⟨_, rfl⟩
  · exact rise_same rfl rfl ⟨[], by simp [haveS]⟩
theorem Rise.step {n : Nat} {k f t : Int} (s : ES) : Rise s (elStep n k f t s).2 := by
  unfold elStep
  split
  · exact Rise.refl _
  split
  · exact Rise.refl _
  split
  · unfold standS
    split
    · exact Rise.refl _
    · exact (rise_set (by omega)).trans (rise_count ..)
  split
  · unfold voteS
    split
    · exact Rise.refl _
    split
    · exact (rise_know ..).trans (rise_know ..)
    split
    · exact rise_know ..
    · rename_i h1 h2 h3
      refine (rise_know f.toNat (s.T t.toNat) s).trans (Rise.trans ?_ (rise_count ..))
      refine ⟨fun p => ⟨Nat.le_refl _, fun _ hv => ?_⟩, [], by simp⟩
      show upd _ f.toNat _ p = _
      by_cases e : p = f.toNat
      · subst e
        rw [upd_same]
        by_cases e2 : (knowS f.toNat (s.T t.toNat) s).V f.toNat = t.toNat
        · exact e2.symm
        · exact absurd (.inl ⟨hv, e2⟩) h3
      · rw [upd_ne _ _ e]
  split
  · unfold beatS
    split
    · exact Rise.refl _
    split
    · exact rise_know ..
    · exact (rise_know ..).trans (rise_same rfl rfl ⟨[], by simp⟩)
  · exact rise_same rfl rfl ⟨[], by simp [crashS]⟩
theorem Rise.all {n : Nat} {M : Mv} {q : Nat} : ∀ d, Rise (elE n M q) (elE n M (q + d))
  | 0 => Rise.refl _
  | d + 1 => (Rise.all d).trans (Rise.step _)
theorem elE_congr {n : Nat} {M M' : Mv} {q : Nat} (h : ∀ j, j < q → M.k j = M'.k j ∧ M.f j = M'.f j ∧ M.t j = M'.t j) : ∀ j, j ≤ q → elE n M j = elE n M' j := by
  intro j
  induction j with
  | zero => intro _; rfl
  | succ j ih =>
    intro hj
    obtain ⟨h1, h2, h3⟩ := h j (by omega)
    rw [elE, elE, ih (by omega), h1, h2, h3]
end Go.Proofs.Ytfhmabpalimcnaa
