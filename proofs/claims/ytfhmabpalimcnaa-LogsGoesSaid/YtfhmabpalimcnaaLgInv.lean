/- What holds of logs all the time: matching, and what is chosen stays (plain). -/
import Derived.Test.YtfhmabpalimcnaaLgMath
import Derived.Test.YtfhmabpalimcnaaElLaw
set_option linter.unusedVariables false
set_option linter.unusedSimpArgs false
namespace Go.Proofs.Ytfhmabpalimcnaa
open Go.RowKit

/-- Two lists are one up to k. -/
def Cm {α : Type} (k : Nat) (l m : List α) : Prop := k ≤ l.length ∧ k ≤ m.length ∧ l.take k = m.take k
section
variable {α : Type} {k j : Nat} {l m p : List α}
theorem Cm.refl (h : k ≤ l.length) : Cm k l l := ⟨h, h, rfl⟩
theorem Cm.symm (h : Cm k l m) : Cm k m l := ⟨h.2.1, h.1, h.2.2.symm⟩
theorem Cm.trans (h : Cm k l m) (h' : Cm k m p) : Cm k l p := ⟨h.1, h'.2.1, h.2.2.trans h'.2.2⟩
theorem Cm.le (h : Cm k l m) (hj : j ≤ k) : Cm j l m := by
  refine ⟨Nat.le_trans hj h.1, Nat.le_trans hj h.2.1, ?_⟩
  have := congrArg (List.take j) h.2.2
  rw [List.take_take, List.take_take, Nat.min_eq_left hj] at this
  exact this
theorem Cm.app (h : Cm k l m) (x : List α) : Cm k l (m ++ x) := ⟨h.1, by rw [List.length_append]; have := h.2.1; omega, by rw [List.take_append_of_le_length h.2.1]; exact h.2.2⟩
theorem Cm.get (h : Cm k l m) (hj : j < k) : l[j]? = m[j]? := by
  have := congrArg (fun x => x[j]?) h.2.2
  simp only [List.getElem?_take, if_pos hj] at this
  exact this
theorem Cm.zero : Cm 0 l m := ⟨Nat.zero_le _, Nat.zero_le _, by simp⟩
end
theorem Cm.trm {k j : Nat} {l m : List Ent} (h : Cm k l m) (hj : j < k) : trm l j = trm m j := by unfold Go.Proofs.Ytfhmabpalimcnaa.trm; rw [h.get hj]

def Led (s : LS) (t : Nat) : Prop := ∃ x ∈ s.e.led, x.1 = t
/-- Most may have it yet; most have it. -/
def May (n : Nat) (s : LS) (ak : Nat → Nat → Nat) (t k : Nat) : Prop := ∃ Q, Q < 2 ^ n ∧ n < 2 * pop Q ∧ ∀ p, Q.testBit p = true → k ≤ ak t p ∨ s.e.T p ≤ t
def Cho (n : Nat) (ak : Nat → Nat → Nat) (t k : Nat) : Prop := ∃ Q, Q < 2 ^ n ∧ n < 2 * pop Q ∧ ∀ p, Q.testBit p = true → k ≤ ak t p
theorem Cho.may {n : Nat} {s : LS} {ak : Nat → Nat → Nat} {t k : Nat} (h : Cho n ak t k) : May n s ak t k := by
  obtain ⟨Q, h1, h2, h3⟩ := h
  exact ⟨Q, h1, h2, fun p hp => .inl (h3 p hp)⟩
/-- Terms don't fall, from 1 on, up to b. -/
structure Srt (b : Nat) (l : List Ent) : Prop where
  up : ∀ j k, j ≤ k → k < l.length → trm l j ≤ trm l k
  one : ∀ k, k < l.length → 1 ≤ trm l k
  top : ∀ k, k < l.length → trm l k ≤ b
theorem Srt.mono {b b' : Nat} {l : List Ent} (h : Srt b l) (hb : b ≤ b') : Srt b' l := ⟨h.up, h.one, fun k hk => Nat.le_trans (h.top k hk) hb⟩
theorem trm_old {l : List Ent} {x : Ent} {k : Nat} (h : k < l.length) : trm (l ++ [x]) k = trm l k := by unfold trm; rw [List.getElem?_append_left h]
theorem trm_new {l : List Ent} {x : Ent} : trm (l ++ [x]) l.length = x.1 := by unfold trm; simp
theorem Srt.push {b : Nat} {l : List Ent} (h : Srt b l) (hb : 1 ≤ b) (v : Int) : Srt b (l ++ [(b, v)]) := by
  have key : ∀ k, k < (l ++ [(b, v)]).length → (k < l.length ∧ trm (l ++ [(b, v)]) k = trm l k) ∨ (k = l.length ∧ trm (l ++ [(b, v)]) k = b) := by
    intro k hk
    rw [List.length_append, List.length_singleton] at hk
    rcases Nat.lt_or_ge k l.length with h1 | h1
    · exact .inl ⟨h1, trm_old h1⟩
    · obtain rfl : k = l.length := by omega
      exact .inr ⟨rfl, trm_new⟩
  refine ⟨fun j k hjk hk => ?_, fun k hk => ?_, fun k hk => ?_⟩
  · rcases key k hk with ⟨h1, h2⟩ | ⟨h1, h2⟩
    · rcases key j (by omega) with ⟨h3, h4⟩ | ⟨h3, h4⟩
      · rw [h2, h4]; exact h.up j k hjk h1
      · omega
    · rcases key j (by omega) with ⟨h3, h4⟩ | ⟨h3, h4⟩
      · rw [h2, h4]; exact h.top j h3
      · omega
  · rcases key k hk with ⟨h1, h2⟩ | ⟨h1, h2⟩ <;> rw [h2]
    · exact h.one k h1
    · exact hb
  · rcases key k hk with ⟨h1, h2⟩ | ⟨h1, h2⟩ <;> rw [h2]
    · exact h.top k h1
    · exact Nat.le_refl _
/-- Each entry is of who led in its term. -/
def Pf (s : LS) (L : Nat → List Ent) (l : List Ent) : Prop := ∀ k, k < l.length → Led s (trm l k) ∧ Cm (k + 1) l (L (trm l k))

structure GI (n : Nat) (G : Nat → Nat → Int) (s : LS) (L : Nat → List Ent) (ak : Nat → Nat → Nat) : Prop where
  j : EJ n G s.e
  H : ∀ i, s.e.H i < 2 ^ n
  lt : ∀ x ∈ s.e.led, x.2 < n ∧ 1 ≤ x.1
  t1 : ∀ i, s.e.R i ≠ 0 → 1 ≤ s.e.T i
  lead : ∀ i, s.e.R i = 2 → i < n ∧ L (s.e.T i) = s.lg i ∧ (∀ p, p ≠ i → p < n → s.ha i p = ak (s.e.T i) p) ∧ ak (s.e.T i) i = (s.lg i).length
  nxt : ∀ i, s.e.R i = 2 → ∀ p, s.nx i p ≤ (s.lg i).length
  pf : ∀ i, Pf s L (s.lg i)
  pL : ∀ t, Led s t → Pf s L (L t)
  so : ∀ i, Srt (s.e.T i) (s.lg i)
  sL : ∀ t, Led s t → Srt t (L t)
  ak0 : ∀ t p, 0 < ak t p → Led s t ∧ t ≤ s.e.T p ∧ ak t p ≤ (L t).length
  P : ∀ p t k, 0 < k → k ≤ ak t p → trm (L t) (k - 1) = t → May n s ak t k → Cm k (L t) (s.lg p)
  I : ∀ t u k, Led s t → Led s u → t < u → 0 < k → k ≤ (L t).length → trm (L t) (k - 1) = t → May n s ak t k → Cm k (L t) (L u)
  C : ∀ c, s.e.R c = 1 → ∀ p, (s.e.H c).testBit p = true → ∀ t k, t < s.e.T c → 0 < k → k ≤ ak t p → trm (L t) (k - 1) = t → May n s ak t k → Cm k (L t) (s.lg c)
  S : ∀ i, s.su i = 0 ∨ ∃ t k, Led s t ∧ t ≤ s.e.T i ∧ s.su i ≤ k ∧ k ≤ (L t).length ∧ trm (L t) (k - 1) = t ∧ Cho n ak t k ∧ Cm (s.su i) (L t) (s.lg i)
/-- What was goes on. -/
structure Ext (s s' : LS) (L L' : Nat → List Ent) (ak ak' : Nat → Nat → Nat) : Prop where
  T : ∀ p, s.e.T p ≤ s'.e.T p
  led : ∀ t, Led s t → Led s' t
  L : ∀ t, Led s t → Cm (L t).length (L t) (L' t)
  ak : ∀ t p, ak t p ≤ ak' t p
theorem Ext.refl (s : LS) (L : Nat → List Ent) (ak : Nat → Nat → Nat) : Ext s s L L ak ak := ⟨fun _ => Nat.le_refl _, fun _ h => h, fun _ _ => Cm.refl (Nat.le_refl _), fun _ _ => Nat.le_refl _⟩
theorem Ext.trans {s s' s2 : LS} {L L' L2 : Nat → List Ent} {ak ak' ak2 : Nat → Nat → Nat} (h : Ext s s' L L' ak ak') (h' : Ext s' s2 L' L2 ak' ak2) : Ext s s2 L L2 ak ak2 :=
  ⟨fun p => Nat.le_trans (h.T p) (h'.T p), fun t ht => h'.led t (h.led t ht), fun t ht => (h.L t ht).trans ((h'.L t (h.led t ht)).le (h.L t ht).2.1), fun t p => Nat.le_trans (h.ak t p) (h'.ak t p)⟩
theorem Cho.mono {n : Nat} {ak ak' : Nat → Nat → Nat} {t k : Nat} (h : Cho n ak t k) (ha : ∀ t p, ak t p ≤ ak' t p) : Cho n ak' t k := by
  obtain ⟨Q, h1, h2, h3⟩ := h
  exact ⟨Q, h1, h2, fun p hp => Nat.le_trans (h3 p hp) (ha t p)⟩
theorem May.mono {n : Nat} {s s' : LS} {ak ak' : Nat → Nat → Nat} {t k : Nat} (h : May n s' ak' t k) (ha : ∀ p, k ≤ ak' t p ∨ s'.e.T p ≤ t → k ≤ ak t p ∨ s.e.T p ≤ t) : May n s ak t k := by
  obtain ⟨Q, h1, h2, h3⟩ := h
  exact ⟨Q, h1, h2, fun p hp => ha p (h3 p hp)⟩
section
variable {n : Nat} {G : Nat → Nat → Int} {s s' : LS} {L L' : Nat → List Ent} {ak ak' : Nat → Nat → Nat}
theorem led_same (h : s'.e.led = s.e.led) (t : Nat) : Led s' t ↔ Led s t := by unfold Led; rw [h]
/-- Who leads in term t has most at t or above. -/
theorem GI.most (h : GI n G s L ak) {t : Nat} (ht : Led s t) : ∃ Q, Q < 2 ^ n ∧ n < 2 * pop Q ∧ ∀ p, Q.testBit p = true → t ≤ s.e.T p := by
  obtain ⟨x, hx, rfl⟩ := ht
  obtain ⟨Q, h1, h2, h3⟩ := h.j.led x hx
  refine ⟨Q, h1, h2, fun p hp => ?_⟩
  have := h3 p hp
  rcases Nat.lt_or_ge (s.e.T p) x.1 with hl | hl
  · rw [h.j.later p x.1 hl] at this; omega
  · exact hl
theorem GI.voter (h : GI n G s L ak) {c p : Nat} (hp : (s.e.H c).testBit p = true) : s.e.T c ≤ s.e.T p := by
  have := h.j.have_ c p hp
  rcases Nat.lt_or_ge (s.e.T p) (s.e.T c) with hl | hl
  · rw [h.j.later p _ hl] at this; omega
  · exact hl
/-- Terms rise, nobody is new that leads; who stands has no new vote. -/
theorem GI.quiet (h : GI n G s L ak) {G' : Nat → Nat → Int} (hj : EJ n G' s'.e) (hH : ∀ i, s'.e.H i < 2 ^ n) (ht1 : ∀ i, s'.e.R i ≠ 0 → 1 ≤ s'.e.T i) (hT : ∀ p, s.e.T p ≤ s'.e.T p) (hl : s'.e.led = s.e.led) (hR : ∀ i, s'.e.R i = 2 → s.e.R i = 2 ∧ s'.e.T i = s.e.T i)
    (hC : ∀ c, s'.e.R c = 1 → ∀ p, (s'.e.H c).testBit p = true → s.e.R c = 1 ∧ s'.e.T c = s.e.T c ∧ (s.e.H c).testBit p = true) (hlg : s'.lg = s.lg) (hsu : ∀ i, s'.su i = s.su i ∨ s'.su i = 0) (hha : s'.ha = s.ha) (hnx : s'.nx = s.nx) : GI n G' s' L ak ∧ Ext s s' L L ak ak := by
  have hM : ∀ t k, May n s' ak t k → May n s ak t k := fun t k hm => hm.mono fun p hp => hp.imp id fun hh => Nat.le_trans (hT p) hh
  have hL : ∀ t, Led s' t ↔ Led s t := led_same hl
  have hP : ∀ l, Pf s L l → Pf s' L l := fun l hp k hk => ⟨(hL _).2 (hp k hk).1, (hp k hk).2⟩
  refine ⟨⟨hj, hH, by rw [hl]; exact h.lt, ht1, fun i hi => ?_, fun i hi p => ?_, fun i => ?_, fun t ht => hP _ (h.pL t ((hL t).1 ht)), fun i => ?_, fun t ht => h.sL t ((hL t).1 ht), fun t p hp => ?_, fun p t k h1 h2 h3 h4 => ?_, fun t u k h1 h2 h3 h4 h5 h6 h7 => h.I t u k ((hL t).1 h1) ((hL u).1 h2) h3 h4 h5 h6 (hM t k h7), fun c hc p hp t k h1 h2 h3 h4 h5 => ?_, fun i => ?_⟩,
    ⟨hT, fun t ht => (hL t).2 ht, fun _ _ => Cm.refl (Nat.le_refl _), fun _ _ => Nat.le_refl _⟩⟩
  · obtain ⟨h1, h2⟩ := hR i hi
    rw [h2, hlg, hha]; exact h.lead i h1
  · rw [hnx, hlg]; exact h.nxt i (hR i hi).1 p
  · rw [hlg]; exact hP _ (h.pf i)
  · rw [hlg]; exact (h.so i).mono (hT i)
  · obtain ⟨h1, h2, h3⟩ := h.ak0 t p hp
    exact ⟨(hL t).2 h1, Nat.le_trans h2 (hT p), h3⟩
  · rw [hlg]; exact h.P p t k h1 h2 h3 (hM t k h4)
  · obtain ⟨c1, c2, c3⟩ := hC c hc p hp
    rw [hlg]; exact h.C c c1 p c3 t k (by omega) h2 h3 h4 (hM t k h5)
  · rcases hsu i with e | e
    · rcases h.S i with e2 | ⟨t, k, h1, h2, h3⟩
      · exact .inl (e.trans e2)
      · rw [e, hlg]; exact .inr ⟨t, k, (hL t).2 h1, Nat.le_trans h2 (hT i), h3⟩
    · exact .inl e
/-- What is at least as good has what may be chosen. -/
theorem GI.good (h : GI n G s L ak) {b c : Nat} (hg : goodL (s.lg c) (s.lg b) = true) {t k : Nat} (hk : 0 < k) (ha : k ≤ ak t b) (ht : trm (L t) (k - 1) = t) (hm : May n s ak t k) : Cm k (L t) (s.lg c) := by
  have hb := h.P b t k hk ha ht hm
  have hled : Led s t := (h.ak0 t b (by omega)).1
  have hbl : k ≤ (s.lg b).length := hb.2.1
  have hbt : trm (s.lg b) (k - 1) = t := (hb.trm (by omega)).symm.trans ht
  have hlB : lastT (s.lg b) = trm (s.lg b) ((s.lg b).length - 1) := by unfold lastT; rw [if_neg (by omega)]
  have htB : t ≤ lastT (s.lg b) := by rw [hlB, ← hbt]; exact (h.so b).up _ _ (by omega) (by omega)
  have ht1 : 1 ≤ t := by rw [← hbt]; exact (h.so b).one _ (by omega)
  unfold goodL at hg
  rw [Bool.or_eq_true, Bool.and_eq_true, decide_eq_true_eq, decide_eq_true_eq, beq_iff_eq] at hg
  have hcl : 0 < (s.lg c).length := by
    rcases Nat.eq_zero_or_pos (s.lg c).length with e | e
    · have : lastT (s.lg c) = 0 := by unfold lastT; rw [if_pos e]
      omega
    · exact e
  have hlA : lastT (s.lg c) = trm (s.lg c) ((s.lg c).length - 1) := by unfold lastT; rw [if_neg (by omega)]
  obtain ⟨a1, a2⟩ := h.pf c ((s.lg c).length - 1) (by omega)
  rw [← hlA] at a1 a2
  rw [Nat.sub_add_cancel hcl] at a2
  obtain ⟨b1, b2⟩ := h.pf b ((s.lg b).length - 1) (by omega)
  rw [← hlB] at b1 b2
  rw [Nat.sub_add_cancel (by omega)] at b2
  rcases hg with hlt | ⟨heq, hle⟩
  · have hI := h.I t (lastT (s.lg c)) k hled a1 (by omega) hk hb.1 ht hm
    rcases Nat.lt_or_ge (s.lg c).length k with hx | hx
    · exfalso
      have e1 : trm (L (lastT (s.lg c))) ((s.lg c).length - 1) = lastT (s.lg c) := by rw [← a2.trm (by omega), ← hlA]
      have e2 : trm (L t) ((s.lg c).length - 1) = trm (L (lastT (s.lg c))) ((s.lg c).length - 1) := hI.trm (by omega)
      have e3 := (h.sL t hled).top ((s.lg c).length - 1) (by have := hI.1; omega)
      omega
    · exact hI.trans (a2.symm.le hx)
  · rw [heq] at a2
    exact hb.trans ((b2.trans (a2.symm.le hle)).le hbl)
/-- A vote is counted. -/
theorem GI.have_ (h : GI n G s L ak) {c b : Nat} {s1 : ES} (hs1 : s1 = haveS c b s.e) (hj : EJ n G s1) (hH : ∀ i, s1.H i < 2 ^ n)
    (hb : s.e.R c = 1 → ∀ t k, t < s.e.T c → 0 < k → k ≤ ak t b → trm (L t) (k - 1) = t → May n s ak t k → Cm k (L t) (s.lg c)) : GI n G (setEL s s1) L ak := by
  subst hs1
  refine ⟨hj, hH, h.lt, h.t1, h.lead, h.nxt, h.pf, h.pL, h.so, h.sL, h.ak0, h.P, h.I, fun c' hc p hp t k h1 h2 h3 h4 h5 => ?_, h.S⟩
  have hp : (upd s.e.H c (s.e.H c ||| 2 ^ b) c').testBit p = true := hp
  by_cases e : c' = c
  · subst e
    rw [upd_same, Nat.testBit_or, Bool.or_eq_true, Nat.testBit_two_pow, decide_eq_true_eq] at hp
    rcases hp with hp | rfl
    · exact h.C c' hc p hp t k h1 h2 h3 h4 h5
    · exact hb hc t k h1 h2 h3 h4 h5
  · rw [upd_ne _ _ e] at hp
    exact h.C c' hc p hp t k h1 h2 h3 h4 h5
/-- One comes to lead. -/
theorem GI.win (h : GI n G s L ak) (hn : n ≤ 32) {c : Nat} (hcn : c < n) {e' : ES} (he : e' = { s.e with R := upd s.e.R c 2, led := s.e.led ++ [(s.e.T c, c)] }) (hj : EJ n G e') (hR : s.e.R c = 1) (hmaj : n < 2 * pop (s.e.H c)) :
    ∃ L' ak', GI n G (leadL c (setEL s e')) L' ak' ∧ Ext s (leadL c (setEL s e')) L L' ak ak' := by
  subst he
  have hnew : ∀ t, Led s t → t ≠ s.e.T c := by
    rintro t ⟨x, hx, rfl⟩
    have hap := hj.apart
    have hap : (s.e.led ++ [(s.e.T c, c)]).Pairwise fun x y => x.1 ≠ y.1 := hap
    rw [List.pairwise_append] at hap
    exact hap.2.2 x hx (s.e.T c, c) (by simp)
  generalize hu : s.e.T c = u at hnew
  obtain ⟨s', hs'⟩ : ∃ s', s' = leadL c (setEL s { s.e with R := upd s.e.R c 2, led := s.e.led ++ [(u, c)] }) := ⟨_, rfl⟩
  rw [← hs']
  have hL : ∀ t, Led s' t ↔ Led s t ∨ t = u := by
    intro t
    subst hs'
    constructor
    · rintro ⟨x, hx, rfl⟩
      rcases List.mem_append.1 hx with hx | hx
      · exact .inl ⟨x, hx, rfl⟩
      · obtain rfl : x = (u, c) := by simpa using hx
        exact .inr rfl
    · rintro (⟨x, hx, rfl⟩ | rfl)
      · exact ⟨x, List.mem_append.2 (.inl hx), rfl⟩
      · exact ⟨_, List.mem_append.2 (.inr (List.mem_singleton.2 rfl)), rfl⟩
  have hT : s'.e.T = s.e.T := by rw [hs']; rfl
  have hlg : s'.lg = s.lg := by rw [hs']; rfl
  have hH : s'.e.H = s.e.H := by rw [hs']; rfl
  have hR' : s'.e.R = upd s.e.R c 2 := by rw [hs']; rfl
  have hsu : s'.su = s.su := by rw [hs']; rfl
  have hha : s'.ha = upd s.ha c (fun _ => 0) := by rw [hs']; rfl
  have hnx : s'.nx = upd s.nx c (fun _ => (s.lg c).length) := by rw [hs']; rfl
  have hak : ∀ p, ak u p = 0 := fun p => by
    rcases Nat.eq_zero_or_pos (ak u p) with e | e
    · exact e
    · exact absurd rfl (hnew u (h.ak0 u p e).1)
  obtain ⟨ak', hak'⟩ : ∃ ak', ak' = upd ak u (fun p => if p = c then (s.lg c).length else 0) := ⟨_, rfl⟩
  obtain ⟨L', hL'⟩ : ∃ L', L' = upd L u (s.lg c) := ⟨_, rfl⟩
  have aks : ∀ t, t ≠ u → ak' t = ak t := fun t ht => by rw [hak', upd_ne _ _ ht]
  have aku : ∀ p, ak' u p = if p = c then (s.lg c).length else 0 := fun p => by rw [hak', upd_same]
  have Ls : ∀ t, t ≠ u → L' t = L t := fun t ht => by rw [hL', upd_ne _ _ ht]
  have Lu : L' u = s.lg c := by rw [hL', upd_same]
  have hM : ∀ t k, t ≠ u → May n s' ak' t k → May n s ak t k := fun t k ht hm => hm.mono fun p hp => by rw [aks t ht, hT] at hp; exact hp
  have hP : ∀ l, Pf s L l → Pf s' L' l := fun l hp k hk => ⟨(hL _).2 (.inl (hp k hk).1), by rw [Ls _ (hnew _ (hp k hk).1)]; exact (hp k hk).2⟩
  have hle : ∀ t, Led s' t → t ≠ u → Led s t := fun t ht he => ((hL t).1 ht).resolve_right he
  refine ⟨L', ak', ⟨?_, by rw [hH]; exact h.H, fun x hx => ?_, fun i hi => ?_, fun i hi => ?_, fun i hi p => ?_, fun i => ?_, fun t ht => ?_, fun i => ?_, fun t ht => ?_, fun t p hp => ?_, fun p t k h1 h2 h3 h4 => ?_, fun t v k h1 h2 h3 h4 h5 h6 h7 => ?_, fun c' hc p hp t k h1 h2 h3 h4 h5 => ?_, fun i => ?_⟩,
    ⟨fun p => by rw [hT]; exact Nat.le_refl _, fun t ht => (hL t).2 (.inl ht), fun t ht => by rw [Ls t (hnew t ht)]; exact Cm.refl (Nat.le_refl _), fun t p => ?_⟩⟩
  · rw [hs']; subst hu; exact hj
  · rw [hs'] at hx
    rcases List.mem_append.1 hx with hx | hx
    · exact h.lt x hx
    · obtain rfl : x = (u, c) := by simpa using hx
      exact ⟨hcn, by rw [← hu]; exact h.t1 c (by rw [hR]; decide)⟩
  · rw [hT]
    rw [hR'] at hi
    by_cases e : i = c
    · rw [e]; exact h.t1 c (by rw [hR]; decide)
    · rw [upd_ne _ _ e] at hi; exact h.t1 i hi
  · rw [hT, hlg, hha]
    rw [hR'] at hi
    by_cases e : i = c
    · subst e
      rw [hu, Lu, upd_same]
      refine ⟨hcn, rfl, fun p hp _ => ?_, ?_⟩
      · rw [aku, if_neg hp]
      · rw [aku, if_pos rfl]
    · rw [upd_ne _ _ e] at hi ⊢
      have h1 := h.lead i hi
      have : s.e.T i ≠ u := hnew _ ⟨_, h.j.lead i hi, rfl⟩
      rw [Ls _ this, aks _ this]; exact h1
  · rw [hnx, hlg]
    rw [hR'] at hi
    by_cases e : i = c
    · subst e; rw [upd_same]; exact Nat.le_refl _
    · rw [upd_ne _ _ e] at hi ⊢; exact h.nxt i hi p
  · rw [hlg]; exact hP _ (h.pf i)
  · by_cases e : t = u
    · subst e; rw [Lu]; exact hP _ (h.pf c)
    · rw [Ls t e]; exact hP _ (h.pL t (hle t ht e))
  · rw [hT, hlg]; exact h.so i
  · by_cases e : t = u
    · subst e; rw [Lu, ← hu]; exact h.so c
    · rw [Ls t e]; exact h.sL t (hle t ht e)
  · by_cases e : t = u
    · subst e
      rw [aku] at hp ⊢
      split at hp
      · rename_i e2
        rw [e2, hT, hu, if_pos rfl, Lu]; exact ⟨(hL t).2 (.inr rfl), Nat.le_refl _, Nat.le_refl _⟩
      · omega
    · rw [aks t e] at hp ⊢
      rw [Ls t e, hT]
      have := h.ak0 t p hp
      exact ⟨(hL t).2 (.inl this.1), this.2⟩
  · rw [hlg]
    by_cases e : t = u
    · subst e
      rw [aku] at h2
      split at h2
      · rename_i e2
        rw [Lu, e2]; exact Cm.refl h2
      · omega
    · rw [aks t e] at h2
      rw [Ls t e] at h3 ⊢
      exact h.P p t k h1 h2 h3 (hM t k e h4)
  · by_cases e : t = u
    · subst e
      rw [Lu] at h6 h5
      exact absurd h6 (hnew _ (h.pf c (k - 1) (by omega)).1)
    · rw [Ls t e] at h5 h6 ⊢
      have h7' := hM t k e h7
      by_cases e2 : v = u
      · subst e2
        rw [Lu]
        obtain ⟨Q, q1, q2, q3⟩ := h7'
        obtain ⟨p, _, p1, p2⟩ := pop_meet hn q1 (h.H c) q2 hmaj
        have hv := h.voter p2
        rw [hu] at hv
        refine h.C c hR p p2 t k (by omega) h4 ((q3 p p1).resolve_right (by omega)) h6 ⟨Q, q1, q2, q3⟩
      · rw [Ls v e2]
        exact h.I t v k (hle t h1 e) (hle v h2 e2) h3 h4 h5 h6 h7'
  · rw [hlg]
    rw [hT] at h1
    rw [hH] at hp
    rw [hR'] at hc
    by_cases ec : c' = c
    · rw [ec, upd_same] at hc; cases hc
    rw [upd_ne _ _ ec] at hc
    by_cases e : t = u
    · subst e
      rw [aku] at h3
      split at h3
      · rename_i e2
        rw [e2] at hp
        have := h.voter hp
        omega
      · omega
    · rw [aks t e] at h3
      rw [Ls t e] at h4 ⊢
      exact h.C c' hc p hp t k h1 h2 h3 h4 (hM t k e h5)
  · rw [hsu, hT, hlg]
    rcases h.S i with e | ⟨t, k, h1, h2, h3, h4, h5, ⟨Q, q1, q2, q3⟩, h7⟩
    · exact .inl e
    · have := hnew t h1
      refine .inr ⟨t, k, (hL t).2 (.inl h1), h2, h3, ?_, ?_, ⟨Q, q1, q2, fun p hp => ?_⟩, ?_⟩
      · rw [Ls t this]; exact h4
      · rw [Ls t this]; exact h5
      · rw [aks t this]; exact q3 p hp
      · rw [Ls t this]; exact h7
  · by_cases e : t = u
    · subst e; rw [hak]; exact Nat.zero_le _
    · rw [aks t e]; exact Nat.le_refl _
end
end Go.Proofs.Ytfhmabpalimcnaa
