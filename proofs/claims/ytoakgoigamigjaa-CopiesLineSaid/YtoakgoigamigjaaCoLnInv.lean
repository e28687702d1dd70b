/- Stamps of what was done: what holds all the time (plain). -/
import Derived.Test.YtoakgoigamigjaaCoMath
set_option linter.unusedVariables false
set_option linter.unusedSimpArgs false
namespace Go.Proofs.Ytoakgoigamigjaa
open Go.RowKit

/-- What was done, its stamp, and copies that have no less. -/
structure Dn where
  o : Opr
  x : Nat
  q : Nat
/-- Who gave a stamp its number. -/
def Src (s : CS) (G : List Dn) (x : Nat) (v : Int) : Prop := (x = 0 ∧ v = 0) ∨ (∃ g ∈ G, g.o.wr = true ∧ g.x = x ∧ g.o.vl = v) ∨ ∃ i, i < 6 ∧ (s.cl i).part = 2 ∧ (s.cl i).wr = true ∧ (s.cl i).bs = x ∧ (s.cl i).bv = v
structure LI (n j : Nat) (s : CS) (G : List Dn) : Prop where
  ops : s.ops = G.map (·.o)
  fin : ∀ g ∈ G, g.o.fr < 6 ∧ g.o.bg < g.o.en ∧ g.o.en < j ∧ Src s G g.x g.o.vl ∧ (g.o.wr = true → g.x % 6 = g.o.fr ∧ 0 < g.x)
  mq : ∀ g ∈ G, g.q < 2 ^ n ∧ n < 2 * pop g.q ∧ ∀ a, a < n → g.q.testBit a = true → g.x ≤ s.S a
  cop : ∀ a, a < n → Src s G (s.S a) (s.V a)
  cli : ∀ i, i < 6 → (s.cl i).part ≠ 0 → Src s G (s.cl i).bs (s.cl i).bv ∧ (s.cl i).beg < j ∧ ∀ g ∈ G, g.o.fr = i → g.o.en < (s.cl i).beg
  pr : ∀ i, i < 6 → (s.cl i).rch < 2 ^ n ∧ (s.cl i).many = pop (s.cl i).rch ∧ (s.cl i).part ≤ 2
  p1 : ∀ i, i < 6 → (s.cl i).part = 1 → ∀ g ∈ G, g.o.en < (s.cl i).beg → ∀ a, (s.cl i).rch.testBit a = true → g.q.testBit a = true → g.x ≤ (s.cl i).bs
  p2 : ∀ i, i < 6 → (s.cl i).part = 2 → (∀ g ∈ G, g.o.en < (s.cl i).beg → g.x ≤ (s.cl i).bs ∧ ((s.cl i).wr = true → g.x < (s.cl i).bs)) ∧ (∀ a, a < n → (s.cl i).rch.testBit a = true → (s.cl i).bs ≤ s.S a) ∧ ((s.cl i).wr = true → (s.cl i).bs % 6 = i ∧ 0 < (s.cl i).bs ∧ (s.cl i).bv = (s.cl i).val)
  real : ∀ g ∈ G, ∀ g' ∈ G, g.o.en < g'.o.bg → g.x ≤ g'.x ∧ (g'.o.wr = true → g.x < g'.x)
  seq : G.Pairwise fun g g' => g.o.fr = g'.o.fr → g.o.en < g'.o.bg
section
variable {n j : Nat} {s s' : CS} {G G' : List Dn} {f : Nat}
theorem Src.mono {x : Nat} {v : Int} (h : Src s G x v) (hG : ∀ g ∈ G, g ∈ G') (hc : ∀ i, i < 6 → (s.cl i).part = 2 → (s.cl i).wr = true → ((s'.cl i).part = 2 ∧ (s'.cl i).wr = true ∧ (s'.cl i).bs = (s.cl i).bs ∧ (s'.cl i).bv = (s.cl i).bv) ∨ ∃ g ∈ G', g.o.wr = true ∧ g.x = (s.cl i).bs ∧ g.o.vl = (s.cl i).bv) : Src s' G' x v := by
  rcases h with h | ⟨g, h1, h2⟩ | ⟨i, hi, h1, h2, h3, h4⟩
  · exact .inl h
  · exact .inr (.inl ⟨g, hG g h1, h2⟩)
  · rcases hc i hi h1 h2 with ⟨a, b, c, d⟩ | ⟨g, a, b, c, d⟩
    · exact .inr (.inr ⟨i, hi, a, b, c.trans h3, d.trans h4⟩)
    · exact .inr (.inl ⟨g, a, b, c.trans h3, d.trans h4⟩)
theorem LI.later (h : LI n j s G) : LI n (j + 1) s G :=
  ⟨h.ops, fun g hg => by obtain ⟨a, b, c, d⟩ := h.fin g hg; exact ⟨a, b, by omega, d⟩, h.mq, h.cop, fun i hi hp => by obtain ⟨a, b, c⟩ := h.cli i hi hp; exact ⟨a, by omega, c⟩, h.pr, h.p1, h.p2, h.real, h.seq⟩
/-- One client turns; nothing is done. -/
theorem LI.turnS (h : LI n j s G) (hf : f < 6) {c : Cl} {S' : Nat → Nat} {V' : Nat → Int} (hS : ∀ a, a < n → s.S a ≤ S' a) (hcop : ∀ a, a < n → Src s G (S' a) (V' a)) (hsrc : ∀ x v, Src s G x v → Src { setC s f c with S := S', V := V' } G x v)
    (hcli : c.part ≠ 0 → Src { setC s f c with S := S', V := V' } G c.bs c.bv ∧ c.beg < j ∧ ∀ g ∈ G, g.o.fr = f → g.o.en < c.beg) (hpr : c.rch < 2 ^ n ∧ c.many = pop c.rch ∧ c.part ≤ 2)
    (hp1 : c.part = 1 → ∀ g ∈ G, g.o.en < c.beg → ∀ a, c.rch.testBit a = true → g.q.testBit a = true → g.x ≤ c.bs)
    (hp2 : c.part = 2 → (∀ g ∈ G, g.o.en < c.beg → g.x ≤ c.bs ∧ (c.wr = true → g.x < c.bs)) ∧ (∀ a, a < n → c.rch.testBit a = true → c.bs ≤ S' a) ∧ (c.wr = true → c.bs % 6 = f ∧ 0 < c.bs ∧ c.bv = c.val)) : LI n j { setC s f c with S := S', V := V' } G := by
  refine ⟨h.ops, fun g hg => ?_, fun g hg => ⟨(h.mq g hg).1, (h.mq g hg).2.1, fun a ha hb => Nat.le_trans ((h.mq g hg).2.2 a ha hb) (hS a ha)⟩, fun a ha => hsrc _ _ (hcop a ha), fun i hi hp => ?_, fun i hi => ?_, fun i hi hp => ?_, fun i hi hp => ?_, h.real, h.seq⟩
  · obtain ⟨a, b, c, d, e⟩ := h.fin g hg
    exact ⟨a, b, c, hsrc _ _ d, e⟩
  · have hp : ((setC s f c).cl i).part ≠ 0 := hp
    show Src _ G ((setC s f c).cl i).bs ((setC s f c).cl i).bv ∧ ((setC s f c).cl i).beg < j ∧ ∀ g ∈ G, g.o.fr = i → g.o.en < ((setC s f c).cl i).beg
    rw [setC_cl] at hp ⊢
    by_cases e : i = f
    · subst e; rw [if_pos rfl] at hp ⊢; exact hcli hp
    · rw [if_neg e] at hp ⊢
      obtain ⟨a, b, c⟩ := h.cli i hi hp
      exact ⟨hsrc _ _ a, b, c⟩
  · show ((setC s f c).cl i).rch < 2 ^ n ∧ ((setC s f c).cl i).many = pop ((setC s f c).cl i).rch ∧ ((setC s f c).cl i).part ≤ 2
    rw [setC_cl]
    by_cases e : i = f
    · rw [if_pos e]; exact hpr
    · rw [if_neg e]; exact h.pr i hi
  · have hp : ((setC s f c).cl i).part = 1 := hp
    show ∀ g ∈ G, g.o.en < ((setC s f c).cl i).beg → ∀ a, ((setC s f c).cl i).rch.testBit a = true → g.q.testBit a = true → g.x ≤ ((setC s f c).cl i).bs
    rw [setC_cl] at hp ⊢
    by_cases e : i = f
    · rw [if_pos e] at hp ⊢; exact hp1 hp
    · rw [if_neg e] at hp ⊢; exact h.p1 i hi hp
  · have hp : ((setC s f c).cl i).part = 2 := hp
    show (∀ g ∈ G, g.o.en < ((setC s f c).cl i).beg → g.x ≤ ((setC s f c).cl i).bs ∧ (((setC s f c).cl i).wr = true → g.x < ((setC s f c).cl i).bs)) ∧ (∀ a, a < n → ((setC s f c).cl i).rch.testBit a = true → ((setC s f c).cl i).bs ≤ S' a) ∧ (((setC s f c).cl i).wr = true → ((setC s f c).cl i).bs % 6 = i ∧ 0 < ((setC s f c).cl i).bs ∧ ((setC s f c).cl i).bv = ((setC s f c).cl i).val)
    rw [setC_cl] at hp ⊢
    by_cases e : i = f
    · subst e; rw [if_pos rfl] at hp ⊢; exact hp2 hp
    · rw [if_neg e] at hp ⊢
      obtain ⟨a, b, c⟩ := h.p2 i hi hp
      exact ⟨a, fun x hx hb => Nat.le_trans (b x hx hb) (hS x hx), c⟩
theorem LI.turn (h : LI n j s G) (hf : f < 6) {c : Cl} (hsrc : ∀ x v, Src s G x v → Src (setC s f c) G x v)
    (hcli : c.part ≠ 0 → Src (setC s f c) G c.bs c.bv ∧ c.beg < j ∧ ∀ g ∈ G, g.o.fr = f → g.o.en < c.beg) (hpr : c.rch < 2 ^ n ∧ c.many = pop c.rch ∧ c.part ≤ 2)
    (hp1 : c.part = 1 → ∀ g ∈ G, g.o.en < c.beg → ∀ a, c.rch.testBit a = true → g.q.testBit a = true → g.x ≤ c.bs)
    (hp2 : c.part = 2 → (∀ g ∈ G, g.o.en < c.beg → g.x ≤ c.bs ∧ (c.wr = true → g.x < c.bs)) ∧ (∀ a, a < n → c.rch.testBit a = true → c.bs ≤ s.S a) ∧ (c.wr = true → c.bs % 6 = f ∧ 0 < c.bs ∧ c.bv = c.val)) : LI n j (setC s f c) G :=
  h.turnS hf (S' := s.S) (V' := s.V) (fun _ _ => Nat.le_refl _) h.cop hsrc hcli hpr hp1 hp2
theorem src_keep {c : Cl} (hf : (s.cl f).part ≠ 2) {x : Nat} {v : Int} (h : Src s G x v) : Src (setC s f c) G x v :=
  h.mono (fun _ h => h) fun i _ h1 h2 => .inl (by rw [setC_cl, if_neg (fun (e : i = f) => hf (by rw [← e]; exact h1))]; exact ⟨h1, h2, rfl, rfl⟩)
theorem LI.open_ (h : LI n j s G) (hf : f < 6) (v : Int) (h0 : (s.cl f).part = 0) : LI n (j + 1) (setC s f (openC j v)) G := by
  refine h.later.turn hf (fun x v' hs => src_keep (by omega) hs) (fun _ => ⟨.inl ⟨rfl, rfl⟩, by show j < j + 1; omega, fun g hg _ => (h.fin g hg).2.2.1⟩) ⟨Nat.two_pow_pos n, pop_zero.symm, by show 1 ≤ 2; omega⟩ (fun _ g _ _ a ha => ?_) (fun hh => ?_)
  · have ha : (0 : Nat).testBit a = true := ha
    simp at ha
  · have hh : (1 : Nat) = 2 := hh
    omega
theorem LI.ask (h : LI n j s G) (hn : n ≤ 32) {t : Nat} (hf : f < 6) (ht : t < n) (h1 : (s.cl f).part = 1) (hr : (s.cl f).rch.testBit t = false) : LI n (j + 1) (reachS n f t j s) G := by
  obtain ⟨c2, hc2, e1, e2, e3, e4, e5, e6, e7, e8, e9⟩ : ∃ c2, r2S f t (r1S f t s) = setC s f c2 ∧ c2.part = 1 ∧ c2.wr = (s.cl f).wr ∧ c2.rch = (s.cl f).rch ||| 2 ^ t ∧ c2.many = (s.cl f).many + 1 ∧ (s.cl f).bs ≤ c2.bs ∧ s.S t ≤ c2.bs ∧ Src s G c2.bs c2.bv ∧ c2.val = (s.cl f).val ∧ c2.beg = (s.cl f).beg := by
    unfold r2S
    rw [r1_cl]
    by_cases hx : (s.cl f).bs < s.S t
    · rw [if_pos ⟨h1, hx⟩]
      exact ⟨_, setC_setC .., h1, rfl, rfl, rfl, Nat.le_of_lt hx, Nat.le_refl _, h.cop t ht, rfl, rfl⟩
    · rw [if_neg (fun hh => hx hh.2), if_neg (fun hh => by have := hh.1; simp only [h1] at this; omega)]
      exact ⟨_, rfl, h1, rfl, rfl, rfl, Nat.le_refl _, by show s.S t ≤ (s.cl f).bs; omega, (h.cli f hf (by rw [h1]; decide)).1, rfl, rfl⟩
  obtain ⟨k1, k2, k3⟩ := h.pr f hf
  obtain ⟨l1, l2, l3⟩ := h.cli f hf (by rw [h1]; decide)
  have hrl : c2.rch < 2 ^ n := by rw [e3]; exact or_lt k1 ht
  have hm : c2.many = pop c2.rch := by rw [e4, e3, pop_or (by omega) hr, k2]
  have hnp : (s.cl f).part ≠ 2 := by rw [h1]; decide
  have hp : ∀ g ∈ G, g.o.en < c2.beg → ∀ a, c2.rch.testBit a = true → g.q.testBit a = true → g.x ≤ c2.bs := by
    intro g hg hen a ha hq
    rw [e3, or_bitC] at ha
    rw [e9] at hen
    rcases ha with ha | rfl
    · exact Nat.le_trans (h.p1 f hf h1 g hg hen a ha hq) e5
    · exact Nat.le_trans ((h.mq g hg).2.2 a ht hq) e6
  unfold reachS r3S
  rw [hc2, setC_self]
  by_cases hmaj : 2 * c2.many ≤ n
  · rw [if_pos hmaj]
    exact h.later.turn hf (fun x v hs => src_keep hnp hs) (fun _ => ⟨src_keep hnp e7, by omega, fun g hg hfr => by rw [e9]; exact l3 g hg hfr⟩) ⟨hrl, hm, by omega⟩ (fun _ => hp) (fun hh => by omega)
  rw [if_neg hmaj, if_pos e1]
  have hall : ∀ g ∈ G, g.o.en < c2.beg → g.x ≤ c2.bs := fun g hg hen => by
    obtain ⟨q1, q2, _⟩ := h.mq g hg
    obtain ⟨a, _, ha, hb⟩ := pop_meet hn hrl q1 (by rw [← hm]; omega) q2
    exact hp g hg hen a ha hb
  by_cases hw : c2.wr = true
  · rw [if_pos hw, setC_setC]
    obtain ⟨a1, a2, a3⟩ := abv_lt (s := c2.bs) hf
    refine h.later.turn hf (fun x v hs => src_keep hnp hs) (fun _ => ⟨.inr (.inr ⟨f, hf, by rw [setC_self], by rw [setC_self]; exact hw, by rw [setC_self], by rw [setC_self]⟩), by show c2.beg < _; omega, fun g hg hfr => by show g.o.en < c2.beg; rw [e9]; exact l3 g hg hfr⟩) ⟨Nat.two_pow_pos n, pop_zero.symm, by show 2 ≤ 2; omega⟩ (fun hh => ?_) (fun _ => ⟨fun g hg hen => ?_, fun a _ ha => ?_, fun _ => ⟨a3, by show 0 < abv c2.bs f; omega, rfl⟩⟩)
    · have hh : (2 : Nat) = 1 := hh
      omega
    · have := hall g hg hen
      show g.x ≤ abv c2.bs f ∧ (_ → g.x < abv c2.bs f)
      exact ⟨by omega, fun _ => by omega⟩
    · have ha : (0 : Nat).testBit a = true := ha
      simp at ha
  · rw [if_neg hw, setC_setC]
    refine h.later.turn hf (fun x v hs => src_keep hnp hs) (fun _ => ⟨src_keep hnp e7, by show c2.beg < _; omega, fun g hg hfr => by show g.o.en < c2.beg; rw [e9]; exact l3 g hg hfr⟩) ⟨Nat.two_pow_pos n, pop_zero.symm, by show 2 ≤ 2; omega⟩ (fun hh => ?_) (fun _ => ⟨fun g hg hen => ⟨hall g hg hen, fun hh => absurd hh hw⟩, fun a _ ha => ?_, fun hh => absurd hh hw⟩)
    · have hh : (2 : Nat) = 1 := hh
      omega
    · have ha : (0 : Nat).testBit a = true := ha
      simp at ha
/-- One client is through. -/
theorem LI.done (h : LI n j s G) (hf : f < 6) {S' : Nat → Nat} {V' : Nat → Int} (hS : ∀ a, a < n → s.S a ≤ S' a) (hcop : ∀ a, a < n → Src s G (S' a) (V' a)) (h2 : (s.cl f).part = 2) {c : Cl} (hc0 : c.part = 0) (hcr : c.rch = 0) (hcm : c.many = 0) {R : Nat} (hR : R < 2 ^ n) (hRm : n < 2 * pop R) (hRS : ∀ a, a < n → R.testBit a = true → (s.cl f).bs ≤ S' a) :
    LI n (j + 1) { setC s f c with S := S', V := V', ops := s.ops ++ [⟨f, (s.cl f).beg, j, (s.cl f).wr, (s.cl f).bv⟩] } (G ++ [⟨⟨f, (s.cl f).beg, j, (s.cl f).wr, (s.cl f).bv⟩, (s.cl f).bs, R⟩]) := by
  obtain ⟨c1, c2, c3⟩ := h.cli f hf (by rw [h2]; decide)
  obtain ⟨q1, q2, q3⟩ := h.p2 f hf h2
  obtain ⟨s', hs'⟩ : ∃ s' : CS, s' = { setC s f c with S := S', V := V', ops := s.ops ++ [⟨f, (s.cl f).beg, j, (s.cl f).wr, (s.cl f).bv⟩] } := ⟨_, rfl⟩
  obtain ⟨N, hN⟩ : ∃ N : Dn, N = ⟨⟨f, (s.cl f).beg, j, (s.cl f).wr, (s.cl f).bv⟩, (s.cl f).bs, R⟩ := ⟨_, rfl⟩
  rw [← hs', ← hN]
  have hcl : ∀ i, s'.cl i = if i = f then c else s.cl i := fun i => by rw [hs']; exact setC_cl s f c i
  have hS' : s'.S = S' := by rw [hs']
  have mem : ∀ g, g ∈ G ++ [N] ↔ g ∈ G ∨ g = N := fun g => by simp
  have src : ∀ x v, Src s G x v → Src s' (G ++ [N]) x v := fun x v hs => hs.mono (fun g hg => (mem g).2 (.inl hg)) fun i hi h1 hw => by
    by_cases e : i = f
    · subst e
      exact .inr ⟨N, (mem N).2 (.inr rfl), by rw [hN]; exact hw, by rw [hN], by rw [hN]⟩
    · left
      rw [hcl, if_neg e]
      exact ⟨h1, hw, rfl, rfl⟩
  refine ⟨?_, fun g hg => ?_, fun g hg => ?_, fun a ha => ?_, fun i hi hp => ?_, fun i hi => ?_, fun i hi hp g hg => ?_, fun i hi hp => ?_, fun g hg g' hg' hlt => ?_, ?_⟩
  · rw [hs', List.map_append, List.map_singleton, hN, ← h.ops]
  · rcases (mem g).1 hg with hg | rfl
    · obtain ⟨a, b, c, d, e⟩ := h.fin g hg
      exact ⟨a, b, by omega, src _ _ d, e⟩
    · rw [hN]
      refine ⟨hf, c2, by show j < j + 1; omega, ?_, fun hw => ?_⟩
      · have q := src _ _ c1
        rw [hN] at q
        exact q
      · exact ⟨(q3 hw).1, (q3 hw).2.1⟩
  · rcases (mem g).1 hg with hg | rfl
    · obtain ⟨a, b, c⟩ := h.mq g hg
      exact ⟨a, b, fun x hx hb => by rw [hS']; exact Nat.le_trans (c x hx hb) (hS x hx)⟩
    · rw [hN, hS']; exact ⟨hR, hRm, hRS⟩
  · rw [hS', show s'.V = V' by rw [hs']]; exact src _ _ (hcop a ha)
  · rw [hcl] at hp ⊢
    by_cases e : i = f
    · rw [if_pos e] at hp; exact absurd hc0 hp
    · rw [if_neg e] at hp ⊢
      obtain ⟨a, b, c⟩ := h.cli i hi hp
      refine ⟨src _ _ a, by omega, fun g hg hfr => ?_⟩
      rcases (mem g).1 hg with hg | rfl
      · exact c g hg hfr
      · rw [hN] at hfr; exact absurd hfr.symm e
  · rw [hcl]
    by_cases e : i = f
    · rw [if_pos e, hcr, hcm, hc0]; exact ⟨Nat.two_pow_pos n, pop_zero.symm, by omega⟩
    · rw [if_neg e]; exact h.pr i hi
  · rw [hcl] at hp ⊢
    by_cases e : i = f
    · rw [if_pos e, hc0] at hp; cases hp
    · rw [if_neg e] at hp ⊢
      intro hen
      rcases (mem g).1 hg with hg | rfl
      · exact h.p1 i hi hp g hg hen
      · have := (h.cli i hi (by rw [hp]; decide)).2.1
        rw [hN] at hen
        have hen : j < _ := hen
        omega
  · rw [hcl] at hp ⊢
    by_cases e : i = f
    · rw [if_pos e, hc0] at hp; cases hp
    · rw [if_neg e] at hp ⊢
      obtain ⟨a, b, c⟩ := h.p2 i hi hp
      refine ⟨fun g hg hen => ?_, fun x hx hb => by rw [hS']; exact Nat.le_trans (b x hx hb) (hS x hx), c⟩
      rcases (mem g).1 hg with hg | rfl
      · exact a g hg hen
      · have := (h.cli i hi (by rw [hp]; decide)).2.1
        rw [hN] at hen
        have hen : j < _ := hen
        omega
  · rcases (mem g).1 hg with hgG | rfl
    · rcases (mem g').1 hg' with hg' | rfl
      · exact h.real g hgG g' hg' hlt
      · rw [hN] at hlt ⊢; exact q1 g hgG hlt
    · exfalso
      rw [hN] at hlt
      have hlt : j < g'.o.bg := hlt
      rcases (mem g').1 hg' with hg' | rfl
      · have := h.fin g' hg'; omega
      · rw [hN] at hlt
        have hlt : j < (s.cl f).beg := hlt
        omega
  · rw [List.pairwise_append]
    refine ⟨h.seq, by simp, fun g hg g' hg' hfr => ?_⟩
    obtain rfl : g' = N := by simpa using hg'
    rw [hN] at hfr ⊢
    exact c3 g hg hfr
theorem LI.put (h : LI n j s G) (hn : n ≤ 32) {t : Nat} (hf : f < 6) (ht : t < n) (h1 : (s.cl f).part = 2) (hr : (s.cl f).rch.testBit t = false) : ∃ G', LI n (j + 1) (reachS n f t j s) G' := by
  obtain ⟨k1, k2, k3⟩ := h.pr f hf
  obtain ⟨l1, l2, l3⟩ := h.cli f hf (by rw [h1]; decide)
  obtain ⟨q1, q2, q3⟩ := h.p2 f hf h1
  obtain ⟨S', V', e0, e1, e2, e3⟩ : ∃ S' V', r2S f t (r1S f t s) = { setC s f { s.cl f with rch := (s.cl f).rch ||| 2 ^ t, many := (s.cl f).many + 1 } with S := S', V := V' } ∧ (∀ a, a < n → s.S a ≤ S' a) ∧ (∀ a, a < n → Src s G (S' a) (V' a)) ∧ (s.cl f).bs ≤ S' t := by
    unfold r2S
    rw [r1_cl, if_neg (fun hh => by have := hh.1; simp only [h1] at this; omega)]
    by_cases hx : s.S t < (s.cl f).bs
    · rw [if_pos ⟨h1, hx⟩]
      refine ⟨upd s.S t (s.cl f).bs, upd s.V t (s.cl f).bv, rfl, fun a _ => ?_, fun a ha => ?_, by rw [upd_same]; exact Nat.le_refl _⟩
      · rw [upd_apply]; split
        · rename_i e; rw [e]; omega
        · exact Nat.le_refl _
      · rw [upd_apply, upd_apply]; split
        · exact l1
        · exact h.cop a ha
    · rw [if_neg (fun hh => hx hh.2)]
      exact ⟨s.S, s.V, rfl, fun _ _ => Nat.le_refl _, h.cop, by omega⟩
  have hrl : (s.cl f).rch ||| 2 ^ t < 2 ^ n := or_lt k1 ht
  have hm : (s.cl f).many + 1 = pop ((s.cl f).rch ||| 2 ^ t) := by rw [pop_or (by omega) hr, k2]
  have hRS : ∀ a, a < n → ((s.cl f).rch ||| 2 ^ t).testBit a = true → (s.cl f).bs ≤ S' a := fun a ha hb => by
    rw [or_bitC] at hb
    rcases hb with hb | rfl
    · exact Nat.le_trans (q2 a ha hb) (e1 a ha)
    · exact e3
  unfold reachS r3S
  rw [e0]
  have hcf : ({ setC s f { s.cl f with rch := (s.cl f).rch ||| 2 ^ t, many := (s.cl f).many + 1 } with S := S', V := V' } : CS).cl f = { s.cl f with rch := (s.cl f).rch ||| 2 ^ t, many := (s.cl f).many + 1 } := setC_self ..
  rw [hcf]
  by_cases hmaj : 2 * ((s.cl f).many + 1) ≤ n
  · rw [if_pos hmaj]
    have hsrc : ∀ x v, Src s G x v → Src { setC s f { s.cl f with rch := (s.cl f).rch ||| 2 ^ t, many := (s.cl f).many + 1 } with S := S', V := V' } G x v := fun x v hs => hs.mono (fun _ h => h) fun i _ a b => .inl (by
      show ((setC s f _).cl i).part = 2 ∧ ((setC s f _).cl i).wr = true ∧ ((setC s f _).cl i).bs = _ ∧ ((setC s f _).cl i).bv = _
      rw [setC_cl]
      by_cases e : i = f
      · subst e; rw [if_pos rfl]; exact ⟨a, b, rfl, rfl⟩
      · rw [if_neg e]; exact ⟨a, b, rfl, rfl⟩)
    exact ⟨G, h.later.turnS hf e1 e2 hsrc (fun _ => ⟨hsrc _ _ l1, by show (s.cl f).beg < _; omega, l3⟩) ⟨hrl, hm, by show (s.cl f).part ≤ 2; omega⟩ (fun hh => by have hh : (s.cl f).part = 1 := hh; omega) (fun _ => ⟨q1, hRS, q3⟩)⟩
  · rw [if_neg hmaj, if_neg (show ¬ (s.cl f).part = 1 by omega)]
    have := h.done hf e1 e2 h1 (c := { s.cl f with rch := 0, many := 0, part := 0 }) rfl rfl rfl hrl (by omega) hRS
    refine ⟨G ++ [⟨⟨f, (s.cl f).beg, j, (s.cl f).wr, (s.cl f).bv⟩, (s.cl f).bs, (s.cl f).rch ||| 2 ^ t⟩], ?_⟩
    have e4 : ∀ c : Cl, ({ setC { setC s f { s.cl f with rch := (s.cl f).rch ||| 2 ^ t, many := (s.cl f).many + 1 } with S := S', V := V' } f c with ops := s.ops ++ [⟨f, (s.cl f).beg, j, (s.cl f).wr, (s.cl f).bv⟩] } : CS) = { setC s f c with S := S', V := V', ops := s.ops ++ [⟨f, (s.cl f).beg, j, (s.cl f).wr, (s.cl f).bv⟩] } := fun c => by
      unfold setC
      simp only [upd_upd]
    exact (congrArg (fun z => LI n (j + 1) z (G ++ [⟨⟨f, (s.cl f).beg, j, (s.cl f).wr, (s.cl f).bv⟩, (s.cl f).bs, (s.cl f).rch ||| 2 ^ t⟩])) (e4 _)).mpr this
theorem LI.step (h : LI n j s G) (hn : n ≤ 32) (hs : Step n j s s') : ∃ G', LI n (j + 1) s' G' := by
  cases hs with
  | same => exact ⟨G, h.later⟩
  | fail t ht => exact ⟨G, ⟨h.later.ops, h.later.fin, h.later.mq, h.later.cop, h.later.cli, h.later.pr, h.later.p1, h.later.p2, h.later.real, h.later.seq⟩⟩
  | begin_ f hf v h0 => exact ⟨G, h.open_ hf v h0⟩
  | reach f t hf ht h0 hr =>
    have := (h.pr f hf).2.2
    rcases (by omega : (s.cl f).part = 1 ∨ (s.cl f).part = 2) with h1 | h1
    · exact ⟨G, h.ask hn hf ht h1 hr⟩
    · exact h.put hn hf ht h1 hr
end
theorem LI.all {n : Nat} (hn : n ≤ 32) (M : Mv) : ∀ j, ∃ G, LI n j (coE n M j) G
  | 0 => ⟨[], rfl, fun g hg => (by cases hg), fun g hg => (by cases hg), fun a _ => .inl ⟨rfl, rfl⟩, fun i _ hp => absurd rfl hp, fun i _ => ⟨Nat.two_pow_pos n, pop_zero.symm, Nat.zero_le _⟩, fun i _ hp => (by cases hp), fun i _ hp => (by cases hp), fun g hg => (by cases hg), List.Pairwise.nil⟩
  | j + 1 => by
    obtain ⟨G, h⟩ := LI.all hn M j
    exact h.step hn (doS_step ..)
end Go.Proofs.Ytoakgoigamigjaa
