/- The register on copies, in plain functions: moves, what they leave; of one stamp there is one number. -/
import Derived.Test.YtoakgoigamigjaaPopM
import Derived.Test.YtoakgoigamigjaaBits
import Derived.Test.YtoakgoigamigjaaLay
set_option linter.unusedVariables false
set_option linter.unusedSimpArgs false
namespace Go.Proofs.Ytoakgoigamigjaa
open Go.RowKit

structure Cl where
  part : Nat
  beg : Nat
  wr : Bool
  val : Int
  rch : Nat
  many : Nat
  bs : Nat
  bv : Int
structure Opr where
  fr : Nat
  bg : Nat
  en : Nat
  wr : Bool
  vl : Int
structure CS where
  S : Nat → Nat
  V : Nat → Int
  fl : Nat
  cl : Nat → Cl
  ops : List Opr
def Cl0 : Cl := ⟨0, 0, false, 0, 0, 0, 0, 0⟩
def CS0 : CS := ⟨fun _ => 0, fun _ => 0, 0, fun _ => Cl0, []⟩
def abv (s i : Nat) : Nat := if s - s % 6 + i ≤ s then s - s % 6 + i + 6 else s - s % 6 + i
theorem abv_lt {s i : Nat} (hi : i < 6) : s < abv s i ∧ abv s i ≤ s + 6 ∧ abv s i % 6 = i := by
  unfold abv
  split <;> refine ⟨by omega, by omega, by omega⟩
def setC (s : CS) (i : Nat) (c : Cl) : CS := { s with cl := upd s.cl i c }
def r1S (i to : Nat) (s : CS) : CS := setC s i { s.cl i with rch := (s.cl i).rch ||| 2 ^ to, many := (s.cl i).many + 1 }
def r2S (i to : Nat) (s : CS) : CS :=
  if (s.cl i).part = 1 ∧ (s.cl i).bs < s.S to then setC s i { s.cl i with bs := s.S to, bv := s.V to }
  else if (s.cl i).part = 2 ∧ s.S to < (s.cl i).bs then { s with S := upd s.S to (s.cl i).bs, V := upd s.V to (s.cl i).bv } else s
def r3S (n i now : Nat) (s : CS) : CS :=
  if 2 * (s.cl i).many ≤ n then s
  else if (s.cl i).part = 1 then
    if (s.cl i).wr then setC s i { s.cl i with rch := 0, many := 0, part := 2, bs := abv (s.cl i).bs i, bv := (s.cl i).val } else setC s i { s.cl i with rch := 0, many := 0, part := 2 }
  else { setC s i { s.cl i with rch := 0, many := 0, part := 0 } with ops := s.ops ++ [⟨i, (s.cl i).beg, now, (s.cl i).wr, (s.cl i).bv⟩] }
def reachS (n i to now : Nat) (s : CS) : CS := r3S n i now (r2S i to (r1S i to s))
def openC (now : Nat) (v : Int) : Cl := ⟨1, now, decide (0 ≤ v), max v 0, 0, 0, 0, 0⟩
def clientB (f : Int) : Bool := decide (0 ≤ f) && decide (f < 6)
def copiedB (n : Nat) (t : Int) : Bool := decide (0 ≤ t) && decide (t < n)
def doS (n : Nat) (k f t v : Int) (now : Nat) (s : CS) : Int × CS :=
  if k < 1 ∨ 3 < k then (6, s)
  else if (k ≠ 3 ∧ clientB f = false) ∨ (k ≠ 1 ∧ copiedB n t = false) then (2, s)
  else if k = 3 then if s.fl.testBit t.toNat then (7, s) else (0, { s with fl := s.fl ||| 2 ^ t.toNat })
  else if k = 1 then if 0 < (s.cl f.toNat).part then (7, s) else (0, setC s f.toNat (openC now v))
  else if (s.cl f.toNat).part = 0 then (7, s)
  else if (s.cl f.toNat).rch.testBit t.toNat then (8, s)
  else if s.fl.testBit t.toNat then (5, s)
  else (0, reachS n f.toNat t.toNat now s)
def coE (n : Nat) (M : Mv) : Nat → CS
  | 0 => CS0
  | j + 1 => (doS n (M.k j) (M.f j) (M.t j) (M.v j) j (coE n M j)).2
def coC (n : Nat) (M : Mv) (j : Nat) : Int := (doS n (M.k j) (M.f j) (M.t j) (M.v j) j (coE n M j)).1

/-- What a move can be. -/
inductive Step (n : Nat) (now : Nat) : CS → CS → Prop
  | same (s : CS) : Step n now s s
  | fail (s : CS) (t : Nat) (ht : t < n) : Step n now s { s with fl := s.fl ||| 2 ^ t }
  | begin_ (s : CS) (f : Nat) (hf : f < 6) (v : Int) (h0 : (s.cl f).part = 0) : Step n now s (setC s f (openC now v))
  | reach (s : CS) (f t : Nat) (hf : f < 6) (ht : t < n) (h0 : (s.cl f).part ≠ 0) (hr : (s.cl f).rch.testBit t = false) : Step n now s (reachS n f t now s)
theorem doS_step (n : Nat) (k f t v : Int) (now : Nat) (s : CS) : Step n now s (doS n k f t v now s).2 := by
  unfold doS
  split
  · exact .same s
  rename_i h1
  split
  · exact .same s
  rename_i h2
  have hcl : k ≠ 3 → 0 ≤ f ∧ f < 6 := fun h => by
    have : clientB f = true := by
      cases hc : clientB f
      · exact absurd (.inl ⟨h, hc⟩) h2
      · rfl
    unfold clientB at this; simp at this; exact this
  have hcp : k ≠ 1 → 0 ≤ t ∧ t < n := fun h => by
    have : copiedB n t = true := by
      cases hc : copiedB n t
      · exact absurd (.inr ⟨h, hc⟩) h2
      · rfl
    unfold copiedB at this; simp at this; exact this
  split
  · rename_i h3
    have := hcp (by omega)
    split
    · exact .same s
    · exact .fail s _ (by omega)
  rename_i h3
  have hc := hcl h3
  split
  · rename_i h4
    split
    · exact .same s
    · exact .begin_ s _ (by omega) v (by omega)
  rename_i h4
  have hp := hcp h4
  split
  · exact .same s
  rename_i h5
  split
  · exact .same s
  rename_i h6
  split
  · exact .same s
  exact .reach s _ _ (by omega) (by omega) h5 (by simpa using h6)

/-- What the walks ask. -/
structure WB (n j : Nat) (s : CS) : Prop where
  fl : s.fl < 2 ^ n
  rch : ∀ i, i < 6 → (s.cl i).rch < 2 ^ n
  many : ∀ i, i < 6 → (s.cl i).many ≤ j
  bs : ∀ i, i < 6 → (s.cl i).bs ≤ 6 * j
  S : ∀ a, a < n → s.S a ≤ 6 * j
  ops : s.ops.length ≤ j
  part : ∀ i, i < 6 → (s.cl i).part ≤ 2
theorem setC_cl (s : CS) (i : Nat) (c : Cl) (k : Nat) : (setC s i c).cl k = if k = i then c else s.cl k := rfl
theorem setC_self (s : CS) (i : Nat) (c : Cl) : (setC s i c).cl i = c := if_pos rfl
theorem WB.step {n j now : Nat} {s s' : CS} (h : WB n j s) (hs : Step n now s s') : WB n (j + 1) s' := by
  have up : WB n (j + 1) s := ⟨h.fl, h.rch, fun i hi => by have := h.many i hi; omega, fun i hi => by have := h.bs i hi; omega, fun a ha => by have := h.S a ha; omega, by have := h.ops; omega, h.part⟩
  have put : ∀ {s : CS} (f : Nat) (c : Cl), WB n (j + 1) s → c.rch < 2 ^ n → c.many ≤ j + 1 → c.bs ≤ 6 * (j + 1) → c.part ≤ 2 → WB n (j + 1) (setC s f c) := by
    intro s f c h h1 h2 h3 h4
    refine ⟨h.fl, fun i hi => ?_, fun i hi => ?_, fun i hi => ?_, h.S, h.ops, fun i hi => ?_⟩ <;> rw [setC_cl] <;> split
    · exact h1
    · exact h.rch i hi
    · exact h2
    · exact h.many i hi
    · exact h3
    · exact h.bs i hi
    · exact h4
    · exact h.part i hi
  cases hs with
  | same => exact up
  | fail t ht => exact ⟨or_lt h.fl ht, up.rch, up.many, up.bs, up.S, up.ops, up.part⟩
  | begin_ f hf v h0 => exact put f _ up (Nat.two_pow_pos n) (by show 0 ≤ _; omega) (by show 0 ≤ _; omega) (by show 1 ≤ 2; omega)
  | reach f t hf ht h0 hr =>
    have a1 : WB n (j + 1) (r1S f t s) := put f _ up (or_lt (h.rch f hf) ht) (by have := h.many f hf; show (s.cl f).many + 1 ≤ _; omega) (by have := h.bs f hf; show (s.cl f).bs ≤ _; omega) (h.part f hf)
    have b1 : ((r1S f t s).cl f).bs ≤ 6 * j := by unfold r1S; rw [setC_self]; exact h.bs f hf
    have c1 : ∀ a, a < n → (r1S f t s).S a ≤ 6 * j := h.S
    have a2 : WB n (j + 1) (r2S f t (r1S f t s)) ∧ ((r2S f t (r1S f t s)).cl f).bs ≤ 6 * j := by
      unfold r2S
      split
      · refine ⟨put f _ a1 (a1.rch f hf) (a1.many f hf) (by have := c1 t ht; show (r1S f t s).S t ≤ _; omega) (a1.part f hf), ?_⟩
        rw [setC_self]; exact c1 t ht
      split
      · refine ⟨⟨a1.fl, a1.rch, a1.many, a1.bs, fun a ha => ?_, a1.ops, a1.part⟩, b1⟩
        show upd _ _ _ a ≤ _
        rw [upd_apply]
        split
        · omega
        · have := c1 a ha; omega
      · exact ⟨a1, b1⟩
    have o2 : (r2S f t (r1S f t s)).ops = s.ops := by
      unfold r2S
      split
      · rfl
      split
      · rfl
      · rfl
    obtain ⟨a2, b2⟩ := a2
    unfold reachS r3S
    split
    · exact a2
    split
    · split
      · exact put f _ a2 (Nat.two_pow_pos n) (Nat.zero_le _) (by have := (abv_lt (s := ((r2S f t (r1S f t s)).cl f).bs) hf).2.1; show abv _ f ≤ _; omega) (by show 2 ≤ 2; omega)
      · exact put f _ a2 (Nat.two_pow_pos n) (Nat.zero_le _) (a2.bs f hf) (by show 2 ≤ 2; omega)
    · have := put f { (r2S f t (r1S f t s)).cl f with rch := 0, many := 0, part := 0 } a2 (Nat.two_pow_pos n) (Nat.zero_le _) (a2.bs f hf) (by show 0 ≤ 2; omega)
      exact ⟨this.fl, this.rch, this.many, this.bs, this.S, by rw [o2]; simp; exact h.ops, this.part⟩
theorem WB.all (n : Nat) (M : Mv) : ∀ j, WB n j (coE n M j)
  | 0 => ⟨Nat.two_pow_pos n, fun _ _ => Nat.two_pow_pos n, fun _ _ => Nat.le_refl _, fun _ _ => Nat.le_refl _, fun _ _ => Nat.le_refl _, Nat.le_refl _, fun _ _ => by show 0 ≤ 2; omega⟩
  | j + 1 => (WB.all n M j).step (doS_step ..)

/-- Of one stamp there is one number: H tells which were given; la i: the last one of client i; Q i: most copies have one no less. -/
structure RI (n : Nat) (s : CS) (H : Nat → Int → Prop) (la Q : Nat → Nat) : Prop where
  h0 : H 0 0
  fn : ∀ x v v', H x v → H x v' → v = v'
  cop : ∀ a, a < n → H (s.S a) (s.V a)
  cli : ∀ i, i < 6 → H (s.cl i).bs (s.cl i).bv
  dom : ∀ x v, H x v → x = 0 ∨ x ≤ la (x % 6)
  q : ∀ i, i < 6 → ((s.cl i).part ≠ 2 ∨ (s.cl i).wr = false) → Q i < 2 ^ n ∧ n < 2 * pop (Q i) ∧ ∀ a, a < n → (Q i).testBit a = true → la i ≤ s.S a
  p1 : ∀ i, i < 6 → (s.cl i).part = 1 → ∀ a, (s.cl i).rch.testBit a = true → (Q i).testBit a = true → la i ≤ (s.cl i).bs
  p2 : ∀ i, i < 6 → (s.cl i).part = 2 → ∀ a, a < n → (s.cl i).rch.testBit a = true → (s.cl i).bs ≤ s.S a
  pw : ∀ i, i < 6 → (s.cl i).part = 2 → (s.cl i).wr = true → la i = (s.cl i).bs
  pr : ∀ i, i < 6 → (s.cl i).rch < 2 ^ n ∧ (s.cl i).many = pop (s.cl i).rch
  pt : ∀ i, i < 6 → (s.cl i).part ≤ 2
/-- Copies' stamps rise, and what was given stays given. -/
def Rises (n : Nat) (s s' : CS) (H H' : Nat → Int → Prop) : Prop := (∀ a, a < n → s.S a ≤ s'.S a) ∧ ∀ x v, H x v → H' x v
theorem pop_or {a t : Nat} (ht : t < 32) (h : a.testBit t = false) : pop (a ||| 2 ^ t) = pop a + 1 := by
  have key : ∀ m, popTo (a ||| 2 ^ t) m = popTo a m + if t < m then 1 else 0 := by
    intro m
    induction m with
    | zero => simp [popTo]
    | succ m ih =>
      rw [popTo, popTo, ih, Nat.testBit_or, Nat.testBit_two_pow]
      by_cases e : t = m
      · subst e
        simp [h]
      · have : (if t < m + 1 then (1 : Nat) else 0) = if t < m then 1 else 0 := by
          by_cases h : t < m
          · rw [if_pos h, if_pos (by omega)]
          · rw [if_neg h, if_neg (by omega)]
        rw [this]
        simp only [e, decide_false, Bool.or_false]
        omega
  unfold pop
  rw [key, if_pos ht]
theorem or_bitC (d i j : Nat) : (d ||| 2 ^ i).testBit j = true ↔ d.testBit j = true ∨ j = i := by
  rw [Nat.testBit_or, Nat.testBit_two_pow, Bool.or_eq_true, decide_eq_true_eq]
  exact or_congr_right eq_comm

section
variable {n : Nat} {s s' : CS} {H H' : Nat → Int → Prop} {la Q la' Q' : Nat → Nat} {f : Nat}
/-- One client turns; stamps rise; some may be given. -/
theorem RI.one (h : RI n s H la Q) (hS : ∀ a, a < n → s.S a ≤ s'.S a) (ho : ∀ i, i ≠ f → s'.cl i = s.cl i) (hH : ∀ x v, H x v → H' x v) (fn : ∀ x v v', H' x v → H' x v' → v = v') (cop : ∀ a, a < n → H' (s'.S a) (s'.V a))
    (dom : ∀ x v, H' x v → x = 0 ∨ x ≤ la' (x % 6)) (hla : ∀ i, i ≠ f → la' i = la i) (hQ : ∀ i, i ≠ f → Q' i = Q i)
    (cli : H' (s'.cl f).bs (s'.cl f).bv) (q : ((s'.cl f).part ≠ 2 ∨ (s'.cl f).wr = false) → Q' f < 2 ^ n ∧ n < 2 * pop (Q' f) ∧ ∀ a, a < n → (Q' f).testBit a = true → la' f ≤ s'.S a)
    (p1 : (s'.cl f).part = 1 → ∀ a, (s'.cl f).rch.testBit a = true → (Q' f).testBit a = true → la' f ≤ (s'.cl f).bs)
    (p2 : (s'.cl f).part = 2 → ∀ a, a < n → (s'.cl f).rch.testBit a = true → (s'.cl f).bs ≤ s'.S a)
    (pw : (s'.cl f).part = 2 → (s'.cl f).wr = true → la' f = (s'.cl f).bs) (pr : (s'.cl f).rch < 2 ^ n ∧ (s'.cl f).many = pop (s'.cl f).rch) (pt : (s'.cl f).part ≤ 2) : RI n s' H' la' Q' := by
  refine ⟨hH _ _ h.h0, fn, cop, fun i hi => ?_, dom, fun i hi hx => ?_, fun i hi hx => ?_, fun i hi hx => ?_, fun i hi hx => ?_, fun i hi => ?_, fun i hi => ?_⟩ <;> by_cases e : i = f
  · subst e; exact cli
  · rw [ho i e]; exact hH _ _ (h.cli i hi)
  · subst e; exact q hx
  · rw [ho i e] at hx
    obtain ⟨h1, h2, h3⟩ := h.q i hi hx
    rw [hla i e, hQ i e]
    exact ⟨h1, h2, fun a ha hb => Nat.le_trans (h3 a ha hb) (hS a ha)⟩
  · subst e; exact p1 hx
  · rw [ho i e] at hx ⊢
    rw [hla i e, hQ i e]
    exact h.p1 i hi hx
  · subst e; exact p2 hx
  · rw [ho i e] at hx ⊢
    exact fun a ha hb => Nat.le_trans (h.p2 i hi hx a ha hb) (hS a ha)
  · subst e; exact pw hx
  · rw [ho i e] at hx ⊢
    rw [hla i e]
    exact h.pw i hi hx
  · subst e; exact pr
  · rw [ho i e]; exact h.pr i hi
  · subst e; exact pt
  · rw [ho i e]; exact h.pt i hi
theorem setC_setC (s : CS) (i : Nat) (c d : Cl) : setC (setC s i c) i d = setC s i d := by unfold setC; simp only [upd_upd]
theorem r1_cl (i to : Nat) (s : CS) : (r1S i to s).cl i = { s.cl i with rch := (s.cl i).rch ||| 2 ^ to, many := (s.cl i).many + 1 } := setC_self ..
/-- The first part: it asks. -/
theorem RI.ask (h : RI n s H la Q) (hn : n ≤ 32) {t now : Nat} (hf : f < 6) (ht : t < n) (h1 : (s.cl f).part = 1) (hr : (s.cl f).rch.testBit t = false) :
    ∃ H' la' Q', RI n (reachS n f t now s) H' la' Q' ∧ Rises n s (reachS n f t now s) H H' := by
  obtain ⟨c2, hc2, e1, e2, e3, e4, e5, e6, e7, e8⟩ : ∃ c2, r2S f t (r1S f t s) = setC s f c2 ∧ c2.part = 1 ∧ c2.wr = (s.cl f).wr ∧ c2.rch = (s.cl f).rch ||| 2 ^ t ∧ c2.many = (s.cl f).many + 1 ∧ (s.cl f).bs ≤ c2.bs ∧ s.S t ≤ c2.bs ∧ H c2.bs c2.bv ∧ c2.val = (s.cl f).val := by
    unfold r2S
    rw [r1_cl]
    by_cases hx : (s.cl f).bs < s.S t
    · rw [if_pos ⟨h1, hx⟩]
      exact ⟨_, setC_setC .., h1, rfl, rfl, rfl, Nat.le_of_lt hx, Nat.le_refl _, h.cop t ht, rfl⟩
    · rw [if_neg (fun hh => hx hh.2), if_neg (fun hh => by have := hh.1; simp only [h1] at this; omega)]
      exact ⟨_, rfl, h1, rfl, rfl, rfl, Nat.le_refl _, by show s.S t ≤ (s.cl f).bs; omega, h.cli f hf, rfl⟩
  have hpr := h.pr f hf
  have hrl : c2.rch < 2 ^ n := by rw [e3]; exact or_lt hpr.1 ht
  have hm : c2.many = pop c2.rch := by rw [e4, e3, pop_or (by omega) hr, hpr.2]
  have hq := h.q f hf (.inl (by rw [h1]; omega))
  have hp : ∀ a, c2.rch.testBit a = true → (Q f).testBit a = true → la f ≤ c2.bs := by
    intro a ha hb
    rw [e3, or_bitC] at ha
    rcases ha with ha | rfl
    · exact Nat.le_trans (h.p1 f hf h1 a ha hb) e5
    · exact Nat.le_trans (hq.2.2 a ht hb) e6
  have hot : ∀ (c : Cl) i, i ≠ f → (setC s f c).cl i = s.cl i := fun c i hi => if_neg hi
  unfold reachS r3S
  rw [hc2, setC_self]
  by_cases hmaj : 2 * c2.many ≤ n
  · rw [if_pos hmaj]
    refine ⟨H, la, Q, h.one (f := f) (fun _ _ => Nat.le_refl _) (hot c2) (fun _ _ h => h) h.fn h.cop h.dom (fun _ _ => rfl) (fun _ _ => rfl) ?_ (fun _ => hq) ?_ ?_ ?_ ?_ ?_, fun _ _ => Nat.le_refl _, fun _ _ h => h⟩ <;> rw [setC_self]
    · exact e7
    · exact fun _ => hp
    · intro hh; omega
    · intro hh; omega
    · exact ⟨hrl, hm⟩
    · omega
  rw [if_neg hmaj, if_pos e1]
  have hla : la f ≤ c2.bs := by
    obtain ⟨a, _, ha, hb⟩ := pop_meet hn hrl hq.1 (by rw [← hm]; omega) hq.2.1
    exact hp a ha hb
  by_cases hw : c2.wr = true
  · rw [if_pos hw]
    obtain ⟨a1, a2, a3⟩ := abv_lt (s := c2.bs) hf
    refine ⟨fun x v => H x v ∨ (x = abv c2.bs f ∧ v = c2.val), upd la f (abv c2.bs f), Q, h.one (f := f) (fun _ _ => Nat.le_refl _) (fun i hi => by rw [setC_setC]; exact hot _ i hi) (fun _ _ h => .inl h) ?_ (fun a ha => .inl (h.cop a ha)) ?_ (fun i hi => upd_ne _ _ hi) (fun _ _ => rfl) ?_ ?_ ?_ ?_ ?_ ?_ ?_, fun _ _ => Nat.le_refl _, fun _ _ h => .inl h⟩
    · have clash : ∀ v, H (abv c2.bs f) v → False := by
        intro v hv
        have := h.dom _ v hv
        rw [a3] at this
        omega
      rintro x v v' (hv | ⟨rfl, rfl⟩) (hv' | ⟨hx, rfl⟩)
      · exact h.fn x v v' hv hv'
      · subst hx; exact (clash v hv).elim
      · exact (clash v' hv').elim
      · rfl
    · rintro x v (hv | ⟨rfl, rfl⟩)
      · rcases h.dom x v hv with h2 | h2
        · exact .inl h2
        · refine .inr ?_
          rw [upd_apply]
          split
          · rename_i e; rw [e] at h2; omega
          · exact h2
      · refine .inr ?_
        rw [a3, upd_same]; exact Nat.le_refl _
    all_goals rw [setC_setC, setC_self]
    · exact .inr ⟨rfl, rfl⟩
    · intro hh
      rcases hh with hh | hh
      · exact absurd rfl hh
      · rw [show _ = c2.wr from rfl, hw] at hh; cases hh
    · intro hh; cases hh
    · intro _ a _ hb; simp at hb
    · intro _ _; exact upd_same ..
    · exact ⟨Nat.two_pow_pos n, pop_zero.symm⟩
    · show 2 ≤ 2; omega
  · rw [if_neg hw]
    refine ⟨H, la, Q, h.one (f := f) (fun _ _ => Nat.le_refl _) (fun i hi => by rw [setC_setC]; exact hot _ i hi) (fun _ _ h => h) h.fn h.cop h.dom (fun _ _ => rfl) (fun _ _ => rfl) ?_ (fun _ => hq) ?_ ?_ ?_ ?_ ?_, fun _ _ => Nat.le_refl _, fun _ _ h => h⟩ <;> rw [setC_setC, setC_self]
    · exact e7
    · intro hh; cases hh
    · intro _ a _ hb; simp at hb
    · intro _ hh; exact absurd hh hw
    · exact ⟨Nat.two_pow_pos n, pop_zero.symm⟩
    · show 2 ≤ 2; omega
/-- The second part: it puts. -/
theorem RI.put (h : RI n s H la Q) (hn : n ≤ 32) {t now : Nat} (hf : f < 6) (ht : t < n) (h1 : (s.cl f).part = 2) (hr : (s.cl f).rch.testBit t = false) :
    ∃ H' la' Q', RI n (reachS n f t now s) H' la' Q' ∧ Rises n s (reachS n f t now s) H H' := by
  obtain ⟨s2, hs2, e1, e2, e3, e4, e5⟩ : ∃ s2, r2S f t (r1S f t s) = s2 ∧ s2.cl = upd s.cl f { s.cl f with rch := (s.cl f).rch ||| 2 ^ t, many := (s.cl f).many + 1 } ∧ (∀ a, a < n → s.S a ≤ s2.S a) ∧ (s.cl f).bs ≤ s2.S t ∧ (∀ a, a < n → H (s2.S a) (s2.V a)) ∧ s2.ops = s.ops := by
    unfold r2S
    rw [r1_cl, if_neg (fun hh => by have := hh.1; simp only [h1] at this; omega)]
    by_cases hx : s.S t < (s.cl f).bs
    · rw [if_pos ⟨h1, hx⟩]
      refine ⟨_, rfl, rfl, fun a ha => ?_, ?_, fun a ha => ?_, rfl⟩
      · show s.S a ≤ upd s.S t (s.cl f).bs a
        rw [upd_apply]; split
        · rename_i e; rw [e]; omega
        · exact Nat.le_refl _
      · show (s.cl f).bs ≤ upd s.S t (s.cl f).bs t
        rw [upd_same]; exact Nat.le_refl _
      · show H (upd s.S t (s.cl f).bs a) (upd s.V t (s.cl f).bv a)
        rw [upd_apply, upd_apply]; split
        · exact h.cli f hf
        · exact h.cop a ha
    · rw [if_neg (fun hh => hx hh.2)]
      exact ⟨_, rfl, rfl, fun _ _ => Nat.le_refl _, by show (s.cl f).bs ≤ s.S t; omega, h.cop, rfl⟩
  have hc : s2.cl f = { s.cl f with rch := (s.cl f).rch ||| 2 ^ t, many := (s.cl f).many + 1 } := by rw [e1, upd_same]
  have hot : ∀ i, i ≠ f → s2.cl i = s.cl i := fun i hi => by rw [e1, upd_ne _ _ hi]
  have hpr := h.pr f hf
  have hrl : (s2.cl f).rch < 2 ^ n := by rw [hc]; exact or_lt hpr.1 ht
  have hm : (s2.cl f).many = pop (s2.cl f).rch := by rw [hc]; show _ + 1 = _; rw [pop_or (by omega) hr, hpr.2]
  have hb2 : (s2.cl f).bs = (s.cl f).bs := by rw [hc]
  have hv2 : (s2.cl f).bv = (s.cl f).bv := by rw [hc]
  have hw2 : (s2.cl f).wr = (s.cl f).wr := by rw [hc]
  have hp2 : (s2.cl f).part = 2 := by rw [hc]; exact h1
  have hp : ∀ a, a < n → (s2.cl f).rch.testBit a = true → (s.cl f).bs ≤ s2.S a := by
    intro a ha hb
    rw [hc] at hb
    have hb := (or_bitC _ _ _).1 hb
    rcases hb with hb | rfl
    · exact Nat.le_trans (h.p2 f hf h1 a ha hb) (e2 a ha)
    · exact e3
  have hq : ((s.cl f).wr = false) → Q f < 2 ^ n ∧ n < 2 * pop (Q f) ∧ ∀ a, a < n → (Q f).testBit a = true → la f ≤ s2.S a := by
    intro hw
    obtain ⟨x1, x2, x3⟩ := h.q f hf (.inr hw)
    exact ⟨x1, x2, fun a ha hb => Nat.le_trans (x3 a ha hb) (e2 a ha)⟩
  unfold reachS r3S
  rw [hs2]
  by_cases hmaj : 2 * (s2.cl f).many ≤ n
  · rw [if_pos hmaj]
    refine ⟨H, la, Q, h.one (f := f) e2 hot (fun _ _ h => h) h.fn e4 h.dom (fun _ _ => rfl) (fun _ _ => rfl) (by rw [hb2, hv2]; exact h.cli f hf) ?_ ?_ ?_ ?_ ⟨hrl, hm⟩ (by omega), e2, fun _ _ h => h⟩
    · intro hh
      rw [hp2, hw2] at hh
      exact hq (hh.resolve_left (fun h => h rfl))
    · intro hh; omega
    · intro _ a ha hb; rw [hb2]; exact hp a ha hb
    · intro _ hw; rw [hb2]; rw [hw2] at hw; exact h.pw f hf h1 hw
  rw [if_neg hmaj, if_neg (by omega)]
  have hot2 : ∀ (c : Cl) i, i ≠ f → (setC s2 f c).cl i = s.cl i := fun c i hi => by rw [setC_cl, if_neg hi]; exact hot i hi
  refine ⟨H, la, fun i => if i = f ∧ (s.cl f).wr = true then (s2.cl f).rch else Q i, h.one (f := f) (s' := { setC s2 f { s2.cl f with rch := 0, many := 0, part := 0 } with ops := _ }) e2 (hot2 _) (fun _ _ h => h) h.fn e4 h.dom (fun _ _ => rfl) (fun i hi => if_neg (fun hh => hi hh.1)) ?_ ?_ ?_ ?_ ?_ ?_ ?_, e2, fun _ _ h => h⟩
  all_goals simp only [setC_self]
  · rw [hb2, hv2]; exact h.cli f hf
  · intro _
    cases hw : (s.cl f).wr
    · simp only [Bool.false_eq_true, and_false, if_false]
      exact hq hw
    · simp only [and_self, if_true]
      refine ⟨hrl, by rw [← hm]; omega, fun a ha hb => ?_⟩
      rw [h.pw f hf h1 hw]
      exact hp a ha hb
  · intro hh; omega
  · intro hh; omega
  · intro hh; omega
  · exact ⟨Nat.two_pow_pos n, pop_zero.symm⟩
  · omega
theorem RI.step (h : RI n s H la Q) (hn : n ≤ 32) {now : Nat} (hs : Step n now s s') : ∃ H' la' Q', RI n s' H' la' Q' ∧ Rises n s s' H H' := by
  cases hs with
  | same => exact ⟨H, la, Q, h, fun _ _ => Nat.le_refl _, fun _ _ h => h⟩
  | fail t ht => exact ⟨H, la, Q, ⟨h.h0, h.fn, h.cop, h.cli, h.dom, h.q, h.p1, h.p2, h.pw, h.pr, h.pt⟩, fun _ _ => Nat.le_refl _, fun _ _ h => h⟩
  | begin_ f hf v h0 =>
    refine ⟨H, la, Q, h.one (f := f) (fun _ _ => Nat.le_refl _) (fun i hi => if_neg hi) (fun _ _ h => h) h.fn h.cop h.dom (fun _ _ => rfl) (fun _ _ => rfl) ?_ (fun _ => h.q f hf (.inl (by rw [h0]; omega))) ?_ ?_ ?_ ?_ ?_, fun _ _ => Nat.le_refl _, fun _ _ h => h⟩ <;> rw [setC_self]
    · exact h.h0
    · intro _ a hb; simp [openC] at hb
    · intro hh; simp [openC] at hh
    · intro hh; simp [openC] at hh
    · exact ⟨Nat.two_pow_pos n, pop_zero.symm⟩
    · show 1 ≤ 2; omega
  | reach f t hf ht h0 hr =>
    have := h.pt f hf
    rcases (by omega : (s.cl f).part = 1 ∨ (s.cl f).part = 2) with h1 | h1
    · exact h.ask hn hf ht h1 hr
    · exact h.put hn hf ht h1 hr
end
theorem RI.start {n : Nat} (hn : 1 ≤ n ∧ n ≤ 32) : RI n CS0 (fun x v => x = 0 ∧ v = 0) (fun _ => 0) (fun _ => 2 ^ n - 1) := by
  refine ⟨⟨rfl, rfl⟩, fun x v v' h h' => h.2.trans h'.2.symm, fun _ _ => ⟨rfl, rfl⟩, fun _ _ => ⟨rfl, rfl⟩, fun x v h => .inl h.1, fun i _ _ => ⟨?_, ?_, fun _ _ _ => Nat.zero_le _⟩, fun i _ h => ?_, fun i _ h => ?_, fun i _ h => ?_, fun i _ => ⟨Nat.two_pow_pos n, pop_zero.symm⟩, fun i _ => ?_⟩
  · have := Nat.two_pow_pos n; omega
  · have : pop (2 ^ n - 1) = n := by
      rw [pop_lt (n := n) (by have := Nat.two_pow_pos n; omega) hn.2]
      exact popTo_full n n (Nat.le_refl _)
    rw [this]; omega
  all_goals first | (show 0 ≤ 2; omega) | cases h
/-- Later stamps are no less, and of one stamp there is one number, now and later. -/
theorem rise {n : Nat} (hn : 1 ≤ n ∧ n ≤ 32) (M : Mv) : ∀ m, ∃ H la Q, RI n (coE n M m) H la Q ∧ ∀ j, j ≤ m → (∀ a, a < n → (coE n M j).S a ≤ (coE n M m).S a ∧ H ((coE n M j).S a) ((coE n M j).V a))
  | 0 => ⟨_, _, _, RI.start hn, fun j hj a ha => by obtain rfl : j = 0 := by omega
                                                    exact ⟨Nat.le_refl _, rfl, rfl⟩⟩
  | m + 1 => by
    obtain ⟨H, la, Q, h, hj⟩ := rise hn M m
    obtain ⟨H', la', Q', h', h1, h2⟩ := h.step hn.2 (doS_step n (M.k m) (M.f m) (M.t m) (M.v m) m (coE n M m))
    refine ⟨H', la', Q', h', fun j hjm a ha => ?_⟩
    rcases Nat.lt_or_ge j (m + 1) with hlt | hge
    · obtain ⟨x1, x2⟩ := hj j (by omega) a ha
      exact ⟨Nat.le_trans x1 (h1 a ha), h2 _ _ x2⟩
    · obtain rfl : j = m + 1 := by omega
      exact ⟨Nat.le_refl _, h'.cop a ha⟩
theorem rise_law {n : Nat} (hn : 1 ≤ n ∧ n ≤ 32) (M : Mv) {j m : Nat} (hjm : j ≤ m) {a b : Nat} (ha : a < n) (hb : b < n) :
    (coE n M j).S a ≤ (coE n M m).S a ∧ ((coE n M m).S a = (coE n M j).S b → (coE n M m).V a = (coE n M j).V b) ∧ ((coE n M m).S a = (coE n M m).S b → (coE n M m).V a = (coE n M m).V b) := by
  obtain ⟨H, la, Q, h, hj⟩ := rise hn M m
  have hma := (hj m (Nat.le_refl _) a ha).2
  have hmb := (hj m (Nat.le_refl _) b hb).2
  have hjb := (hj j hjm b hb).2
  exact ⟨(hj j hjm a ha).1, fun e => h.fn _ _ _ hma (e ▸ hjb), fun e => h.fn _ _ _ hma (e ▸ hmb)⟩
end Go.Proofs.Ytoakgoigamigjaa
