/- Paxos as plain functions, and why what is chosen stays chosen. -/
import Derived.Test.YtpicmphimcgklaaMv
import Derived.Test.YtpicmphimcgklaaPop
set_option linter.unusedVariables false
set_option linter.unusedSimpArgs false
namespace Go.Proofs.Ytpicmphimcgklaa

structure PS where
  pr : Nat → Nat
  tk : Nat → Nat
  be : Nat → Nat
  va : Nat → Nat
  of : Nat → Nat
  P : Nat → Nat
  T : Nat → Nat
  V : Nat → Nat
  ch : Int
def PS0 : PS := ⟨fun _ => 0, fun _ => 0, fun _ => 0, fun _ => 0, fun _ => 0, fun _ => 0, fun _ => 0, fun _ => 0, -1⟩
def mostB (n s : Nat) : Bool := decide (n < 2 * pop s)
def askS (s : PS) (i b : Nat) : PS :=
  { s with P := upd s.P i b, pr := upd s.pr b (s.pr b ||| 2 ^ i), be := if s.be b < s.T i then upd s.be b (s.T i) else s.be, va := if s.be b < s.T i then upd s.va b (s.V i) else s.va }
def offS (s : PS) (b : Nat) : PS := { s with of := upd s.of b (if 0 < s.be b then s.va b else b) }
def takS (n : Nat) (s : PS) (i b : Nat) : PS :=
  { s with P := upd s.P i b, T := upd s.T i b, V := upd s.V i (s.of b), tk := upd s.tk b (s.tk b ||| 2 ^ i), ch := if mostB n (s.tk b ||| 2 ^ i) then (s.of b : Int) else s.ch }
def pxStep (n : Nat) (k f v : Int) (s : PS) : Int × PS :=
  if k < 1 ∨ 3 < k then (6, s)
  else if k ≠ 2 ∧ (f < 0 ∨ n ≤ f) then (2, s)
  else if v < 1 ∨ 9 < v then (4, s)
  else if k = 1 then (if v.toNat ≤ s.P f.toNat then (8, s) else (0, askS s f.toNat v.toNat))
  else if k = 2 then (if 0 < s.of v.toNat then (7, s) else if mostB n (s.pr v.toNat) then (0, offS s v.toNat) else (5, s))
  else (if s.of v.toNat = 0 then (5, s) else if v.toNat < s.P f.toNat then (8, s) else (0, takS n s f.toNat v.toNat))
def pxE (n : Nat) (M : Mv) : Nat → PS
  | 0 => PS0
  | j + 1 => (pxStep n (M.k j) (M.f j) (M.v j) (pxE n M j)).2
def pxC (n : Nat) (M : Mv) (j : Nat) : Int := (pxStep n (M.k j) (M.f j) (M.v j) (pxE n M j)).1

structure PI (n : Nat) (s : PS) : Prop where
  prb : ∀ b, s.pr b < 2 ^ n
  tkb : ∀ b, s.tk b < 2 ^ n
  T0 : ∀ i, s.T i ≤ s.P i ∧ s.P i ≤ 9
  VT : ∀ i, (s.T i = 0 ∧ s.V i = 0) ∨ (1 ≤ s.T i ∧ s.V i = s.of (s.T i) ∧ s.of (s.T i) ≠ 0)
  tkT : ∀ b i, (s.tk b).testBit i = true → 1 ≤ b ∧ b ≤ s.T i ∧ s.of b ≠ 0
  prP : ∀ b i, (s.pr b).testBit i = true → b ≤ s.P i
  beb : ∀ b, s.be b = 0 ∨ (s.be b < b ∧ s.va b = s.of (s.be b) ∧ s.of (s.be b) ≠ 0)
  bek : ∀ b i, (s.pr b).testBit i = true → ∀ c, c < b → (s.tk c).testBit i = true → c ≤ s.be b
  ofb : ∀ b, s.of b ≤ 9
  ofk : ∀ b, s.of b ≠ 0 → ∃ Q e, (∀ i, Q.testBit i = true → (s.pr b).testBit i = true) ∧ Q < 2 ^ n ∧ n < 2 * pop Q ∧ e < b ∧
    (∀ i, Q.testBit i = true → ∀ c, c < b → (s.tk c).testBit i = true → c ≤ e) ∧ (e = 0 ∨ (s.of b = s.of e ∧ s.of e ≠ 0))
  chk : (s.ch = -1 ∧ ∀ b, ¬ n < 2 * pop (s.tk b)) ∨ ∃ b, n < 2 * pop (s.tk b) ∧ s.ch = s.of b

theorem testBit_put (a i j : Nat) : (a ||| 2 ^ i).testBit j = true ↔ a.testBit j = true ∨ j = i := by
  rw [Nat.testBit_or, Bool.or_eq_true, Nat.testBit_two_pow]
  constructor
  · rintro (h | h)
    · exact .inl h
    · exact .inr (by simpa using (of_decide_eq_true h).symm)
  · rintro (h | h)
    · exact .inl h
    · exact .inr (decide_eq_true h.symm)

theorem PI.zero (n : Nat) : PI n PS0 where
  prb := fun _ => Nat.two_pow_pos n
  tkb := fun _ => Nat.two_pow_pos n
  T0 := fun _ => ⟨Nat.le_refl _, by show 0 ≤ 9; omega⟩
  VT := fun _ => .inl ⟨rfl, rfl⟩
  tkT := fun b i h => by simp [PS0] at h
  prP := fun b i h => by simp [PS0] at h
  beb := fun _ => .inl rfl
  bek := fun b i h => by simp [PS0] at h
  ofb := fun _ => by show 0 ≤ 9; omega
  ofk := fun b h => absurd rfl h
  chk := .inl ⟨rfl, fun b => by show ¬ n < 2 * pop 0; rw [pop_zero]; omega⟩

theorem PI.ask {n : Nat} {s : PS} (h : PI n s) {i b : Nat} (hi : i < n) (hb : 1 ≤ b ∧ b ≤ 9) (hp : s.P i < b) : PI n (askS s i b) := by
  have hPm : ∀ j, s.P j ≤ upd s.P i b j := by
    intro j; rw [upd_apply]; split
    · rename_i e; subst e; omega
    · exact Nat.le_refl _
  have hbm : s.be b ≤ (if s.be b < s.T i then upd s.be b (s.T i) else s.be) b ∧ s.T i ≤ (if s.be b < s.T i then upd s.be b (s.T i) else s.be) b := by
    split
    · rw [upd_same]; omega
    · omega
  refine ⟨?_, h.tkb, ?_, h.VT, h.tkT, ?_, ?_, ?_, h.ofb, ?_, h.chk⟩
  · intro c
    show upd s.pr b _ c < _
    rw [upd_apply]; split
    · exact or_lt (h.prb b) hi
    · exact h.prb c
  · intro j
    have := h.T0 j
    refine ⟨Nat.le_trans this.1 (hPm j), ?_⟩
    show upd s.P i b j ≤ 9
    rw [upd_apply]; split <;> omega
  · intro c j hc
    show c ≤ upd s.P i b j
    have hc : (upd s.pr b (s.pr b ||| 2 ^ i) c).testBit j = true := hc
    rw [upd_apply] at hc
    split at hc
    · rename_i e; subst e
      rcases (testBit_put _ _ _).1 hc with hc | rfl
      · exact Nat.le_trans (h.prP _ _ hc) (hPm j)
      · rw [upd_same]; exact Nat.le_refl _
    · exact Nat.le_trans (h.prP _ _ hc) (hPm j)
  · intro c
    show (if s.be b < s.T i then upd s.be b (s.T i) else s.be) c = 0 ∨ ((if s.be b < s.T i then upd s.be b (s.T i) else s.be) c < c ∧ (if s.be b < s.T i then upd s.va b (s.V i) else s.va) c = s.of ((if s.be b < s.T i then upd s.be b (s.T i) else s.be) c) ∧ s.of ((if s.be b < s.T i then upd s.be b (s.T i) else s.be) c) ≠ 0)
    split
    · rw [upd_apply, upd_apply]
      split
      · rename_i hlt e; subst e
        have h1 := (h.T0 i).1
        rcases h.VT i with h2 | h2
        · omega
        · exact .inr ⟨by omega, h2.2.1, h2.2.2⟩
      · exact h.beb c
    · exact h.beb c
  · intro c j hc d hd ht
    have hc : (upd s.pr b (s.pr b ||| 2 ^ i) c).testBit j = true := hc
    show d ≤ (if s.be b < s.T i then upd s.be b (s.T i) else s.be) c
    rw [upd_apply] at hc
    split at hc
    · rename_i e; subst e
      rcases (testBit_put _ _ _).1 hc with hc | rfl
      · exact Nat.le_trans (h.bek _ _ hc d hd ht) hbm.1
      · exact Nat.le_trans (h.tkT _ _ ht).2.1 hbm.2
    · rename_i e
      have := h.bek _ _ hc d hd ht
      split
      · rw [upd_ne _ _ e]; exact this
      · exact this
  · intro c hc
    obtain ⟨Q, e, h1, h2⟩ := h.ofk c hc
    refine ⟨Q, e, fun j hj => ?_, h2⟩
    have := h1 j hj
    show (upd s.pr b (s.pr b ||| 2 ^ i) c).testBit j = true
    rw [upd_apply]; split
    · rename_i e; subst e; exact (testBit_put _ _ _).2 (.inl this)
    · exact this

theorem PI.some_bit {n : Nat} {s : PS} (hn : n ≤ 32) (h : PI n s) {b : Nat} (hb : n < 2 * pop (s.tk b)) : ∃ i, i < n ∧ (s.tk b).testBit i = true := by
  obtain ⟨i, hi, h1, _⟩ := pop_meet hn (h.tkb b) (h.tkb b) hb hb
  exact ⟨i, hi, h1⟩

theorem PI.off {n : Nat} {s : PS} (hn : n ≤ 32) (h : PI n s) {b : Nat} (hb : 1 ≤ b ∧ b ≤ 9) (ho : s.of b = 0) (hm : n < 2 * pop (s.pr b)) : PI n (offS s b) := by
  obtain ⟨x, hx⟩ : ∃ x, x = if 0 < s.be b then s.va b else b := ⟨_, rfl⟩
  have hx9 : x ≤ 9 ∧ x ≠ 0 ∧ (s.be b = 0 ∨ (x = s.of (s.be b) ∧ s.be b < b)) := by
    rw [hx]
    rcases h.beb b with h0 | ⟨h1, h2, h3⟩
    · rw [h0]; simp; omega
    · split
      · exact ⟨by rw [h2]; exact h.ofb _, by rw [h2]; exact h3, .inr ⟨h2, h1⟩⟩
      · exact ⟨hb.2, by omega, .inl (by omega)⟩
  have hof : ∀ c, s.of c ≠ 0 → upd s.of b x c = s.of c := fun c hc => upd_ne _ _ (fun e => hc (by rw [e]; exact ho))
  have hS : offS s b = { s with of := upd s.of b x } := by rw [hx]; rfl
  rw [hS]
  refine ⟨h.prb, h.tkb, h.T0, ?_, ?_, h.prP, ?_, h.bek, ?_, ?_, ?_⟩
  · intro i
    rcases h.VT i with h1 | ⟨h1, h2, h3⟩
    · exact .inl h1
    · exact .inr ⟨h1, by show s.V i = upd s.of b x (s.T i); rw [hof _ h3]; exact h2, by show upd s.of b x (s.T i) ≠ 0; rw [hof _ h3]; exact h3⟩
  · intro c i hc
    obtain ⟨h1, h2, h3⟩ := h.tkT c i hc
    exact ⟨h1, h2, by show upd s.of b x c ≠ 0; rw [hof _ h3]; exact h3⟩
  · intro c
    rcases h.beb c with h1 | ⟨h1, h2, h3⟩
    · exact .inl h1
    · exact .inr ⟨h1, by show s.va c = upd s.of b x (s.be c); rw [hof _ h3]; exact h2, by show upd s.of b x (s.be c) ≠ 0; rw [hof _ h3]; exact h3⟩
  · intro c
    show upd s.of b x c ≤ 9
    rw [upd_apply]; split
    · exact hx9.1
    · exact h.ofb c
  · intro c hc
    by_cases hcb : c = b
    · subst hcb
      refine ⟨s.pr c, s.be c, fun _ hi => hi, h.prb c, hm, ?_, fun i hi d hd ht => h.bek c i hi d hd ht, ?_⟩
      · rcases hx9.2.2 with h0 | h0
        · rw [h0]; omega
        · exact h0.2
      · rcases h.beb c with h0 | ⟨h1, h2, h3⟩
        · exact .inl h0
        · right
          show upd s.of c x c = upd s.of c x (s.be c) ∧ upd s.of c x (s.be c) ≠ 0
          rw [upd_same, hof _ h3]
          rcases hx9.2.2 with h4 | h4
          · rw [h4] at h1 h3
            exact absurd h3 (by
              intro h5
              rcases h.beb c with h6 | h6
              · have := hx; rw [h6] at this; simp at this
                rcases Nat.eq_zero_or_pos (s.of 0) with h7 | h7
                · exact h5 h7
                · obtain ⟨Q, e, _, _, _, h8, _⟩ := h.ofk 0 h5
                  omega
              · rw [h4] at h6; obtain ⟨Q, e, _, _, _, h8, _⟩ := h.ofk 0 h6.2.2; omega)
          · exact ⟨h4.1, h3⟩
    · have hc' : s.of c ≠ 0 := by
        have h2 : upd s.of b x c ≠ 0 := hc
        rwa [upd_ne _ _ hcb] at h2
      obtain ⟨Q, e, h1, h2, h3, h4, h5, h6⟩ := h.ofk c hc'
      refine ⟨Q, e, h1, h2, h3, h4, h5, ?_⟩
      rcases h6 with h6 | ⟨h6, h7⟩
      · exact .inl h6
      · right
        show upd s.of b x c = upd s.of b x e ∧ upd s.of b x e ≠ 0
        rw [hof _ hc', hof _ h7]
        exact ⟨h6, h7⟩
  · rcases h.chk with h1 | ⟨c, h1, h2⟩
    · exact .inl h1
    · obtain ⟨i, _, hi⟩ := h.some_bit hn h1
      exact .inr ⟨c, h1, by show s.ch = (upd s.of b x c : Nat); rw [hof _ (h.tkT c i hi).2.2]; exact h2⟩

theorem PI.tak {n : Nat} {s : PS} (h : PI n s) {i b : Nat} (hi : i < n) (hb : 1 ≤ b ∧ b ≤ 9) (ho : s.of b ≠ 0) (hp : s.P i ≤ b) : PI n (takS n s i b) := by
  have hPm : ∀ j, s.P j ≤ upd s.P i b j := by
    intro j; rw [upd_apply]; split
    · rename_i e; subst e; omega
    · exact Nat.le_refl _
  have hTm : ∀ j, s.T j ≤ upd s.T i b j := by
    intro j; rw [upd_apply]; split
    · rename_i e; subst e; have := (h.T0 j).1; omega
    · exact Nat.le_refl _
  have htk : ∀ c j, (upd s.tk b (s.tk b ||| 2 ^ i) c).testBit j = true → (s.tk c).testBit j = true ∨ (c = b ∧ j = i) := by
    intro c j hc
    rw [upd_apply] at hc
    split at hc
    · rename_i e; subst e
      rcases (testBit_put _ _ _).1 hc with hc | rfl
      · exact .inl hc
      · exact .inr ⟨rfl, rfl⟩
    · exact .inl hc
  have htk2 : ∀ c j, (s.tk c).testBit j = true → (upd s.tk b (s.tk b ||| 2 ^ i) c).testBit j = true := by
    intro c j hc
    rw [upd_apply]; split
    · rename_i e; subst e; exact (testBit_put _ _ _).2 (.inl hc)
    · exact hc
  refine ⟨h.prb, ?_, ?_, ?_, ?_, ?_, h.beb, ?_, h.ofb, ?_, ?_⟩
  · intro c
    show upd s.tk b _ c < _
    rw [upd_apply]; split
    · exact or_lt (h.tkb b) hi
    · exact h.tkb c
  · intro j
    show upd s.T i b j ≤ upd s.P i b j ∧ upd s.P i b j ≤ 9
    have := h.T0 j
    rw [upd_apply, upd_apply]; split
    · exact ⟨Nat.le_refl _, hb.2⟩
    · exact this
  · intro j
    show (upd s.T i b j = 0 ∧ upd s.V i (s.of b) j = 0) ∨ (1 ≤ upd s.T i b j ∧ upd s.V i (s.of b) j = s.of (upd s.T i b j) ∧ s.of (upd s.T i b j) ≠ 0)
    rw [upd_apply, upd_apply]; split
    · exact .inr ⟨hb.1, rfl, ho⟩
    · exact h.VT j
  · intro c j hc
    show 1 ≤ c ∧ c ≤ upd s.T i b j ∧ s.of c ≠ 0
    rcases htk c j hc with hc | ⟨rfl, rfl⟩
    · obtain ⟨h1, h2, h3⟩ := h.tkT c j hc
      exact ⟨h1, Nat.le_trans h2 (hTm j), h3⟩
    · rw [upd_same]; exact ⟨hb.1, Nat.le_refl _, ho⟩
  · intro c j hc
    exact Nat.le_trans (h.prP c j hc) (hPm j)
  · intro c j hc d hd ht
    rcases htk d j ht with ht | ⟨rfl, rfl⟩
    · exact h.bek c j hc d hd ht
    · have h1 : c ≤ s.P j := h.prP c j hc
      omega
  · intro c hc
    obtain ⟨Q, e, h1, h2, h3, h4, h5, h6⟩ := h.ofk c hc
    refine ⟨Q, e, h1, h2, h3, h4, fun j hj d hd ht => ?_, h6⟩
    rcases htk d j ht with ht | ⟨rfl, rfl⟩
    · exact h5 j hj d hd ht
    · have := h.prP c j (h1 j hj)
      omega
  · show ((if mostB n (s.tk b ||| 2 ^ i) then (s.of b : Int) else s.ch) = -1 ∧ ∀ c, ¬ n < 2 * pop (upd s.tk b (s.tk b ||| 2 ^ i) c)) ∨ ∃ c, n < 2 * pop (upd s.tk b (s.tk b ||| 2 ^ i) c) ∧ (if mostB n (s.tk b ||| 2 ^ i) then (s.of b : Int) else s.ch) = s.of c
    by_cases hm : n < 2 * pop (s.tk b ||| 2 ^ i)
    · rw [if_pos (show mostB n (s.tk b ||| 2 ^ i) = true from decide_eq_true hm)]
      exact .inr ⟨b, by rw [upd_same]; exact hm, rfl⟩
    · rw [if_neg (show ¬ mostB n (s.tk b ||| 2 ^ i) = true from fun e => hm (of_decide_eq_true e))]
      rcases h.chk with ⟨h1, h2⟩ | ⟨c, h1, h2⟩
      · refine .inl ⟨h1, fun c => ?_⟩
        rw [upd_apply]; split
        · exact hm
        · exact h2 c
      · refine .inr ⟨c, ?_, h2⟩
        have := pop_sub (htk2 c)
        omega

theorem PI.step {n : Nat} (hn : n ≤ 32) {s : PS} (h : PI n s) (k f v : Int) : PI n (pxStep n k f v s).2 := by
  unfold pxStep
  repeat' split
  all_goals first
    | exact h
    | (rename_i h1 h2 h3 h4 h5; exact h.ask (by omega) (by omega) (by omega))
    | (rename_i h1 h2 h3 h4 h5 h6 h7; exact h.off hn (by omega) (by omega) (of_decide_eq_true h7))
    | (rename_i h1 h2 h3 h4 h5 h6 h7; exact h.tak (by omega) (by omega) h6 (by omega))
theorem PI.all {n : Nat} (hn : n ≤ 32) (M : Mv) (j : Nat) : PI n (pxE n M j) := by
  induction j with
  | zero => exact PI.zero n
  | succ j ih => exact ih.step hn _ _ _

/-- What most took stays the value of all later ballots. -/
theorem PI.later {n : Nat} {s : PS} (hn : n ≤ 32) (h : PI n s) {b0 : Nat} (hm : n < 2 * pop (s.tk b0)) : ∀ b, b0 < b → s.of b ≠ 0 → s.of b = s.of b0 := by
  intro b
  induction b using Nat.strongRecOn with
  | _ b ih =>
    intro hb ho
    obtain ⟨Q, e, h1, h2, h3, h4, h5, h6⟩ := h.ofk b ho
    obtain ⟨i, _, hi1, hi2⟩ := pop_meet hn h2 (h.tkb b0) h3 hm
    have hle := h5 i hi1 b0 hb hi2
    have h1 := (h.tkT b0 i hi2).1
    rcases h6 with h6 | ⟨h6, h7⟩
    · omega
    · rcases Nat.lt_or_ge b0 e with h8 | h8
      · rw [h6]; exact ih e h4 h8 h7
      · obtain rfl : e = b0 := by omega
        exact h6
theorem PI.one {n : Nat} {s : PS} (hn : n ≤ 32) (h : PI n s) {b c : Nat} (hb : n < 2 * pop (s.tk b)) (hc : n < 2 * pop (s.tk c)) : s.of b = s.of c := by
  obtain ⟨i, _, hi⟩ := h.some_bit hn hb
  obtain ⟨j, _, hj⟩ := h.some_bit hn hc
  rcases Nat.lt_trichotomy b c with h1 | rfl | h1
  · exact (h.later hn hb c h1 (h.tkT c j hj).2.2).symm
  · rfl
  · exact h.later hn hc b h1 (h.tkT b i hi).2.2
theorem PI.chosen {n : Nat} {s : PS} (hn : n ≤ 32) (h : PI n s) {b : Nat} (hb : n < 2 * pop (s.tk b)) : s.ch = s.of b := by
  rcases h.chk with ⟨_, h2⟩ | ⟨c, h1, h2⟩
  · exact absurd hb (h2 b)
  · rw [h2, h.one hn h1 hb]
theorem PI.ch_range {n : Nat} {s : PS} (hn : n ≤ 32) (h : PI n s) : -1 ≤ s.ch ∧ s.ch ≠ 0 ∧ s.ch ≤ 9 := by
  rcases h.chk with ⟨h1, _⟩ | ⟨c, h1, h2⟩
  · omega
  · obtain ⟨i, _, hi⟩ := h.some_bit hn h1
    have := (h.tkT c i hi).2.2
    have := h.ofb c
    omega

/-- What a move leaves. -/
theorem px_grows (n : Nat) (k f v : Int) (s : PS) (b : Nat) : (∀ i, (s.tk b).testBit i = true → ((pxStep n k f v s).2.tk b).testBit i = true) ∧ (s.of b ≠ 0 → (pxStep n k f v s).2.of b = s.of b) := by
  unfold pxStep
  repeat' split
  all_goals first
    | exact ⟨fun _ h => h, fun _ => rfl⟩
    | (rename_i h1 h2 h3 h4 h5 h6 h7
       refine ⟨fun _ h => h, fun hb => ?_⟩
       show upd s.of v.toNat _ b = s.of b
       exact upd_ne _ _ (fun e => by subst e; omega))
    | (refine ⟨fun i h => ?_, fun _ => rfl⟩
       show (upd s.tk v.toNat _ b).testBit i = true
       rw [upd_apply]; split
       · rename_i e; subst e; exact (testBit_put _ _ _).2 (.inl h)
       · exact h)
theorem pxE_grows (n : Nat) (M : Mv) (j d b : Nat) : (∀ i, ((pxE n M j).tk b).testBit i = true → ((pxE n M (j + d)).tk b).testBit i = true) ∧ ((pxE n M j).of b ≠ 0 → (pxE n M (j + d)).of b = (pxE n M j).of b) := by
  induction d with
  | zero => exact ⟨fun _ h => h, fun _ => rfl⟩
  | succ d ih =>
    have h := px_grows n (M.k (j + d)) (M.f (j + d)) (M.v (j + d)) (pxE n M (j + d)) b
    exact ⟨fun i hi => h.1 i (ih.1 i hi), fun ho => by
      have h1 := ih.2 ho
      rw [← h1]
      exact h.2 (by rw [h1]; exact ho)⟩
/-- What is chosen stays chosen. -/
theorem px_stays {n : Nat} (hn : n ≤ 32) (M : Mv) {i m : Nat} (him : i ≤ m) (hq : (pxE n M i).ch ≠ -1) : (pxE n M m).ch = (pxE n M i).ch := by
  obtain ⟨d, rfl⟩ := Nat.exists_eq_add_of_le him
  have hi := PI.all hn M i
  have hm := PI.all hn M (i + d)
  rcases hi.chk with ⟨h1, _⟩ | ⟨b, h1, h2⟩
  · exact absurd h1 hq
  · have hg := pxE_grows n M i d b
    obtain ⟨j, _, hj⟩ := hi.some_bit hn h1
    have h3 : n < 2 * pop ((pxE n M (i + d)).tk b) := by have := pop_sub hg.1; omega
    rw [hm.chosen hn h3, hg.2 (hi.tkT b j hj).2.2, h2]
end Go.Proofs.Ytpicmphimcgklaa
