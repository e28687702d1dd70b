/- Longest lists of events each of which is ahead of the next one: the plain laws. -/
import Derived.Test.YtkdookhblbjddaaTicks
set_option linter.unusedVariables false
set_option linter.unusedSimpArgs false
namespace Go.Proofs.Ytkdookhblbjddaa

/-- A tick above 1 has one that is ahead, one less. -/
theorem ticks_pred (E : Ev) (j : Nat) : (∀ q, clockT E j q = 0 ∨ ∃ i, (lastW E j q).testBit i = true ∧ tickT E i = clockT E j q) ∧ (∀ x, sentT E j x = 0 ∨ ∃ i, (sentW E j x).testBit i = true ∧ tickT E i = sentT E j x) := by
  induction j with
  | zero => exact ⟨fun q => .inl rfl, fun x => .inl rfl⟩
  | succ j ih =>
    refine ⟨fun q => ?_, fun x => ?_⟩
    · rw [clockT_succ, lastW_succ]
      by_cases hq : q = E.p j
      · rw [if_pos hq, if_pos hq]
        exact .inr ⟨j, (testBit_put _ _ _).2 (.inr rfl), rfl⟩
      · rw [if_neg hq, if_neg hq]; exact ih.1 q
    · rw [sentT_succ, sentW_succ]
      by_cases hq : E.k j = 2 ∧ x = E.m j
      · rw [if_pos hq, if_pos hq]
        exact .inr ⟨j, (testBit_put _ _ _).2 (.inr rfl), rfl⟩
      · rw [if_neg hq, if_neg hq]; exact ih.2 x
theorem tick_pred (E : Ev) (j : Nat) : tickT E j = 1 ∨ ∃ i, Hb E i j ∧ tickT E i + 1 = tickT E j := by
  obtain ⟨h1, h2⟩ := ticks_pred E j
  have key : ∀ m, m = max (clockT E j (E.p j)) (if E.k j = 3 then sentT E j (E.m j) else 0) → m = 0 ∨ ∃ i, Hb E i j ∧ tickT E i = m := by
    intro m hm
    by_cases hk : E.k j = 3
    · rw [if_pos hk] at hm
      rcases Nat.le_total (clockT E j (E.p j)) (sentT E j (E.m j)) with hle | hle
      · rw [Nat.max_eq_right hle] at hm
        rcases h2 (E.m j) with h | ⟨i, hi, he⟩
        · exact .inl (by omega)
        · refine .inr ⟨i, ?_, by omega⟩
          unfold Hb pastW
          rw [if_pos hk, Nat.testBit_or, hi, Bool.or_true]
      · rw [Nat.max_eq_left hle] at hm
        rcases h1 (E.p j) with h | ⟨i, hi, he⟩
        · exact .inl (by omega)
        · refine .inr ⟨i, ?_, by omega⟩
          unfold Hb pastW
          rw [Nat.testBit_or, hi, Bool.true_or]
    · rw [if_neg hk, Nat.max_eq_left (Nat.zero_le _)] at hm
      rcases h1 (E.p j) with h | ⟨i, hi, he⟩
      · exact .inl (by omega)
      · refine .inr ⟨i, ?_, by omega⟩
        unfold Hb pastW
        rw [Nat.testBit_or, hi, Bool.true_or]
  have e : tickT E j = max (clockT E j (E.p j)) (if E.k j = 3 then sentT E j (E.m j) else 0) + 1 := rfl
  rcases key _ rfl with h | ⟨i, hi, he⟩
  · exact .inl (by omega)
  · exact .inr ⟨i, hi, by omega⟩
/-- What left[i] is to be. -/
def LSpec (E : Ev) (len : Nat) (L : Nat → Nat) (i : Nat) : Prop :=
  1 ≤ L i ∧ (L i ≤ len) ∧ (∀ j, i < j → j < len → Hb E i j → L j + 1 ≤ L i) ∧ (L i = 1 ∨ ∃ j, i < j ∧ j < len ∧ Hb E i j ∧ L i = L j + 1)
/-- left[i] while the j below y are seen. -/
def LIn (E : Ev) (L : Nat → Nat) (i y x : Nat) : Prop :=
  1 ≤ x ∧ (∀ j, i < j → j < y → Hb E i j → L j + 1 ≤ x) ∧ (x = 1 ∨ ∃ j, i < j ∧ j < y ∧ Hb E i j ∧ x = L j + 1)
theorem lin_start (E : Ev) (L : Nat → Nat) (i : Nat) : LIn E L i (i + 1) 1 := ⟨Nat.le_refl _, fun j h1 h2 => by omega, .inl rfl⟩
theorem lin_no {E : Ev} {L : Nat → Nat} {i y x : Nat} (h : LIn E L i y x) (hb : (pastW E y).testBit i = false) : LIn E L i (y + 1) x := by
  refine ⟨h.1, fun j h1 h2 h3 => ?_, h.2.2.imp id fun ⟨j, h1, h2, h3⟩ => ⟨j, h1, by omega, h3⟩⟩
  rcases Nat.lt_succ_iff_lt_or_eq.1 h2 with h4 | rfl
  · exact h.2.1 j h1 h4 h3
  · unfold Hb at h3; rw [hb] at h3; cases h3
theorem lin_yes {E : Ev} {L : Nat → Nat} {i y x : Nat} (h : LIn E L i y x) (hy : i < y) (hb : (pastW E y).testBit i = true) : LIn E L i (y + 1) (max x (L y + 1)) := by
  refine ⟨Nat.le_trans h.1 (Nat.le_max_left _ _), fun j h1 h2 h3 => ?_, ?_⟩
  · rcases Nat.lt_succ_iff_lt_or_eq.1 h2 with h4 | rfl
    · exact Nat.le_trans (h.2.1 j h1 h4 h3) (Nat.le_max_left _ _)
    · exact Nat.le_max_right _ _
  · rcases Nat.le_total x (L y + 1) with hle | hle
    · rw [Nat.max_eq_right hle]; exact .inr ⟨y, hy, by omega, hb, rfl⟩
    · rw [Nat.max_eq_left hle]; exact h.2.2.imp id fun ⟨j, h1, h2, h3⟩ => ⟨j, h1, by omega, h3⟩
/-- Below: what the counts from i on are. -/
structure LAll (E : Ev) (len i : Nat) (L : Nat → Nat) (most : Nat) : Prop where
  le : i ≤ len
  sp : ∀ j, i ≤ j → j < len → LSpec E len L j ∧ L j ≤ len - i
  mx : ∀ j, i ≤ j → j < len → L j ≤ most
  at_ : (most = 0 ∧ i = len) ∨ ∃ j, i ≤ j ∧ j < len ∧ L j = most
theorem lall_start (E : Ev) (len : Nat) (L : Nat → Nat) : LAll E len len L 0 := ⟨Nat.le_refl _, fun j h1 h2 => by omega, fun j h1 h2 => by omega, .inl ⟨rfl, rfl⟩⟩
theorem lin_le {E : Ev} {len i most : Nat} {L : Nat → Nat} {x y : Nat} (h : LAll E len (i + 1) L most) (hx : LIn E L i y x) (hy : y ≤ len) : x ≤ len - i := by
  have := h.le
  rcases hx.2.2 with h1 | ⟨j, h1, h2, _, h4⟩
  · omega
  · have := (h.sp j (by omega) (by omega)).2
    omega
theorem lall_step {E : Ev} {len i most : Nat} {L : Nat → Nat} {x : Nat} (h : LAll E len (i + 1) L most) (hx : LIn E L i len x) (L' : Nat → Nat) (h1 : L' i = x) (h2 : ∀ t, t ≠ i → L' t = L t) : LAll E len i L' (max most x) := by
  have hle := h.le
  have hxl := lin_le h hx (Nat.le_refl _)
  have hL : ∀ t, i < t → L' t = L t := fun t ht => h2 t (by omega)
  refine ⟨by omega, fun j h3 h4 => ?_, fun j h3 h4 => ?_, .inr ?_⟩
  · by_cases e : j = i
    · subst e
      rw [LSpec, h1]
      refine ⟨⟨hx.1, by omega, fun t ht hl hb => ?_, hx.2.2.imp id fun ⟨t, t1, t2, t3, t4⟩ => ⟨t, t1, t2, t3, by rw [hL t t1]; exact t4⟩⟩, hxl⟩
      rw [hL t ht]; exact hx.2.1 t ht hl hb
    · obtain ⟨⟨a1, a2, a3, a4⟩, a5⟩ := h.sp j (by omega) h4
      rw [LSpec, hL j (by omega)]
      refine ⟨⟨a1, a2, fun t ht hl hb => ?_, a4.imp id fun ⟨t, t1, t2, t3, t4⟩ => ⟨t, t1, t2, t3, by rw [hL t (by omega)]; exact t4⟩⟩, by omega⟩
      rw [hL t (by omega)]; exact a3 t ht hl hb
  · by_cases e : j = i
    · subst e; rw [h1]; exact Nat.le_max_right _ _
    · rw [hL j (by omega)]; exact Nat.le_trans (h.mx j (by omega) h4) (Nat.le_max_left _ _)
  · rcases Nat.le_total most x with hm | hm
    · rw [Nat.max_eq_right hm]; exact ⟨i, Nat.le_refl _, by omega, h1⟩
    · rw [Nat.max_eq_left hm]
      rcases h.at_ with ⟨m0, _⟩ | ⟨j, j1, j2, j3⟩
      · have := hx.1; omega
      · exact ⟨j, by omega, j2, by rw [hL j (by omega)]; exact j3⟩
/-- The greatest tick and the longest list. -/
theorem most_ticks {E : Ev} {len : Nat} {L : Nat → Nat} {most : Nat} (h : LAll E len 0 L most) : (∀ j, j < len → tickT E j ≤ most) ∧ (most = 0 ∧ len = 0 ∨ ∃ j, j < len ∧ tickT E j ≥ most) := by
  have sp : ∀ j, j < len → LSpec E len L j := fun j hj => (h.sp j (Nat.zero_le _) hj).1
  constructor
  · have key : ∀ t j, j < len → tickT E j = t → ∀ y, y ≤ L j → t + y ≤ most + 1 := by
      intro t
      induction t with
      | zero => intro j _ ht; have := (ticks_le E j).2.2.1; omega
      | succ t ih =>
        intro j hj ht y hy
        rcases tick_pred E j with h1 | ⟨i, hi, he⟩
        · have := h.mx j (Nat.zero_le _) hj; omega
        · have hij := hi.lt
          have := (sp i (by omega)).2.2.1 j hij hj hi
          have := ih i (by omega) (by omega) (y + 1) (by omega)
          omega
    intro j hj
    have := key _ j hj rfl 1 (sp j hj).1
    omega
  · rcases h.at_ with ⟨h1, h2⟩ | ⟨j, _, hj, he⟩
    · exact .inl ⟨h1, h2.symm⟩
    · refine .inr ?_
      have key : ∀ l j, j < len → L j = l → ∃ t, t < len ∧ tickT E t + 1 ≥ tickT E j + l := by
        intro l
        induction l with
        | zero => intro j hj hl; have := (sp j hj).1; omega
        | succ l ih =>
          intro j hj hl
          rcases (sp j hj).2.2.2 with h1 | ⟨i, hi, hil, hb, he⟩
          · exact ⟨j, hj, by omega⟩
          · obtain ⟨t, ht, hh⟩ := ih i hil (by omega)
            have := (tick_rises E i).2.2 j hb
            exact ⟨t, ht, by omega⟩
      obtain ⟨t, ht, hh⟩ := key _ j hj rfl
      have := (ticks_le E j).2.2.1
      exact ⟨t, ht, by omega⟩
/-- The scan: k are picked among the first i. -/
structure Scan (E : Ev) (len : Nat) (L : Nat → Nat) (most i k : Nat) (O : Nat → Nat) : Prop where
  ile : i ≤ len
  kle : k ≤ most
  z : k = 0 → ∀ x, x < i → L x ≠ most
  on : ∀ t, t < k → O t < i ∧ L (O t) + t = most
  hb : ∀ t, t + 1 < k → Hb E (O t) (O (t + 1))
  no : 0 < k → ∀ x, O (k - 1) < x → x < i → Hb E (O (k - 1)) x → L x + k ≠ most
theorem scan_start (E : Ev) (len : Nat) (L : Nat → Nat) (most : Nat) (O : Nat → Nat) : Scan E len L most 0 0 O := ⟨Nat.zero_le _, Nat.zero_le _, fun _ x hx => absurd hx (by omega), fun t ht => absurd ht (by omega), fun t ht => absurd ht (by omega), fun h => absurd h (by omega)⟩
theorem scan_skip {E : Ev} {len : Nat} {L : Nat → Nat} {most i k : Nat} {O : Nat → Nat} (h : Scan E len L most i k O) (hi : i < len) (hno : L i + k = most → 0 < k ∧ ¬ Hb E (O (k - 1)) i) : Scan E len L most (i + 1) k O := by
  refine ⟨by omega, h.kle, fun hk x hx => ?_, fun t ht => ⟨by have := (h.on t ht).1; omega, (h.on t ht).2⟩, h.hb, fun hk x h1 h2 h3 => ?_⟩
  · rcases Nat.lt_succ_iff_lt_or_eq.1 hx with h4 | rfl
    · exact h.z hk x h4
    · intro e
      have := (hno (by omega)).1
      omega
  · rcases Nat.lt_succ_iff_lt_or_eq.1 h2 with h4 | rfl
    · exact h.no hk x h1 h4 h3
    · exact fun e => (hno e).2 h3
theorem scan_take {E : Ev} {len : Nat} {L : Nat → Nat} {most i k : Nat} {O : Nat → Nat} (hL : ∀ j, j < len → 1 ≤ L j) (h : Scan E len L most i k O) (hi : i < len) (he : L i + k = most) (hy : k = 0 ∨ Hb E (O (k - 1)) i) : Scan E len L most (i + 1) (k + 1) (fun t => if t = k then i else O t) := by
  have h1 := hL i hi
  refine ⟨by omega, by omega, fun h => absurd h (by omega), fun t ht => ?_, fun t ht => ?_, fun _ x h2 h3 => ?_⟩
  · by_cases e : t = k
    · subst e; simp; exact he
    · have := h.on t (by omega)
      simp only [if_neg e]
      omega
  · have e : t ≠ k := by omega
    by_cases e2 : t + 1 = k
    · simp only [if_neg e, if_pos e2]
      rcases hy with h0 | hy
      · omega
      · have : t = k - 1 := by omega
        subst this; exact hy
    · simp only [if_neg e, if_neg e2]
      exact h.hb t (by omega)
  · simp at h2
    omega
theorem scan_end {E : Ev} {len : Nat} {L : Nat → Nat} {most k : Nat} {O : Nat → Nat} (hA : LAll E len 0 L most) (h : Scan E len L most len k O) : k = most := by
  rcases Nat.lt_or_ge k most with hlt | hge
  · exfalso
    rcases Nat.eq_zero_or_pos k with h0 | hp
    · rcases hA.at_ with ⟨m0, _⟩ | ⟨j, _, j2, j3⟩
      · omega
      · exact h.z h0 j j2 j3
    · obtain ⟨o1, o2⟩ := h.on (k - 1) (by omega)
      rcases (hA.sp (O (k - 1)) (Nat.zero_le _) o1).1.2.2.2 with h1 | ⟨j, j1, j2, j3, j4⟩
      · omega
      · exact h.no hp j j1 j2 j3 (by omega)
  · have := h.kle; omega
end Go.Proofs.Ytkdookhblbjddaa
