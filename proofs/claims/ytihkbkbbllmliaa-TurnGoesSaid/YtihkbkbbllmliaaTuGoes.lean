/- turn: eight rounds empty all ways. -/
import Derived.Test.YtihkbkbbllmliaaTuLaw
import Derived.Test.YtihkbkbbllmliaaDrain
set_option linter.unusedVariables false
set_option linter.unusedSimpArgs false
namespace Go.Proofs.Ytihkbkbbllmliaa

theorem tuE_congr {n : Nat} {M N : Mv} : ∀ {q : Nat}, (∀ j, j < q → M.k j = N.k j ∧ M.f j = N.f j ∧ M.t j = N.t j ∧ M.v j = N.v j) → tuE n M q = tuE n N q
  | 0, _ => rfl
  | q + 1, h => by
    obtain ⟨h1, h2, h3, _⟩ := h q (by omega)
    rw [tuE, tuE, tuE_congr fun j hj => h j (by omega), h1, h2, h3]
theorem tuE_push (n : Nat) (M : Mv) (q : Nat) (k f t v : Int) : tuE n (M.push q k f t v) (q + 1) = (tuStep n k f t (tuE n M q)).2 := by
  obtain ⟨h1, h2, h3, _⟩ := push_at M q k f t v
  rw [tuE, h1, h2, h3, tuE_congr fun j hj => push_other M q k f t v (by omega)]
theorem tuE_app (n : Nat) (M : Mv) (m : Nat) (N : Mv) : tuE n (M.app m N) m = tuE n M m := tuE_congr fun j hj => app_old M m N hj
/-- How far the last ask stands. -/
def lastA : List Int → Nat
  | [] => 0
  | x :: l => if 0 < lastA l then lastA l + 1 else if x = 0 then 0 else 1
theorem lastA_tail (x : Int) (l : List Int) : lastA l ≤ lastA (x :: l) - 1 := by
  rw [lastA]; split <;> omega
theorem lastA_pos {x : Int} {l : List Int} (h : x ≠ 0) : 0 < lastA (x :: l) := by
  rw [lastA]; split
  · omega
  · first | omega | (rw [if_neg h]; omega)
theorem lastA_app0 (l : List Int) : lastA (l ++ [0]) = lastA l := by
  induction l with
  | nil => rfl
  | cons x l ih => rw [List.cons_append, lastA, lastA, ih]
theorem lastA_len (l : List Int) : lastA l ≤ l.length := by
  induction l with
  | nil => exact Nat.le_refl _
  | cons x l ih => rw [lastA, List.length_cons]; split
                   · omega
                   · split <;> omega
def doneP (i j : Nat) (p : Nat × Nat) : Prop := p.1 < i ∨ (p.1 = i ∧ p.2 < j)
instance (i j : Nat) (p : Nat × Nat) : Decidable (doneP i j p) := by unfold doneP; infer_instance
structure MidU (n k i j : Nat) (s : TS) : Prop where
  J : TJ n s
  la : ∀ p : Nat × Nat, p.1 < n → p.2 < n → p.1 ≠ p.2 → lastA (s.way p) ≤ if doneP i j p then 2 - (k + 1) else 2 - k
  ln : 2 ≤ k → ∀ p : Nat × Nat, p.1 < n → p.2 < n → p.1 ≠ p.2 → (s.way p).length ≤ if doneP i j p then 4 - (k + 1) else 4 - k
theorem MidU.start {n : Nat} {s : TS} (h : TJ n s) : MidU n 0 0 0 s := by
  refine ⟨h, fun p _ _ _ => ?_, fun hk => absurd hk (by omega)⟩
  rw [if_neg (by unfold doneP; omega)]
  have h1 := lastA_len (s.way p)
  have h2 := h.few p
  have h3 := n_len (s.way p)
  omega
theorem MidU.same {n k i j i' j' : Nat} {s : TS} (h : MidU n k i j s) (hd : ∀ p : Nat × Nat, p.1 < n → p.2 < n → p.1 ≠ p.2 → (doneP i' j' p ↔ doneP i j p)) : MidU n k i' j' s := by
  refine ⟨h.J, fun p h1 h2 h3 => ?_, fun hk p h1 h2 h3 => ?_⟩
  · have := h.la p h1 h2 h3
    by_cases e : doneP i j p
    · rw [if_pos e] at this; rw [if_pos ((hd p h1 h2 h3).2 e)]; exact this
    · rw [if_neg e] at this; rw [if_neg (fun e' => e ((hd p h1 h2 h3).1 e'))]; exact this
  · have := h.ln hk p h1 h2 h3
    by_cases e : doneP i j p
    · rw [if_pos e] at this; rw [if_pos ((hd p h1 h2 h3).2 e)]; exact this
    · rw [if_neg e] at this; rw [if_neg (fun e' => e ((hd p h1 h2 h3).1 e'))]; exact this
theorem MidU.skip {n k i : Nat} {s : TS} (h : MidU n k i i s) : MidU n k i (i + 1) s := h.same fun p _ _ hp => by unfold doneP; omega
theorem MidU.line {n k i : Nat} {s : TS} (h : MidU n k i n s) : MidU n k (i + 1) 0 s := h.same fun p _ hp _ => by unfold doneP; omega
theorem MidU.round {n k : Nat} {s : TS} (h : MidU n k n 0 s) : MidU n (k + 1) 0 0 s := by
  have hd : ∀ p : Nat × Nat, p.1 < n → doneP n 0 p := fun p hp => .inl hp
  have hn : ∀ p : Nat × Nat, ¬ doneP 0 0 p := fun p => by unfold doneP; omega
  refine ⟨h.J, fun p h1 h2 h3 => ?_, fun hk p h1 h2 h3 => ?_⟩
  · have := h.la p h1 h2 h3
    rw [if_pos (hd p h1)] at this
    rw [if_neg (hn p)]; exact this
  · rw [if_neg (hn p)]
    by_cases hk2 : 2 ≤ k
    · have := h.ln hk2 p h1 h2 h3
      rw [if_pos (hd p h1)] at this
      exact this
    · have h2 := h.J.few p
      have h3 := n_len (s.way p)
      omega
theorem MidU.take {n k i j : Nat} {s : TS} (h : MidU n k i j s) (hi : i < n) (hj : j < n) (hij : i ≠ j) : MidU n k i (j + 1) (tuStep n 2 i j s).2 := by
  have hJ : TJ n (tuStep n 2 i j s).2 := by
    obtain ⟨⟨num, h1⟩, h2⟩ := h.J
    obtain ⟨num', h3, h4⟩ := h1.next (k := 2) (f := i) (t := j) h2
    exact ⟨⟨num', h3⟩, h4⟩
  have hs : tuStep n 2 i j s = comeS n i j s := by
    rw [tu_come, if_neg (by simp; omega), Int.toNat_natCast, Int.toNat_natCast]
  have hd : ∀ p : Nat × Nat, doneP i (j + 1) p ↔ doneP i j p ∨ p = (i, j) := fun p => by
    unfold doneP
    constructor
    · rintro (h1 | ⟨h1, h2⟩)
      · exact .inl (.inl h1)
      · by_cases e : p.2 = j
        · exact .inr (Prod.ext h1 e)
        · exact .inl (.inr ⟨h1, by omega⟩)
    · rintro ((h1 | ⟨h1, h2⟩) | rfl)
      · exact .inl h1
      · exact .inr ⟨h1, by omega⟩
      · exact .inr ⟨rfl, by omega⟩
  have hno : ¬ doneP i j (i, j) := by unfold doneP; simp
  have la0 := h.la (i, j) hi hj hij
  rw [if_neg hno] at la0
  -- what the way is like behind the take
  have key : (∀ p, lastA ((comeS n i j s).2.way p) ≤ if p = (i, j) then lastA (s.way p) - 1 else lastA (s.way p)) ∧ (2 ≤ k → ∀ p, ((comeS n i j s).2.way p).length ≤ if p = (i, j) then (s.way p).length - 1 else (s.way p).length) := by
    have en : ∀ (i : Nat) (s : TS), (enterS n i s).way = s.way := fun i s => by unfold enterS; split <;> rfl
    unfold comeS
    split
    · rename_i hw
      refine ⟨fun p => ?_, fun _ p => ?_⟩
      · show lastA (s.way p) ≤ _
        by_cases e : p = (i, j)
        · subst e; rw [hw]; simp [lastA]
        · rw [if_neg e]; exact Nat.le_refl _
      · show (s.way p).length ≤ _
        by_cases e : p = (i, j)
        · subst e; rw [hw]; simp
        · rw [if_neg e]; exact Nat.le_refl _
    · rename_i x l hw
      have hpop : ∀ p, lastA (qput s.way (i, j) l p) ≤ if p = (i, j) then lastA (s.way p) - 1 else lastA (s.way p) := fun p => by
        by_cases e : p = (i, j)
        · subst e; rw [qput_same, if_pos rfl, hw]; exact lastA_tail x l
        · rw [qput_ne e, if_neg e]; exact Nat.le_refl _
      have hpl : ∀ p, (qput s.way (i, j) l p).length ≤ if p = (i, j) then (s.way p).length - 1 else (s.way p).length := fun p => by
        by_cases e : p = (i, j)
        · subst e; rw [qput_same, if_pos rfl, hw]; simp
        · rw [qput_ne e, if_neg e]; exact Nat.le_refl _
      show (∀ p, lastA ((comeT n i j x l s).way p) ≤ _) ∧ (2 ≤ k → ∀ p, ((comeT n i j x l s).way p).length ≤ _)
      unfold comeT
      by_cases hx : x = 0
      · rw [if_pos hx, en]
        exact ⟨hpop, fun _ => hpl⟩
      · rw [if_neg hx]
        have hk2 : ¬ 2 ≤ k := fun hk => by
          have := lastA_pos (l := l) hx
          rw [hw] at la0
          omega
        split
        · exact ⟨hpop, fun hk => absurd hk hk2⟩
        · refine ⟨fun p => ?_, fun hk => absurd hk hk2⟩
          show lastA (qput (qput s.way (i, j) l) (j, i) (qput s.way (i, j) l (j, i) ++ [0]) p) ≤ _
          by_cases e : p = (j, i)
          · subst e
            rw [qput_same, lastA_app0]
            exact hpop _
          · rw [qput_ne e]; exact hpop p
  rw [hs] at hJ ⊢
  refine ⟨hJ, fun p h1 h2 h3 => ?_, fun hk p h1 h2 h3 => ?_⟩
  · have ha := h.la p h1 h2 h3
    have hb := key.1 p
    by_cases e : p = (i, j)
    · subst e
      rw [if_neg hno] at ha
      rw [if_pos rfl] at hb
      rw [if_pos ((hd _).2 (.inr rfl))]
      omega
    · rw [if_neg e] at hb
      by_cases e2 : doneP i j p
      · rw [if_pos e2] at ha
        rw [if_pos ((hd p).2 (.inl e2))]
        omega
      · rw [if_neg e2] at ha
        rw [if_neg (fun h' => ((hd p).1 h').elim e2 e)]
        omega
  · have ha := h.ln hk p h1 h2 h3
    have hb := key.2 hk p
    by_cases e : p = (i, j)
    · subst e
      rw [if_neg hno] at ha
      rw [if_pos rfl] at hb
      rw [if_pos ((hd _).2 (.inr rfl))]
      omega
    · rw [if_neg e] at hb
      by_cases e2 : doneP i j p
      · rw [if_pos e2] at ha
        rw [if_pos ((hd p).2 (.inl e2))]
        omega
      · rw [if_neg e2] at ha
        rw [if_neg (fun h' => ((hd p).1 h').elim e2 e)]
        omega
/-- The drain, run behind a script. -/
theorem drain_run {n k i j q : Nat} {N : Mv} (h : Dr n k i j N q) (M : Mv) (m : Nat) : MidU n k i j (tuE n (M.app m N) (m + q)) := by
  induction h with
  | start N =>
    rw [Nat.add_zero, tuE_app]
    exact .start (tuE_J n M m)
  | skip _ ih => exact ih.skip
  | take hi hj hij _ ih =>
    rw [app_push, ← Nat.add_assoc, tuE_push]
    exact ih.take hi hj hij
  | line _ ih => exact ih.line
  | round _ ih => exact ih.round
theorem MidU.empty {n : Nat} {s : TS} (h : MidU n 8 0 0 s) (p : Nat × Nat) : s.way p = [] := by
  obtain ⟨⟨num, hI⟩, _⟩ := h.J
  refine Decidable.byContradiction fun hne => ?_
  obtain ⟨h1, h2, h3⟩ := hI.rng p hne
  have := h.ln (by omega) p h1 h2 h3
  rw [if_neg (by unfold doneP; omega)] at this
  exact hne (List.eq_nil_of_length_eq_zero (by omega))
theorem MidU.way0 {n : Nat} {s : TS} (h : MidU n 8 0 0 s) : wayLen n s.way = 0 := by
  have : wayLen n s.way = ((pairs n).map fun _ => 0).sum := by
    unfold wayLen
    congr 1
    exact List.map_congr_left fun p _ => by rw [h.empty p]; rfl
  rw [this]
  generalize pairs n = l
  induction l with
  | nil => rfl
  | cons x l ih => rw [List.map_cons, List.sum_cons, ih]
theorem MidU.goes {n : Nat} {s : TS} (h : MidU n 8 0 0 s) (hw : wantT s n ≠ 0) : inT s n ≠ 0 := by
  have hex : ∃ i, (wantT s n).testBit i = true := Classical.byContradiction fun hno => hw (Nat.eq_of_testBit_eq fun i => by
    rw [Nat.zero_testBit]
    cases hb : (wantT s n).testBit i
    · rfl
    · exact absurd ⟨i, hb⟩ hno)
  obtain ⟨i, hi⟩ := hex
  rw [want_bit] at hi
  simp at hi
  obtain ⟨j, hj, hjn⟩ := h.J.goes h.empty hi.1 hi.2
  intro h0
  have : (inT s n).testBit j = true := by rw [in_bit, hjn]; simpa using hj
  rw [h0, Nat.zero_testBit] at this
  cases this
end Go.Proofs.Ytihkbkbbllmliaa
