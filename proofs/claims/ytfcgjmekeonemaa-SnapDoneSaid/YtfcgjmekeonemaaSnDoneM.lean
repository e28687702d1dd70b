/- What SnapDone asks of snap's states: a mark goes through in six rounds. -/
import Derived.Test.YtfcgjmekeonemaaSnLaw
import Derived.Test.YtfcgjmekeonemaaMvApp
set_option linter.unusedVariables false
set_option linter.unusedSimpArgs false
namespace Go.Proofs.Ytfcgjmekeonemaa
open Go.RowKit Go.Maps Go.MapKept

theorem snE_congr {n : Nat} {M N : Mv} : ∀ {q : Nat}, (∀ j, j < q → M.k j = N.k j ∧ M.f j = N.f j ∧ M.t j = N.t j ∧ M.v j = N.v j) → snE n M q = snE n N q
  | 0, _ => rfl
  | q + 1, h => by
    obtain ⟨h1, h2, h3, h4⟩ := h q (by omega)
    rw [snE, snE, snE_congr fun j hj => h j (by omega), h1, h2, h3, h4]
theorem snE_push (n : Nat) (M : Mv) (q : Nat) (k f t v : Int) : snE n (M.push q k f t v) (q + 1) = (snStep n k f t v (snE n M q)).2 := by
  obtain ⟨h1, h2, h3, h4⟩ := push_at M q k f t v
  rw [snE, h1, h2, h3, h4, snE_congr fun j hj => push_other M q k f t v (by omega)]
/-- How many stand ahead of the mark. -/
def ahd : List Int → Nat
  | [] => 0
  | x :: l => if x = 0 then 0 else ahd l + 1
theorem ahd_app0 (l : List Int) : ahd (l ++ [0]) = ahd l := by
  induction l with
  | nil => rfl
  | cons x l ih => rw [List.cons_append, ahd, ahd, ih]
theorem ahd_app (l : List Int) (x : Int) : ahd (l ++ [x]) ≤ ahd l + 1 := by
  induction l with
  | nil => show (if x = 0 then 0 else 0 + 1) ≤ 0 + 1; split <;> omega
  | cons y l ih => rw [List.cons_append, ahd, ahd]; split <;> omega
theorem ahd_tail {x : Int} {l : List Int} (hm : mks (x :: l) ≤ 1) : ahd l ≤ ahd (x :: l) - 1 ∨ (x = 0 ∧ mks l = 0) := by
  rw [ahd]
  by_cases hx : x = 0
  · subst hx
    right
    rw [mks, if_pos rfl] at hm
    exact ⟨rfl, by omega⟩
  · left
    rw [if_neg hx]; omega
theorem ahd_rec (n i : Nat) (s : SN) (p : Nat × Nat) : ahd ((recS n i s).way p) = ahd (s.way p) := by
  unfold recS
  split
  · rfl
  · show ahd (marks i n s.way p) = _
    rw [marks_at]; split
    · exact ahd_app0 _
    · rfl
/-- For ways that are closed nothing is asked. -/
def ahN (s : SN) (p : Nat × Nat) : Nat := if s.closed p = true then 0 else ahd (s.way p)
theorem ahN_step {n : Nat} {k f t v : Int} {s : SN} {m : Nat} (hJ : SJ n s) (h : ∀ p, ahN s p ≤ m) : ∀ p, ahN (snStep n k f t v s).2 p ≤ m + 1 := by
  intro p
  have hp := h p
  have hr : ∀ i, ahN (recS n i s) p ≤ m + 1 := fun i => by
    unfold ahN at hp ⊢
    rw [recS_closed, ahd_rec]; omega
  unfold snStep
  split
  · exact Nat.le_succ_of_le hp
  split
  · exact Nat.le_succ_of_le hp
  split
  · unfold takeN
    split
    · exact Nat.le_succ_of_le hp
    · rename_i x l hw
      have hmk : mks (x :: l) ≤ 1 := by rw [← hw, hJ.mkn]; split <;> omega
      have hl : ¬ x = 0 → s.closed (f.toNat, t.toNat) = false → ahd l ≤ m := fun hx hc => by
        have h2 := h (f.toNat, t.toNat)
        unfold ahN at h2
        rw [hc, if_neg (by simp), hw, ahd, if_neg hx] at h2
        omega
      unfold takeT
      split
      · show (if qput s.closed (f.toNat, t.toNat) true p = true then 0 else ahd ((recS n t.toNat { s with way := qput s.way (f.toNat, t.toNat) l }).way p)) ≤ m + 1
        rw [ahd_rec, qput_at]
        by_cases e : p = (f.toNat, t.toNat)
        · rw [if_pos e, if_pos rfl]; omega
        · rw [if_neg e]
          show (if s.closed p = true then 0 else ahd (qput s.way (f.toNat, t.toNat) l p)) ≤ m + 1
          rw [qput_ne e]
          exact Nat.le_succ_of_le hp
      · rename_i hx
        show (if s.closed p = true then 0 else ahd (qput s.way (f.toNat, t.toNat) l p)) ≤ m + 1
        by_cases e : p = (f.toNat, t.toNat)
        · subst e
          rw [qput_same]
          split
          · omega
          · rename_i hc
            have := hl hx (by simpa using hc)
            omega
        · rw [qput_ne e]
          exact Nat.le_succ_of_le hp
  split
  · split
    · exact Nat.le_succ_of_le hp
    · exact hr _
  split
  · exact Nat.le_succ_of_le hp
  · show (if s.closed p = true then 0 else ahd (qput s.way (f.toNat, t.toNat) (s.way (f.toNat, t.toNat) ++ [v]) p)) ≤ m + 1
    by_cases e : p = (f.toNat, t.toNat)
    · subst e
      rw [qput_same]
      unfold ahN at hp
      split
      · omega
      · rename_i hc
        rw [if_neg hc] at hp
        have := ahd_app (s.way (f.toNat, t.toNat)) v
        omega
    · rw [qput_ne e]
      exact Nat.le_succ_of_le hp
theorem ahN_all (n : Nat) (M : Mv) : ∀ j p, ahN (snE n M j) p ≤ j
  | 0, p => by unfold ahN; split <;> exact Nat.le_refl _
  | j + 1, p => ahN_step (snE_J n M j) (ahN_all n M j) p
/-- One take. -/
theorem take_ah {n i j : Nat} {s : SN} (hJ : SJ n s) (hi : i < n) (hj : j < n) (hij : i ≠ j) : (∀ p, ahN (takeN n i j s).2 p ≤ ahN s p) ∧ ahN (takeN n i j s).2 (i, j) ≤ ahN s (i, j) - 1 ∧
    (s.rec_ i = true → ahN s (i, j) = 0 → (takeN n i j s).2.closed (i, j) = true) ∧ (∀ a, s.rec_ a = true → (takeN n i j s).2.rec_ a = true) ∧ (∀ p, s.closed p = true → (takeN n i j s).2.closed p = true) ∧ SJ n (takeN n i j s).2 := by
  have hmk := hJ.mkn (i, j)
  have e1 : s.way (i, j) = [] → takeN n i j s = (5, s) := fun h => by unfold takeN; rw [h]
  have e2 : ∀ x l, s.way (i, j) = x :: l → takeN n i j s = (0, takeT n i j x l s) := fun x l h => by unfold takeN; rw [h]
  cases hw : s.way (i, j) with
  | nil =>
    rw [e1 hw]
    refine ⟨fun p => Nat.le_refl _, ?_, fun hr h0 => ?_, fun _ h => h, fun _ h => h, hJ⟩
    · unfold ahN
      split
      · omega
      · show ahd (s.way (i, j)) ≤ _
        rw [hw]; simp [ahd]
    · rw [hw] at hmk
      cases hc : s.closed (i, j) with
      | true => rfl
      | false =>
        rw [if_pos (c := s.rec_ (i, j).1 = true ∧ _) ⟨hr, fun e => hij e.symm, hj, hc⟩] at hmk
        simp [mks] at hmk
  | cons x l =>
    have hSJ := hJ.take hi hj hij hw
    rw [hw] at hmk
    rw [e2 x l hw]
    have hst : (∀ a, s.rec_ a = true → (takeT n i j x l s).rec_ a = true) ∧ ∀ p, s.closed p = true → (takeT n i j x l s).closed p = true := by
      unfold takeT
      split
      · refine ⟨fun a h => recS_rec n j _ h, fun p h => ?_⟩
        show qput s.closed (i, j) true p = true
        rw [qput_at]; split
        · rfl
        · exact h
      · exact ⟨fun _ h => h, fun _ h => h⟩
    have hle : ∀ p, ahN (takeT n i j x l s) p ≤ if p = (i, j) then ahN s p - 1 else ahN s p := by
      intro p
      unfold takeT
      by_cases hx : x = 0
      · rw [if_pos hx]
        show (if qput s.closed (i, j) true p = true then 0 else ahd ((recS n j { s with way := qput s.way (i, j) l }).way p)) ≤ _
        rw [ahd_rec, qput_at]
        by_cases e : p = (i, j)
        · rw [if_pos e, if_pos rfl]; omega
        · rw [if_neg e, if_neg e]
          show (if s.closed p = true then 0 else ahd (qput s.way (i, j) l p)) ≤ _
          rw [qput_ne e]
          exact Nat.le_refl _
      · rw [if_neg hx]
        show (if s.closed p = true then 0 else ahd (qput s.way (i, j) l p)) ≤ _
        by_cases e : p = (i, j)
        · subst e
          rw [qput_same, if_pos rfl]
          unfold ahN
          split
          · omega
          · rw [hw, ahd, if_neg hx]; omega
        · rw [qput_ne e, if_neg e]
          exact Nat.le_refl _
    refine ⟨fun p => ?_, ?_, fun hr h0 => ?_, hst.1, hst.2, hSJ⟩
    · have := hle p
      show ahN (takeT n i j x l s) p ≤ ahN s p
      split at this <;> omega
    · have := hle (i, j)
      rw [if_pos rfl] at this
      exact this
    · cases hc : s.closed (i, j) with
      | true => exact hst.2 _ hc
      | false =>
        unfold ahN at h0
        rw [hc, if_neg (by simp), hw, ahd] at h0
        have hx : x = 0 := Decidable.byContradiction fun hx => by rw [if_neg hx] at h0; omega
        unfold takeT
        rw [if_pos hx]
        exact qput_same _ _ _
def doneP (i j : Nat) (p : Nat × Nat) : Prop := p.1 < i ∨ (p.1 = i ∧ p.2 < j)
instance (i j : Nat) (p : Nat × Nat) : Decidable (doneP i j p) := by unfold doneP; infer_instance
/-- In round k, ahead of the turn of way (i, j). -/
structure MidN (n k i j : Nat) (s : SN) : Prop where
  J : SJ n s
  r0 : s.rec_ 0 = true
  ah : ∀ p : Nat × Nat, p.1 < n → p.2 < n → p.1 ≠ p.2 → ahN s p ≤ if doneP i j p then 4 - (k + 1) else 4 - k
  rc : 5 ≤ k → ∀ a, a < n → s.rec_ a = true
  c0 : 4 ≤ k → ∀ p : Nat × Nat, p.1 < n → p.2 < n → p.1 ≠ p.2 → doneP i j p → (p.1 = 0 ∨ 5 ≤ k) → s.closed p = true
theorem MidN.skip {n k i : Nat} {s : SN} (h : MidN n k i i s) : MidN n k i (i + 1) s := by
  have hd : ∀ p : Nat × Nat, p.1 ≠ p.2 → (doneP i (i + 1) p ↔ doneP i i p) := fun p hp => by unfold doneP; omega
  refine ⟨h.J, h.r0, fun p h1 h2 h3 => ?_, h.rc, fun hk p h1 h2 h3 hd1 => h.c0 hk p h1 h2 h3 ((hd p h3).1 hd1)⟩
  have := h.ah p h1 h2 h3
  by_cases e : doneP i i p
  · rw [if_pos e] at this; rw [if_pos ((hd p h3).2 e)]; exact this
  · rw [if_neg e] at this; rw [if_neg (fun e' => e ((hd p h3).1 e'))]; exact this
theorem MidN.line {n k i : Nat} {s : SN} (h : MidN n k i n s) : MidN n k (i + 1) 0 s := by
  have hd : ∀ p : Nat × Nat, p.2 < n → (doneP (i + 1) 0 p ↔ doneP i n p) := fun p hp => by unfold doneP; omega
  refine ⟨h.J, h.r0, fun p h1 h2 h3 => ?_, h.rc, fun hk p h1 h2 h3 hd1 => h.c0 hk p h1 h2 h3 ((hd p h2).1 hd1)⟩
  have := h.ah p h1 h2 h3
  by_cases e : doneP i n p
  · rw [if_pos e] at this; rw [if_pos ((hd p h2).2 e)]; exact this
  · rw [if_neg e] at this; rw [if_neg (fun e' => e ((hd p h2).1 e'))]; exact this
theorem MidN.round {n k : Nat} {s : SN} (h : MidN n k n 0 s) : MidN n (k + 1) 0 0 s := by
  have hd : ∀ p : Nat × Nat, p.1 < n → doneP n 0 p := fun p hp => .inl hp
  have hn : ∀ p : Nat × Nat, ¬ doneP 0 0 p := fun p => by unfold doneP; omega
  refine ⟨h.J, h.r0, fun p h1 h2 h3 => ?_, fun hk a ha => ?_, fun hk p h1 h2 h3 hd1 => absurd hd1 (hn p)⟩
  · have := h.ah p h1 h2 h3
    rw [if_pos (hd p h1)] at this
    rw [if_neg (hn p)]
    exact this
  · by_cases e : a = 0
    · subst e; exact h.r0
    · have hn0 := h.J.rc 0 h.r0
      exact (h.J.cl (0, a) (h.c0 (by omega) (0, a) hn0 ha (fun e' => e e'.symm) (hd _ hn0) (.inl rfl))).2.2.2.2
theorem MidN.take {n k i j : Nat} {s : SN} (h : MidN n k i j s) (hi : i < n) (hj : j < n) (hij : i ≠ j) : MidN n k i (j + 1) (snStep n 2 i j 0 s).2 := by
  have hs : snStep n 2 i j 0 s = takeN n i j s := by
    rw [sn_take, if_neg (by simp; omega), Int.toNat_natCast, Int.toNat_natCast]
  rw [hs]
  obtain ⟨t1, t2, t3, t4, t5, t6⟩ := take_ah h.J hi hj hij
  have hd : ∀ p : Nat × Nat, doneP i (j + 1) p ↔ doneP i j p ∨ p = (i, j) := fun p => by
    unfold doneP
    constructor
    · rintro (h1 | ⟨h1, h2⟩)
      · exact .inl (.inl h1)
      · by_cases e : p.2 = j
        · exact .inr (Prod.ext h1 e)
        · exact .inl (.inr ⟨h1, by omega⟩)
    · rintro ((h1 | ⟨h1, h2⟩) | rfl)
      · exact .inl h1
      · exact .inr ⟨h1, by omega⟩
      · exact .inr ⟨rfl, by omega⟩
  have hno : ¬ doneP i j (i, j) := by unfold doneP; simp
  refine ⟨t6, t4 0 h.r0, fun p h1 h2 h3 => ?_, fun hk a ha => t4 a (h.rc hk a ha), fun hk p h1 h2 h3 hd1 hp => ?_⟩
  · have ha := h.ah p h1 h2 h3
    have hb := t1 p
    by_cases e : p = (i, j)
    · subst e
      rw [if_neg hno] at ha
      rw [if_pos ((hd _).2 (.inr rfl))]
      omega
    · by_cases e2 : doneP i j p
      · rw [if_pos e2] at ha
        rw [if_pos ((hd p).2 (.inl e2))]
        omega
      · rw [if_neg e2] at ha
        rw [if_neg (fun h' => ((hd p).1 h').elim e2 e)]
        omega
  · rcases (hd p).1 hd1 with h4 | rfl
    · exact t5 p (h.c0 hk p h1 h2 h3 h4 hp)
    · have ha := h.ah (i, j) h1 h2 h3
      rw [if_neg hno] at ha
      refine t3 ?_ (by omega)
      rcases hp with hp | hp
      · have hp : i = 0 := hp
        rw [hp]; exact h.r0
      · exact h.rc hp i hi
theorem MidN.fin {n : Nat} {s : SN} (h : MidN n 6 0 0 s) (h5 : ∀ a b, a < n → b < n → a ≠ b → s.closed (a, b) = true) (hn : n ≤ 6) : snDone n s = true :=
  (done_iff h.J hn).2 ⟨h5, h.rc (by omega)⟩
/-- Behind the script and the mark. -/
theorem mid_start {n m : Nat} (hn : 1 ≤ n) (hm : m ≤ 4) (M : Mv) : MidN n 0 0 0 (snStep n 3 0 0 0 (snE n M m)).2 := by
  have hJ := snE_J n M m
  have hs : (snStep n 3 0 0 0 (snE n M m)).2 = recS n 0 (snE n M m) := by
    rw [sn_mark, if_neg (by simp; omega)]
    show (if (snE n M m).rec_ 0 = true then ((7 : Int), snE n M m) else (0, recS n 0 (snE n M m))).2 = _
    split
    · rename_i h
      unfold recS
      rw [if_pos h]
    · rfl
  rw [hs]
  obtain ⟨h1, h2⟩ := hJ.record (i := 0) (by omega)
  refine ⟨h1, h2, fun p _ _ _ => ?_, fun hk => absurd hk (by omega), fun hk => absurd hk (by omega)⟩
  rw [if_neg (by unfold doneP; omega)]
  have := ahN_all n M m p
  unfold ahN at this ⊢
  rw [recS_closed, ahd_rec]
  omega
end Go.Proofs.Ytfcgjmekeonemaa
