/- turn's state and its laws, without a program. -/
import Derived.Test.YtihkbkbbllmliaaWayQ
import Derived.Test.YtihkbkbbllmliaaBits
set_option linter.unusedVariables false
set_option linter.unusedSimpArgs false
namespace Go.Proofs.Ytihkbkbbllmliaa

structure One where
  ck : Int
  ask : Int
  inn : Bool
  hv : Nat
  wt : Nat
structure TS where
  p : Nat → One
  way : Nat × Nat → List Int
def TS0 : TS := ⟨fun _ => ⟨0, 0, false, 0, 0⟩, fun _ => []⟩
def enterS (n i : Nat) (s : TS) : TS := if 0 < (s.p i).ask ∧ (s.p i).hv ||| 2 ^ i = 2 ^ n - 1 then { s with p := upd s.p i { s.p i with inn := true, ask := 0 } } else s
def asksTo (i j : Nat) (x : Int) (q : Nat × Nat → List Int) : Nat × Nat → List Int := fun p => if p.1 = i ∧ p.2 ≠ i ∧ p.2 < j then q p ++ [x] else q p
def leavesTo (i j w : Nat) (q : Nat × Nat → List Int) : Nat × Nat → List Int := fun p => if p.1 = i ∧ p.2 < j ∧ w.testBit p.2 = true then q p ++ [0] else q p
def wantP (i n : Nat) (s : TS) : TS := { s with p := upd s.p i { s.p i with ck := (s.p i).ck + 1, ask := (s.p i).ck + 1, hv := 0 }, way := asksTo i n ((s.p i).ck + 1) s.way }
def wantS (n i : Nat) (s : TS) : Int × TS := if (s.p i).inn = true ∨ 0 < (s.p i).ask then (7, s) else (0, enterS n i (wantP i n s))
def later (t f : Nat) (x : Int) (o : One) : Prop := o.inn = true ∨ (0 < o.ask ∧ (o.ask < x ∨ (o.ask = x ∧ t < f)))
instance (t f : Nat) (x : Int) (o : One) : Decidable (later t f x o) := by unfold later; infer_instance
def leaveT (f t : Nat) (l : List Int) (s : TS) : TS := { s with p := upd s.p t { s.p t with hv := (s.p t).hv ||| 2 ^ f }, way := qput s.way (f, t) l }
def deferT (f t : Nat) (x : Int) (l : List Int) (s : TS) : TS := { s with p := upd s.p t { s.p t with ck := max (s.p t).ck x, wt := (s.p t).wt ||| 2 ^ f }, way := qput s.way (f, t) l }
def replyT (f t : Nat) (x : Int) (l : List Int) (s : TS) : TS := { s with p := upd s.p t { s.p t with ck := max (s.p t).ck x }, way := qput (qput s.way (f, t) l) (t, f) (qput s.way (f, t) l (t, f) ++ [0]) }
def comeT (n f t : Nat) (x : Int) (l : List Int) (s : TS) : TS :=
  if x = 0 then enterS n t (leaveT f t l s) else if later t f x (s.p t) then deferT f t x l s else replyT f t x l s
def comeS (n f t : Nat) (s : TS) : Int × TS := match s.way (f, t) with
  | [] => (5, s)
  | x :: l => (0, comeT n f t x l s)
def outP (n i : Nat) (s : TS) : TS := { s with p := upd s.p i { s.p i with inn := false, wt := 0 }, way := leavesTo i n (s.p i).wt s.way }
def outS (n i : Nat) (s : TS) : Int × TS := if (s.p i).inn = false then (7, s) else (0, outP n i s)
def tuBad (n : Nat) (k f t : Int) : Bool := !(decide (0 ≤ f) && decide (f < n)) || (k == 2 && (!(decide (0 ≤ t) && decide (t < n)) || f == t))
def tuStep (n : Nat) (k f t : Int) (s : TS) : Int × TS :=
  if k < 1 ∨ 3 < k then (6, s)
  else if tuBad n k f t then (2, s)
  else if k = 1 then wantS n f.toNat s
  else if k = 2 then comeS n f.toNat t.toNat s
  else outS n f.toNat s
def tuE (n : Nat) (M : Mv) : Nat → TS
  | 0 => TS0
  | j + 1 => (tuStep n (M.k j) (M.f j) (M.t j) (tuE n M j)).2
def tuC (n : Nat) (M : Mv) (j : Nat) : Int := (tuStep n (M.k j) (M.f j) (M.t j) (tuE n M j)).1

/-- Asks and leaves of a way. -/
def nA : List Int → Nat
  | [] => 0
  | x :: l => (if x = 0 then 0 else 1) + nA l
def nL : List Int → Nat
  | [] => 0
  | x :: l => (if x = 0 then 1 else 0) + nL l
theorem nA_app (l : List Int) (x : Int) : nA (l ++ [x]) = nA l + if x = 0 then 0 else 1 := by
  induction l with
  | nil => simp [nA]
  | cons y l ih => rw [List.cons_append, nA, ih, nA]; omega
theorem nL_app (l : List Int) (x : Int) : nL (l ++ [x]) = nL l + if x = 0 then 1 else 0 := by
  induction l with
  | nil => simp [nL]
  | cons y l ih => rw [List.cons_append, nL, ih, nL]; omega
theorem nA_mem {l : List Int} (h : nA l = 0) : ∀ x, x ∈ l → x = 0 := by
  induction l with
  | nil => intro x hx; simp at hx
  | cons y l ih =>
    rw [nA] at h
    have hy : y = 0 := Decidable.byContradiction fun hy => by rw [if_neg hy] at h; omega
    intro x hx
    rcases List.mem_cons.1 hx with rfl | hx
    · exact hy
    · exact ih (by omega) x hx
theorem nA_pos {l : List Int} {x : Int} (hx : x ∈ l) (h0 : x ≠ 0) : 1 ≤ nA l := by
  rcases Nat.eq_zero_or_pos (nA l) with h | h
  · exact absurd (nA_mem h x hx) h0
  · exact h
theorem n_len (l : List Int) : nA l + nL l = l.length := by
  induction l with
  | nil => rfl
  | cons x l ih => rw [nA, nL, List.length_cons]; split <;> omega
def act (o : One) : Bool := o.inn || decide (0 < o.ask)
theorem act_iff {o : One} : act o = true ↔ o.inn = true ∨ 0 < o.ask := by simp [act]
def full (n i : Nat) (o : One) : Prop := o.hv ||| 2 ^ i = 2 ^ n - 1
theorem full_bit {n i j : Nat} {o : One} (h : full n i o) (hj : j < n) (hij : j ≠ i) : o.hv.testBit j = true := by
  have := congrArg (fun a => Nat.testBit a j) h
  simp only [Nat.testBit_or, Nat.testBit_two_pow, Nat.testBit_two_pow_sub_one] at this
  simpa [hj, Ne.symm hij] using this
theorem full_of {n i : Nat} {o : One} (hi : i < n) (hb : o.hv < 2 ^ n) (h : ∀ j, j < n → j ≠ i → o.hv.testBit j = true) : full n i o := by
  apply Nat.eq_of_testBit_eq
  intro j
  rw [Nat.testBit_or, Nat.testBit_two_pow, Nat.testBit_two_pow_sub_one]
  by_cases hj : j < n
  · by_cases e : i = j
    · simp [e, hj]
    · simp [e, hj, h j hj (fun e' => e e'.symm)]
  · rw [Nat.testBit_lt_two_pow (Nat.lt_of_lt_of_le hb (Nat.pow_le_pow_right (by omega) (by omega)))]
    have : i ≠ j := by omega
    simp [this, hj]
/-- Who has been asked for what stands where. -/
def cntT (s : TS) (i j : Nat) : Nat := nA (s.way (i, j)) + ((s.p j).wt.testBit i).toNat + nL (s.way (j, i)) + (act (s.p i) && (s.p i).hv.testBit j).toNat
structure TI (n : Nat) (num : Nat → Int) (s : TS) : Prop where
  rng : ∀ p, s.way p ≠ [] → p.1 < n ∧ p.2 < n ∧ p.1 ≠ p.2
  nn : ∀ p x, x ∈ s.way p → 0 ≤ x
  ckn : ∀ i, 0 ≤ (s.p i).ck ∧ 0 ≤ (s.p i).ask
  low : ∀ i, act (s.p i) = true → i < n
  inz : ∀ i, (s.p i).inn = true → (s.p i).ask = 0
  numa : ∀ i, 0 < (s.p i).ask → num i = (s.p i).ask
  asks : ∀ p x, x ∈ s.way p → x ≠ 0 → act (s.p p.1) = true ∧ x = num p.1
  cnt : ∀ i j, i < n → j < n → i ≠ j → cntT s i j = (act (s.p i)).toNat
  clk : ∀ i j, i < n → j < n → i ≠ j → act (s.p i) = true → nA (s.way (i, j)) = 0 → num i ≤ (s.p j).ck
  pri : ∀ i j, i < n → j < n → i ≠ j → act (s.p i) = true → act (s.p j) = true → ((s.p i).hv.testBit j = true ∨ 0 < nL (s.way (j, i))) → num i < num j ∨ (num i = num j ∧ i < j)
  full : ∀ i, (s.p i).inn = true → full n i (s.p i)
  dfr : ∀ i j, (s.p j).wt.testBit i = true → i < n ∧ j < n ∧ i ≠ j ∧ act (s.p j) = true ∧ ((s.p j).inn = true ∨ num j < num i ∨ (num j = num i ∧ j < i))
  bits : ∀ i, (s.p i).hv < 2 ^ n ∧ (s.p i).wt < 2 ^ n
/-- Nobody waits that might go in. -/
def NF (n : Nat) (s : TS) : Prop := ∀ i, i < n → 0 < (s.p i).ask → ¬ full n i (s.p i)
theorem TI.start (n : Nat) : TI n (fun _ => 0) TS0 := by
  refine ⟨fun p h => absurd rfl h, fun p x h => by simp [TS0] at h, fun i => ⟨Int.le_refl _, Int.le_refl _⟩, fun i h => by simp [TS0, act] at h, fun i h => by simp [TS0] at h, fun i h => by simp [TS0] at h, fun p x h => by simp [TS0] at h,
    fun i j _ _ _ => by simp [cntT, TS0, nA, nL, act], fun i j _ _ _ h => by simp [TS0, act] at h, fun i j _ _ _ h => by simp [TS0, act] at h, fun i h => by simp [TS0] at h, fun i j h => by simp [TS0] at h, fun i => ?_⟩
  have : 0 < 2 ^ n := Nat.pow_pos (by omega)
  exact ⟨this, this⟩
theorem qp (q : Nat × Nat → List Int) (a b : Nat × Nat) (x : List Int) : qput q a x b = if b = a then x else q b := rfl
section
variable {n : Nat} {num : Nat → Int} {s : TS}
theorem act_not {o : One} (h : ¬ (o.inn = true ∨ 0 < o.ask)) : act o = false := by
  cases ha : act o
  · rfl
  · exact absurd (act_iff.1 ha) h
/-- An ask begins. -/
theorem TI.want (h : TI n num s) {a : Nat} (ha : a < n) (hna : ¬ ((s.p a).inn = true ∨ 0 < (s.p a).ask)) : TI n (upd num a ((s.p a).ck + 1)) (wantP a n s) := by
  have hact := act_not hna
  have hc0 := (h.ckn a).1
  have hz : ∀ j, j < n → j ≠ a → nA (s.way (a, j)) = 0 ∧ (s.p j).wt.testBit a = false ∧ nL (s.way (j, a)) = 0 := by
    intro j hj hja
    have := h.cnt a j ha hj (fun e => hja e.symm)
    rw [hact] at this
    unfold cntT at this
    rw [hact] at this
    simp only [Bool.toNat_false, Bool.false_and] at this
    refine ⟨by omega, ?_, by omega⟩
    cases hb : (s.p j).wt.testBit a
    · rfl
    · rw [hb] at this; simp at this <;> omega
  have hx0 : (s.p a).ck + 1 ≠ 0 := by omega
  have hpn : ∀ i, i ≠ a → (wantP a n s).p i = s.p i := fun i hi => upd_ne _ _ hi
  have hpa : (wantP a n s).p a = { s.p a with ck := (s.p a).ck + 1, ask := (s.p a).ck + 1, hv := 0 } := upd_same ..
  have hwt : ∀ i, ((wantP a n s).p i).wt = (s.p i).wt := fun i => by
    by_cases e : i = a
    · subst e; rw [hpa]
    · rw [hpn i e]
  have hactn : ∀ i, i ≠ a → act ((wantP a n s).p i) = act (s.p i) := fun i hi => by rw [hpn i hi]
  have hacta : act ((wantP a n s).p a) = true := by rw [hpa, act_iff]; exact .inr (by show 0 < (s.p a).ck + 1; omega)
  have hck : ∀ i, (s.p i).ck ≤ ((wantP a n s).p i).ck := fun i => by
    by_cases e : i = a
    · subst e; rw [hpa]; show (s.p i).ck ≤ (s.p i).ck + 1; omega
    · rw [hpn i e]; exact Int.le_refl _
  have hway : ∀ p, (wantP a n s).way p = if p.1 = a ∧ p.2 ≠ a ∧ p.2 < n then s.way p ++ [(s.p a).ck + 1] else s.way p := fun p => rfl
  have hwo : ∀ p : Nat × Nat, p.1 ≠ a → (wantP a n s).way p = s.way p := fun p hp => by rw [hway, if_neg (fun e => hp e.1)]
  have hwa : ∀ j, j < n → j ≠ a → (wantP a n s).way (a, j) = s.way (a, j) ++ [(s.p a).ck + 1] := fun j hj hja => by rw [hway, if_pos ⟨rfl, hja, hj⟩]
  have hnL : ∀ p, nL ((wantP a n s).way p) = nL (s.way p) := fun p => by
    rw [hway]; split
    · rw [nL_app, if_neg hx0]; rfl
    · rfl
  refine ⟨fun p hp => ?_, fun p x hx => ?_, fun i => ?_, fun i hi => ?_, fun i hi => ?_, fun i hi => ?_, fun p x hx h0 => ?_, fun i j hi hj hij => ?_, fun i j hi hj hij hai hnA => ?_, fun i j hi hj hij hai haj hor => ?_, fun i hi => ?_, fun i j hb => ?_, fun i => ?_⟩
  · rw [hway] at hp
    split at hp
    · rename_i e
      exact ⟨by omega, e.2.2, fun e' => e.2.1 (by rw [← e']; exact e.1)⟩
    · exact h.rng p hp
  · rw [hway] at hx
    split at hx
    · rcases List.mem_append.1 hx with hx | hx
      · exact h.nn p x hx
      · simp at hx; omega
    · exact h.nn p x hx
  · by_cases e : i = a
    · subst e; rw [hpa]
      exact ⟨by show 0 ≤ (s.p i).ck + 1; omega, by show 0 ≤ (s.p i).ck + 1; omega⟩
    · rw [hpn i e]; exact h.ckn i
  · by_cases e : i = a
    · omega
    · rw [hactn i e] at hi; exact h.low i hi
  · by_cases e : i = a
    · subst e
      rw [hpa] at hi
      exact absurd (.inl hi) hna
    · rw [hpn i e] at hi ⊢; exact h.inz i hi
  · by_cases e : i = a
    · subst e; rw [upd_same, hpa]
    · rw [upd_ne _ _ e]
      rw [hpn i e] at hi ⊢
      exact h.numa i hi
  · by_cases e : p.1 = a
    · rw [hway] at hx
      have hold : x ∈ s.way p → False := fun hx => by
        have := (h.asks p x hx h0).1
        rw [e, hact] at this; cases this
      rw [e, upd_same]
      refine ⟨hacta, ?_⟩
      split at hx
      · rcases List.mem_append.1 hx with hx | hx
        · exact (hold hx).elim
        · simpa using hx
      · exact (hold hx).elim
    · rw [hwo p e] at hx
      rw [upd_ne _ _ e, hactn _ e]
      exact h.asks p x hx h0
  · unfold cntT
    rw [hwt, hnL]
    by_cases e : i = a
    · subst e
      obtain ⟨z1, z2, z3⟩ := hz j hj (fun e => hij e.symm)
      rw [hacta, hwa j hj (fun e => hij e.symm), nA_app, if_neg hx0, z1, z2, z3, hpa]
      simp
    · rw [hwo _ e, hactn i e, hpn i e]
      exact h.cnt i j hi hj hij
  · by_cases e : i = a
    · subst e
      rw [hwa j hj (fun e => hij e.symm), nA_app, if_neg hx0] at hnA
      omega
    · rw [hactn i e] at hai
      rw [hwo _ e] at hnA
      rw [upd_ne _ _ e]
      exact Int.le_trans (h.clk i j hi hj hij hai hnA) (hck j)
  · rw [hnL] at hor
    by_cases e : i = a
    · subst e
      rw [hpa, (hz j hj (fun e => hij e.symm)).2.2] at hor
      simp at hor
    · rw [hactn i e] at hai
      rw [hpn i e] at hor
      rw [upd_ne _ _ e]
      by_cases e2 : j = a
      · subst e2
        rw [upd_same]
        have hc := h.cnt i j hi hj hij
        unfold cntT at hc
        rw [hai] at hc
        have hnA : nA (s.way (i, j)) = 0 := by
          rcases hor with hb | hl
          · rw [hb] at hc; simp at hc <;> omega
          · simp at hc; omega
        have := h.clk i j hi hj hij hai hnA
        omega
      · rw [hactn j e2] at haj
        rw [upd_ne _ _ e2]
        exact h.pri i j hi hj hij hai haj hor
  · by_cases e : i = a
    · subst e
      rw [hpa] at hi
      exact absurd (.inl hi) hna
    · rw [hpn i e] at hi ⊢; exact h.full i hi
  · rw [hwt] at hb
    obtain ⟨d1, d2, d3, d4, d5⟩ := h.dfr i j hb
    have ej : j ≠ a := fun e => by rw [e, hact] at d4; cases d4
    have ei : i ≠ a := fun e => by
      rw [e, (hz j d2 ej).2.1] at hb; cases hb
    rw [hpn j ej, upd_ne _ _ ej, upd_ne _ _ ei]
    exact ⟨d1, d2, d3, d4, d5⟩
  · refine ⟨?_, by rw [hwt]; exact (h.bits i).2⟩
    by_cases e : i = a
    · subst e; rw [hpa]; exact Nat.pow_pos (by omega)
    · rw [hpn i e]; exact (h.bits i).1
/-- Who has all leaves goes in. -/
theorem TI.enter (h : TI n num s) (a : Nat) : TI n num (enterS n a s) := by
  unfold enterS
  split
  case isFalse => exact h
  rename_i hc
  obtain ⟨h1, h2⟩ := hc
  generalize hs : ({ s with p := upd s.p a { s.p a with inn := true, ask := 0 } } : TS) = s'
  have hpn : ∀ i, i ≠ a → s'.p i = s.p i := fun i hi => by rw [← hs]; exact upd_ne _ _ hi
  have hpa : s'.p a = { s.p a with inn := true, ask := 0 } := by rw [← hs]; exact upd_same ..
  have hway : s'.way = s.way := by rw [← hs]
  have haa : act (s.p a) = true := act_iff.2 (.inr h1)
  have hact : ∀ i, act (s'.p i) = act (s.p i) := fun i => by
    by_cases e : i = a
    · subst e; rw [hpa, haa]; rfl
    · rw [hpn i e]
  have hhv : ∀ i, (s'.p i).hv = (s.p i).hv ∧ (s'.p i).wt = (s.p i).wt ∧ (s'.p i).ck = (s.p i).ck := fun i => by
    by_cases e : i = a
    · subst e; rw [hpa]; exact ⟨rfl, rfl, rfl⟩
    · rw [hpn i e]; exact ⟨rfl, rfl, rfl⟩
  refine ⟨fun p => by rw [hway]; exact h.rng p, fun p => by rw [hway]; exact h.nn p, fun i => ?_, fun i hi => h.low i (by rw [← hact]; exact hi), fun i hi => ?_, fun i hi => ?_, fun p x hx h0 => ?_, fun i j hi hj hij => ?_, fun i j hi hj hij => ?_, fun i j hi hj hij => ?_, fun i hi => ?_, fun i j hb => ?_, fun i => ?_⟩
  · rw [(hhv i).2.2]
    refine ⟨(h.ckn i).1, ?_⟩
    by_cases e : i = a
    · subst e; rw [hpa]; exact Int.le_refl _
    · rw [hpn i e]; exact (h.ckn i).2
  · by_cases e : i = a
    · subst e; rw [hpa]
    · rw [hpn i e] at hi ⊢; exact h.inz i hi
  · by_cases e : i = a
    · subst e; rw [hpa] at hi; exact absurd hi (by show ¬ (0 : Int) < 0; omega)
    · rw [hpn i e] at hi ⊢; exact h.numa i hi
  · rw [hway] at hx
    rw [hact]; exact h.asks p x hx h0
  · have := h.cnt i j hi hj hij
    unfold cntT at this ⊢
    rw [hway, hact, (hhv i).1, (hhv j).2.1]; exact this
  · rw [hact, hway, (hhv j).2.2]; exact h.clk i j hi hj hij
  · rw [hact, hact, hway, (hhv i).1]; exact h.pri i j hi hj hij
  · by_cases e : i = a
    · subst e; rw [hpa]; exact h2
    · rw [hpn i e] at hi ⊢; exact h.full i hi
  · rw [(hhv j).2.1] at hb
    obtain ⟨d1, d2, d3, d4, d5⟩ := h.dfr i j hb
    rw [hact]
    refine ⟨d1, d2, d3, d4, ?_⟩
    by_cases e : j = a
    · subst e; rw [hpa]; exact .inl rfl
    · rw [hpn j e]; exact d5
  · rw [(hhv i).1, (hhv i).2.1]; exact h.bits i
/-- A leave comes. -/
theorem TI.leave (h : TI n num s) {f t : Nat} {l : List Int} (hf : f < n) (ht : t < n) (hft : f ≠ t) (hw : s.way (f, t) = 0 :: l) : TI n num (leaveT f t l s) := by
  have hc := h.cnt t f ht hf (fun e => hft e.symm)
  have hactt : act (s.p t) = true := by
    cases ha : act (s.p t)
    · unfold cntT at hc
      rw [ha, hw, nL, if_pos rfl] at hc
      simp at hc
    · rfl
  unfold cntT at hc
  rw [hactt, hw, nL, if_pos rfl] at hc
  have hz : nA (s.way (t, f)) = 0 ∧ (s.p f).wt.testBit t = false ∧ nL l = 0 ∧ (s.p t).hv.testBit f = false := by
    simp only [Bool.true_and, Bool.toNat_true] at hc
    refine ⟨by omega, ?_, by omega, ?_⟩
    · cases hb : (s.p f).wt.testBit t
      · rfl
      · rw [hb] at hc; simp at hc <;> omega
    · cases hb : (s.p t).hv.testBit f
      · rfl
      · rw [hb] at hc; simp at hc <;> omega
  have hpn : ∀ i, i ≠ t → (leaveT f t l s).p i = s.p i := fun i hi => upd_ne _ _ hi
  have hpt : (leaveT f t l s).p t = { s.p t with hv := (s.p t).hv ||| 2 ^ f } := upd_same ..
  have hway : ∀ p, (leaveT f t l s).way p = if p = (f, t) then l else s.way p := fun p => rfl
  have hsame : ∀ i, act ((leaveT f t l s).p i) = act (s.p i) ∧ ((leaveT f t l s).p i).wt = (s.p i).wt ∧ ((leaveT f t l s).p i).ck = (s.p i).ck ∧ ((leaveT f t l s).p i).ask = (s.p i).ask ∧ ((leaveT f t l s).p i).inn = (s.p i).inn := fun i => by
    by_cases e : i = t
    · subst e; rw [hpt]; exact ⟨rfl, rfl, rfl, rfl, rfl⟩
    · rw [hpn i e]; exact ⟨rfl, rfl, rfl, rfl, rfl⟩
  have hnA : ∀ p, nA ((leaveT f t l s).way p) = nA (s.way p) := fun p => by
    rw [hway]; split
    · rename_i e; rw [e, hw, nA, if_pos rfl, Nat.zero_add]
    · rfl
  have hbit : ∀ i j, ((leaveT f t l s).p i).hv.testBit j = ((s.p i).hv.testBit j || decide (i = t ∧ j = f)) := fun i j => by
    by_cases e : i = t
    · subst e
      rw [hpt]
      show ((s.p i).hv ||| 2 ^ f).testBit j = _
      rw [Nat.testBit_or, Nat.testBit_two_pow]
      congr 1
      simp [eq_comm]
    · rw [hpn i e]; simp [e]
  have hsub : ∀ p x, x ∈ (leaveT f t l s).way p → x ∈ s.way p := fun p x hx => by
    rw [hway] at hx
    split at hx
    · rename_i e; rw [e, hw]; exact List.mem_cons_of_mem _ hx
    · exact hx
  refine ⟨fun p hp => ?_, fun p x hx => h.nn p x (hsub p x hx), fun i => ?_, fun i hi => h.low i (by rw [← (hsame i).1]; exact hi), fun i hi => ?_, fun i hi => ?_, fun p x hx h0 => ?_, fun i j hi hj hij => ?_, fun i j hi hj hij => ?_, fun i j hi hj hij hai haj hor => ?_, fun i hi => ?_, fun i j hb => ?_, fun i => ?_⟩
  · by_cases e : p = (f, t)
    · rw [e]; exact ⟨hf, ht, hft⟩
    · rw [hway, if_neg e] at hp; exact h.rng p hp
  · rw [(hsame i).2.2.1, (hsame i).2.2.2.1]; exact h.ckn i
  · rw [(hsame i).2.2.2.2] at hi
    rw [(hsame i).2.2.2.1]; exact h.inz i hi
  · rw [(hsame i).2.2.2.1] at hi ⊢; exact h.numa i hi
  · rw [(hsame _).1]; exact h.asks p x (hsub p x hx) h0
  · unfold cntT
    rw [hnA, (hsame j).2.1, (hsame i).1, hbit, hway]
    by_cases e : i = t ∧ j = f
    · obtain ⟨rfl, rfl⟩ := e
      rw [if_pos rfl, hz.1, hz.2.1, hz.2.2.1, hactt]
      simp
    · rw [if_neg (fun e' => e ⟨(Prod.mk.inj e').2, (Prod.mk.inj e').1⟩)]
      have := h.cnt i j hi hj hij
      unfold cntT at this
      simpa [e] using this
  · rw [hnA, (hsame i).1, (hsame j).2.2.1]; exact h.clk i j hi hj hij
  · rw [(hsame i).1] at hai
    rw [(hsame j).1] at haj
    refine h.pri i j hi hj hij hai haj ?_
    rw [hbit] at hor
    by_cases e : i = t ∧ j = f
    · obtain ⟨rfl, rfl⟩ := e
      rw [hw, nL, if_pos rfl]
      exact .inr (by omega)
    · rcases hor with hor | hor
      · simp [e] at hor; exact .inl hor
      · rw [hway, if_neg (fun e' => e ⟨(Prod.mk.inj e').2, (Prod.mk.inj e').1⟩)] at hor
        exact .inr hor
  · rw [(hsame i).2.2.2.2] at hi
    have hfi := h.full i hi
    by_cases e : i = t
    · subst e
      refine absurd (full_bit hfi hf hft) ?_
      rw [hz.2.2.2]; simp
    · rw [hpn i e]; exact hfi
  · rw [(hsame j).2.1] at hb
    obtain ⟨d1, d2, d3, d4, d5⟩ := h.dfr i j hb
    rw [(hsame j).1, (hsame j).2.2.2.2]
    exact ⟨d1, d2, d3, d4, d5⟩
  · rw [(hsame i).2.1]
    refine ⟨?_, (h.bits i).2⟩
    by_cases e : i = t
    · subst e; rw [hpt]; exact or_lt (h.bits i).1 hf
    · rw [hpn i e]; exact (h.bits i).1
/-- An ask comes: what both answers share. -/
theorem TI.askAt (h : TI n num s) {f t : Nat} {x : Int} {l : List Int} (hf : f < n) (ht : t < n) (hft : f ≠ t) (hx : x ≠ 0) (hw : s.way (f, t) = x :: l) :
    act (s.p f) = true ∧ x = num f ∧ nA l = 0 ∧ nA (s.way (f, t)) = 1 ∧ nL (s.way (f, t)) = nL l ∧ (s.p t).wt.testBit f = false ∧ nL (s.way (t, f)) = 0 ∧ (s.p f).hv.testBit t = false := by
  obtain ⟨ha, hn⟩ := h.asks (f, t) x (by rw [hw]; exact List.mem_cons_self) hx
  have hc := h.cnt f t hf ht hft
  have ha : act (s.p f) = true := ha
  have e1 : nA (s.way (f, t)) = 1 + nA l := by rw [hw, nA, if_neg hx]
  have e2 : nL (s.way (f, t)) = nL l := by rw [hw, nL, if_neg hx, Nat.zero_add]
  unfold cntT at hc
  rw [ha, e1] at hc
  simp only [Bool.true_and, Bool.toNat_true] at hc
  refine ⟨ha, hn, by omega, by omega, e2, ?_, by omega, ?_⟩
  · cases hb : (s.p t).wt.testBit f
    · rfl
    · rw [hb] at hc; simp at hc <;> omega
  · cases hb : (s.p f).hv.testBit t
    · rfl
    · rw [hb] at hc; simp at hc <;> omega
theorem TI.defer (h : TI n num s) {f t : Nat} {x : Int} {l : List Int} (hf : f < n) (ht : t < n) (hft : f ≠ t) (hx : x ≠ 0) (hw : s.way (f, t) = x :: l) (hl : later t f x (s.p t)) : TI n num (deferT f t x l s) := by
  obtain ⟨hfa, hxn, z1, z2, z3, z4, z5, z6⟩ := h.askAt hf ht hft hx hw
  have hpn : ∀ i, i ≠ t → (deferT f t x l s).p i = s.p i := fun i hi => upd_ne _ _ hi
  have hpt : (deferT f t x l s).p t = { s.p t with ck := max (s.p t).ck x, wt := (s.p t).wt ||| 2 ^ f } := upd_same ..
  have hway : ∀ p, (deferT f t x l s).way p = if p = (f, t) then l else s.way p := fun p => rfl
  have hsame : ∀ i, act ((deferT f t x l s).p i) = act (s.p i) ∧ ((deferT f t x l s).p i).hv = (s.p i).hv ∧ (s.p i).ck ≤ ((deferT f t x l s).p i).ck ∧ ((deferT f t x l s).p i).ask = (s.p i).ask ∧ ((deferT f t x l s).p i).inn = (s.p i).inn := fun i => by
    by_cases e : i = t
    · subst e; rw [hpt]; exact ⟨rfl, rfl, by show (s.p i).ck ≤ max (s.p i).ck x; omega, rfl, rfl⟩
    · rw [hpn i e]; exact ⟨rfl, rfl, Int.le_refl _, rfl, rfl⟩
  have hnL : ∀ p, nL ((deferT f t x l s).way p) = nL (s.way p) := fun p => by
    rw [hway]; split
    · rename_i e; rw [e, z3]
    · rfl
  have hbit : ∀ i j, ((deferT f t x l s).p j).wt.testBit i = ((s.p j).wt.testBit i || decide (j = t ∧ i = f)) := fun i j => by
    by_cases e : j = t
    · subst e
      rw [hpt]
      show ((s.p j).wt ||| 2 ^ f).testBit i = _
      rw [Nat.testBit_or, Nat.testBit_two_pow]
      congr 1
      simp [eq_comm]
    · rw [hpn j e]; simp [e]
  have hsub : ∀ p y, y ∈ (deferT f t x l s).way p → y ∈ s.way p := fun p y hy => by
    rw [hway] at hy
    split at hy
    · rename_i e; rw [e, hw]; exact List.mem_cons_of_mem _ hy
    · exact hy
  have hta : act (s.p t) = true := by
    rw [act_iff]
    rcases hl with hl | hl
    · exact .inl hl
    · exact .inr hl.1
  refine ⟨fun p hp => ?_, fun p x hx => h.nn p x (hsub p x hx), fun i => ?_, fun i hi => h.low i (by rw [← (hsame i).1]; exact hi), fun i hi => ?_, fun i hi => ?_, fun p y hy h0 => ?_, fun i j hi hj hij => ?_, fun i j hi hj hij hai hnA => ?_, fun i j hi hj hij => ?_, fun i hi => ?_, fun i j hb => ?_, fun i => ?_⟩
  · by_cases e : p = (f, t)
    · rw [e]; exact ⟨hf, ht, hft⟩
    · rw [hway, if_neg e] at hp; exact h.rng p hp
  · rw [(hsame i).2.2.2.1]
    have := (hsame i).2.2.1
    have := h.ckn i
    exact ⟨by omega, this.2⟩
  · rw [(hsame i).2.2.2.2] at hi
    rw [(hsame i).2.2.2.1]; exact h.inz i hi
  · rw [(hsame i).2.2.2.1] at hi ⊢; exact h.numa i hi
  · rw [(hsame _).1]; exact h.asks p y (hsub p y hy) h0
  · unfold cntT
    rw [hnL, (hsame i).2.1, (hsame i).1, hbit, hway]
    by_cases e : j = t ∧ i = f
    · obtain ⟨rfl, rfl⟩ := e
      rw [if_pos rfl, z1, z4, z5, z6, hfa]
      simp
    · rw [if_neg (fun e' => e ⟨(Prod.mk.inj e').2, (Prod.mk.inj e').1⟩)]
      have := h.cnt i j hi hj hij
      unfold cntT at this
      simpa [e] using this
  · rw [(hsame i).1] at hai
    by_cases e : (i, j) = (f, t)
    · injection e with e1 e2
      subst e1 e2
      rw [hpt, ← hxn]
      show x ≤ max (s.p j).ck x
      omega
    · rw [hway, if_neg e] at hnA
      exact Int.le_trans (h.clk i j hi hj hij hai hnA) (hsame j).2.2.1
  · rw [(hsame i).1, (hsame j).1, (hsame i).2.1, hnL]; exact h.pri i j hi hj hij
  · rw [(hsame i).2.2.2.2] at hi
    have := h.full i hi
    unfold Go.Proofs.Ytihkbkbbllmliaa.full at this ⊢
    rw [(hsame i).2.1]; exact this
  · rw [hbit] at hb
    rw [(hsame j).1, (hsame j).2.2.2.2]
    by_cases e : j = t ∧ i = f
    · obtain ⟨rfl, rfl⟩ := e
      refine ⟨hf, ht, hft, hta, ?_⟩
      rcases hl with hl | ⟨hl1, hl2⟩
      · exact .inl hl
      · rw [h.numa j hl1, ← hxn]
        rcases hl2 with hl2 | hl2
        · exact .inr (.inl hl2)
        · exact .inr (.inr hl2)
    · simp [e] at hb
      exact h.dfr i j hb
  · rw [(hsame i).2.1]
    refine ⟨(h.bits i).1, ?_⟩
    by_cases e : i = t
    · subst e; rw [hpt]; exact or_lt (h.bits i).2 hf
    · rw [hpn i e]; exact (h.bits i).2
theorem TI.reply (h : TI n num s) {f t : Nat} {x : Int} {l : List Int} (hf : f < n) (ht : t < n) (hft : f ≠ t) (hx : x ≠ 0) (hw : s.way (f, t) = x :: l) (hl : ¬ later t f x (s.p t)) : TI n num (replyT f t x l s) := by
  obtain ⟨hfa, hxn, z1, z2, z3, z4, z5, z6⟩ := h.askAt hf ht hft hx hw
  have hne : (t, f) ≠ (f, t) := fun e => hft (Prod.mk.inj e).2
  have hpn : ∀ i, i ≠ t → (replyT f t x l s).p i = s.p i := fun i hi => upd_ne _ _ hi
  have hpt : (replyT f t x l s).p t = { s.p t with ck := max (s.p t).ck x } := upd_same ..
  have hway : ∀ p, (replyT f t x l s).way p = if p = (t, f) then s.way (t, f) ++ [0] else if p = (f, t) then l else s.way p := fun p => by
    show qput (qput s.way (f, t) l) (t, f) (qput s.way (f, t) l (t, f) ++ [0]) p = _
    rw [qput_ne hne]
    rfl
  have hsame : ∀ i, act ((replyT f t x l s).p i) = act (s.p i) ∧ ((replyT f t x l s).p i).hv = (s.p i).hv ∧ (s.p i).ck ≤ ((replyT f t x l s).p i).ck ∧ ((replyT f t x l s).p i).ask = (s.p i).ask ∧ ((replyT f t x l s).p i).inn = (s.p i).inn ∧ ((replyT f t x l s).p i).wt = (s.p i).wt := fun i => by
    by_cases e : i = t
    · subst e; rw [hpt]; exact ⟨rfl, rfl, by show (s.p i).ck ≤ max (s.p i).ck x; omega, rfl, rfl, rfl⟩
    · rw [hpn i e]; exact ⟨rfl, rfl, Int.le_refl _, rfl, rfl, rfl⟩
  have hnL : ∀ p, nL ((replyT f t x l s).way p) = if p = (t, f) then 1 else nL (s.way p) := fun p => by
    rw [hway]; split
    · rw [nL_app, z5]; rfl
    · split
      · rename_i e; rw [e, z3]
      · rfl
  have hnA : ∀ p, p ≠ (f, t) → nA ((replyT f t x l s).way p) = nA (s.way p) := fun p hp => by
    rw [hway, if_neg hp]
    split
    · rename_i e; rw [e, nA_app, if_pos rfl, Nat.add_zero]
    · rfl
  have hnAf : nA ((replyT f t x l s).way (f, t)) = 0 := by rw [hway, if_neg (fun e => hne e.symm), if_pos rfl, z1]
  have hsub : ∀ p y, y ∈ (replyT f t x l s).way p → y = 0 ∨ y ∈ s.way p := fun p y hy => by
    rw [hway] at hy
    split at hy
    · rename_i e
      rcases List.mem_append.1 hy with hy | hy
      · rw [e]; exact .inr hy
      · exact .inl (by simpa using hy)
    · split at hy
      · rename_i e; rw [e, hw]; exact .inr (List.mem_cons_of_mem _ hy)
      · exact .inr hy
  refine ⟨fun p hp => ?_, fun p y hy => ?_, fun i => ?_, fun i hi => h.low i (by rw [← (hsame i).1]; exact hi), fun i hi => ?_, fun i hi => ?_, fun p y hy h0 => ?_, fun i j hi hj hij => ?_, fun i j hi hj hij hai hnA' => ?_, fun i j hi hj hij hai haj hor => ?_, fun i hi => ?_, fun i j hb => ?_, fun i => ?_⟩
  · by_cases e : p = (t, f)
    · rw [e]; exact ⟨ht, hf, fun e => hft e.symm⟩
    · by_cases e2 : p = (f, t)
      · rw [e2]; exact ⟨hf, ht, hft⟩
      · rw [hway, if_neg e, if_neg e2] at hp; exact h.rng p hp
  · rcases hsub p y hy with rfl | hy
    · exact Int.le_refl _
    · exact h.nn p y hy
  · rw [(hsame i).2.2.2.1]
    have := (hsame i).2.2.1
    have := h.ckn i
    exact ⟨by omega, this.2⟩
  · rw [(hsame i).2.2.2.2.1] at hi
    rw [(hsame i).2.2.2.1]; exact h.inz i hi
  · rw [(hsame i).2.2.2.1] at hi ⊢; exact h.numa i hi
  · rw [(hsame _).1]
    rcases hsub p y hy with rfl | hy
    · exact absurd rfl h0
    · exact h.asks p y hy h0
  · unfold cntT
    rw [hnL, (hsame i).2.1, (hsame i).1, (hsame j).2.2.2.2.2]
    by_cases e : (i, j) = (f, t)
    · injection e with e1 e2
      subst e1 e2
      rw [hnAf, z4, z6, if_pos rfl, hfa]
      simp
    · rw [hnA _ e, if_neg (fun e' => e (by injection e' with e1 e2; rw [e1, e2]))]
      exact h.cnt i j hi hj hij
  · rw [(hsame i).1] at hai
    by_cases e : (i, j) = (f, t)
    · injection e with e1 e2
      subst e1 e2
      rw [hpt, ← hxn]
      show x ≤ max (s.p j).ck x
      omega
    · rw [hnA _ e] at hnA'
      exact Int.le_trans (h.clk i j hi hj hij hai hnA') (hsame j).2.2.1
  · rw [(hsame i).1] at hai
    rw [(hsame j).1] at haj
    rw [(hsame i).2.1, hnL] at hor
    by_cases e : (i, j) = (f, t)
    · injection e with e1 e2
      subst e1 e2
      rw [← hxn]
      have hin : ¬ (s.p j).inn = true := fun hh => hl (.inl hh)
      have hask : 0 < (s.p j).ask := by
        rcases act_iff.1 haj with hh | hh
        · exact absurd hh hin
        · exact hh
      rw [h.numa j hask]
      have : ¬ ((s.p j).ask < x ∨ ((s.p j).ask = x ∧ j < i)) := fun hh => hl (.inr ⟨hask, hh⟩)
      omega
    · rw [if_neg (fun e' => e (by injection e' with e1 e2; rw [e1, e2]))] at hor
      exact h.pri i j hi hj hij hai haj hor
  · rw [(hsame i).2.2.2.2.1] at hi
    have := h.full i hi
    unfold Go.Proofs.Ytihkbkbbllmliaa.full at this ⊢
    rw [(hsame i).2.1]; exact this
  · rw [(hsame j).2.2.2.2.2] at hb
    obtain ⟨d1, d2, d3, d4, d5⟩ := h.dfr i j hb
    rw [(hsame j).1, (hsame j).2.2.2.2.1]
    exact ⟨d1, d2, d3, d4, d5⟩
  · rw [(hsame i).2.1, (hsame i).2.2.2.2.2]; exact h.bits i
/-- Who was in goes out. -/
theorem TI.out (h : TI n num s) {a : Nat} (ha : a < n) (hin : (s.p a).inn = true) : TI n num (outP n a s) := by
  have hact : act (s.p a) = true := act_iff.2 (.inl hin)
  have hask := h.inz a hin
  have hfull := h.full a hin
  have hz : ∀ j, j < n → j ≠ a → nA (s.way (a, j)) = 0 ∧ (s.p j).wt.testBit a = false ∧ nL (s.way (j, a)) = 0 := by
    intro j hj hja
    have hc := h.cnt a j ha hj (fun e => hja e.symm)
    unfold cntT at hc
    rw [hact, full_bit hfull hj hja] at hc
    simp only [Bool.true_and, Bool.toNat_true] at hc
    refine ⟨by omega, ?_, by omega⟩
    cases hb : (s.p j).wt.testBit a
    · rfl
    · rw [hb] at hc; simp at hc <;> omega
  have hpn : ∀ i, i ≠ a → (outP n a s).p i = s.p i := fun i hi => upd_ne _ _ hi
  have hpa : (outP n a s).p a = { s.p a with inn := false, wt := 0 } := upd_same ..
  have hway : ∀ p, (outP n a s).way p = if p.1 = a ∧ p.2 < n ∧ (s.p a).wt.testBit p.2 = true then s.way p ++ [0] else s.way p := fun p => rfl
  have hacta : act ((outP n a s).p a) = false := by rw [hpa]; show (false || decide (0 < (s.p a).ask)) = false; rw [hask]; rfl
  have hactn : ∀ i, i ≠ a → act ((outP n a s).p i) = act (s.p i) := fun i hi => by rw [hpn i hi]
  have hnA : ∀ p, nA ((outP n a s).way p) = nA (s.way p) := fun p => by
    rw [hway]; split
    · rw [nA_app, if_pos rfl, Nat.add_zero]
    · rfl
  have hhv : ∀ i, ((outP n a s).p i).hv = (s.p i).hv ∧ ((outP n a s).p i).ck = (s.p i).ck ∧ ((outP n a s).p i).ask = (s.p i).ask := fun i => by
    by_cases e : i = a
    · subst e; rw [hpa]; exact ⟨rfl, rfl, rfl⟩
    · rw [hpn i e]; exact ⟨rfl, rfl, rfl⟩
  have hsub : ∀ p y, y ∈ (outP n a s).way p → y = 0 ∨ y ∈ s.way p := fun p y hy => by
    rw [hway] at hy
    split at hy
    · rcases List.mem_append.1 hy with hy | hy
      · exact .inr hy
      · exact .inl (by simpa using hy)
    · exact .inr hy
  have hna : ∀ i, act ((outP n a s).p i) = true → i ≠ a := fun i hi e => by rw [e, hacta] at hi; cases hi
  refine ⟨fun p hp => ?_, fun p y hy => ?_, fun i => ?_, fun i hi => ?_, fun i hi => ?_, fun i hi => ?_, fun p y hy h0 => ?_, fun i j hi hj hij => ?_, fun i j hi hj hij hai hnA' => ?_, fun i j hi hj hij hai haj hor => ?_, fun i hi => ?_, fun i j hb => ?_, fun i => ?_⟩
  · rw [hway] at hp
    split at hp
    · rename_i e
      have := h.dfr p.2 a e.2.2
      exact ⟨by omega, e.2.1, fun e' => this.2.2.1 (by rw [← e', e.1])⟩
    · exact h.rng p hp
  · rcases hsub p y hy with rfl | hy
    · exact Int.le_refl _
    · exact h.nn p y hy
  · rw [(hhv i).2.1, (hhv i).2.2]; exact h.ckn i
  · have e := hna i hi
    rw [hactn i e] at hi; exact h.low i hi
  · by_cases e : i = a
    · subst e; rw [hpa] at hi; cases hi
    · rw [hpn i e] at hi ⊢; exact h.inz i hi
  · rw [(hhv i).2.2] at hi ⊢; exact h.numa i hi
  · rcases hsub p y hy with rfl | hy
    · exact absurd rfl h0
    · by_cases e : p.1 = a
      · have hr := h.rng p (fun e' => by rw [e'] at hy; cases hy)
        have := (hz p.2 hr.2.1 (fun e' => hr.2.2 (by rw [e, e']))).1
        rw [show (a, p.2) = p from Prod.ext e.symm rfl] at this
        exact absurd (nA_mem this y hy) h0
      · rw [hactn _ e]; exact h.asks p y hy h0
  · unfold cntT
    rw [hnA, (hhv i).1]
    by_cases e : i = a
    · subst e
      obtain ⟨z1, z2, z3⟩ := hz j hj (fun e => hij e.symm)
      rw [hacta, z1, hpn j (fun e => hij e.symm), z2, hway, if_neg (fun e' => hij e'.1.symm), z3]
      simp
    · rw [hactn i e]
      have hc := h.cnt i j hi hj hij
      unfold cntT at hc
      by_cases e2 : j = a
      · subst e2
        rw [hpa, hway]
        cases hb : (s.p j).wt.testBit i
        · rw [if_neg (by simp [hb])]
          rw [hb] at hc
          simpa using hc
        · rw [if_pos ⟨rfl, hi, rfl⟩, nL_app]
          rw [hb] at hc
          simp at hc ⊢
          omega
      · rw [hpn j e2, hway, if_neg (fun e' => e2 e'.1)]
        exact hc
  · have e := hna i hai
    rw [hactn i e] at hai
    rw [hnA] at hnA'
    rw [(hhv j).2.1]; exact h.clk i j hi hj hij hai hnA'
  · have e := hna i hai
    have e2 := hna j haj
    rw [hactn i e] at hai
    rw [hactn j e2] at haj
    rw [(hhv i).1, hway, if_neg (fun e' => e2 e'.1)] at hor
    exact h.pri i j hi hj hij hai haj hor
  · by_cases e : i = a
    · subst e; rw [hpa] at hi; cases hi
    · rw [hpn i e] at hi ⊢; exact h.full i hi
  · by_cases e : j = a
    · subst e; rw [hpa] at hb
      exact absurd hb (by simp)
    · rw [hpn j e] at hb
      obtain ⟨d1, d2, d3, d4, d5⟩ := h.dfr i j hb
      rw [hpn j e]
      exact ⟨d1, d2, d3, d4, d5⟩
  · rw [(hhv i).1]
    refine ⟨(h.bits i).1, ?_⟩
    by_cases e : i = a
    · subst e; rw [hpa]; exact Nat.pow_pos (by omega)
    · rw [hpn i e]; exact (h.bits i).2
theorem enter_nf (a i : Nat) (hi : i < n) (h : i ≠ a → 0 < (s.p i).ask → ¬ full n i (s.p i)) : 0 < ((enterS n a s).p i).ask → ¬ full n i ((enterS n a s).p i) := by
  unfold enterS
  split
  · by_cases e : i = a
    · subst e
      show 0 < (upd s.p i _ i).ask → _
      rw [upd_same]
      intro hh
      exact absurd hh (by show ¬ (0 : Int) < 0; omega)
    · show 0 < (upd s.p a _ i).ask → ¬ full n i (upd s.p a _ i)
      rw [upd_ne _ _ e]
      exact h e
  · rename_i hc
    by_cases e : i = a
    · subst e
      exact fun h1 h2 => hc ⟨h1, h2⟩
    · exact h e
theorem NF.other {a : Nat} {s' : TS} (h : NF n s) (hp : ∀ i, i ≠ a → s'.p i = s.p i) : ∀ i, i < n → i ≠ a → 0 < (s'.p i).ask → ¬ full n i (s'.p i) := fun i hi e => by rw [hp i e]; exact h i hi
/-- Every move keeps both. -/
theorem TI.next {k f t : Int} (h : TI n num s) (hn : NF n s) : ∃ num', TI n num' (tuStep n k f t s).2 ∧ NF n (tuStep n k f t s).2 := by
  unfold tuStep
  split
  · exact ⟨num, h, hn⟩
  rename_i hk
  split
  · exact ⟨num, h, hn⟩
  rename_i hb
  have hb : tuBad n k f t = false := by simpa using hb
  unfold tuBad at hb
  simp only [Bool.or_eq_false_iff, Bool.not_eq_false', Bool.and_eq_true, decide_eq_true_eq, Bool.and_eq_false_iff] at hb
  obtain ⟨⟨hf1, hf2⟩, hb⟩ := hb
  have hfn : f.toNat < n := by omega
  split
  · unfold wantS
    split
    · exact ⟨num, h, hn⟩
    · rename_i hna
      exact ⟨_, (h.want hfn hna).enter _, fun i hi => enter_nf _ i hi fun e => (hn.other (s' := wantP f.toNat n s) fun i hi => upd_ne _ _ hi) i hi e⟩
  split
  · rename_i h2
    have hb2 : (0 ≤ t ∧ t < n) ∧ f ≠ t := by
      rcases hb with hb | hb
      · simp at hb; exact absurd h2 hb
      · simpa using hb
    have htn : t.toNat < n := by omega
    have hft : f.toNat ≠ t.toNat := by omega
    unfold comeS
    split
    · exact ⟨num, h, hn⟩
    · rename_i x l hw
      refine ⟨num, ?_⟩
      unfold comeT
      split
      · rename_i hx
        subst hx
        exact ⟨(h.leave hfn htn hft hw).enter _, fun i hi => enter_nf _ i hi fun e => (hn.other (s' := leaveT f.toNat t.toNat l s) fun i hi => upd_ne _ _ hi) i hi e⟩
      · rename_i hx
        split
        · rename_i hl
          refine ⟨h.defer hfn htn hft hx hw hl, fun i hi => ?_⟩
          by_cases e : i = t.toNat
          · subst e
            show 0 < (upd s.p t.toNat _ t.toNat).ask → ¬ Go.Proofs.Ytihkbkbbllmliaa.full n t.toNat (upd s.p t.toNat _ t.toNat)
            rw [upd_same]
            exact hn _ hi
          · exact hn.other (s' := deferT f.toNat t.toNat x l s) (fun i hi => upd_ne _ _ hi) i hi e
        · rename_i hl
          refine ⟨h.reply hfn htn hft hx hw hl, fun i hi => ?_⟩
          by_cases e : i = t.toNat
          · subst e
            show 0 < (upd s.p t.toNat _ t.toNat).ask → ¬ Go.Proofs.Ytihkbkbbllmliaa.full n t.toNat (upd s.p t.toNat _ t.toNat)
            rw [upd_same]
            exact hn _ hi
          · exact hn.other (s' := replyT f.toNat t.toNat x l s) (fun i hi => upd_ne _ _ hi) i hi e
  · unfold outS
    split
    · exact ⟨num, h, hn⟩
    · rename_i hin
      have hin : (s.p f.toNat).inn = true := by simpa using hin
      refine ⟨num, h.out hfn hin, fun i hi => ?_⟩
      by_cases e : i = f.toNat
      · subst e
        show 0 < (upd s.p f.toNat _ f.toNat).ask → ¬ Go.Proofs.Ytihkbkbbllmliaa.full n f.toNat (upd s.p f.toNat _ f.toNat)
        rw [upd_same]
        exact hn _ hi
      · exact hn.other (s' := outP n f.toNat s) (fun i hi => upd_ne _ _ hi) i hi e
end
def TJ (n : Nat) (s : TS) : Prop := (∃ num, TI n num s) ∧ NF n s
theorem tuE_J (n : Nat) (M : Mv) : ∀ j, TJ n (tuE n M j)
  | 0 => ⟨⟨_, TI.start n⟩, fun i _ h => absurd h (by show ¬ (0 : Int) < 0; omega)⟩
  | j + 1 => by
    obtain ⟨⟨num, h⟩, hn⟩ := tuE_J n M j
    obtain ⟨num', h1, h2⟩ := h.next (k := M.k j) (f := M.f j) (t := M.t j) hn
    exact ⟨⟨num', h1⟩, h2⟩
/-- No two are in. -/
theorem TJ.one {n : Nat} {s : TS} (h : TJ n s) {i j : Nat} (hi : (s.p i).inn = true) (hj : (s.p j).inn = true) : i = j := by
  obtain ⟨⟨num, h⟩, _⟩ := h
  refine Decidable.byContradiction fun hij => ?_
  have ai := act_iff.2 (.inl hi)
  have aj := act_iff.2 (.inl hj)
  have li := h.low i ai
  have lj := h.low j aj
  have p1 := h.pri i j li lj hij ai aj (.inl (full_bit (h.full i hi) lj (fun e => hij e.symm)))
  have p2 := h.pri j i lj li (fun e => hij e.symm) aj ai (.inl (full_bit (h.full j hj) li hij))
  omega
theorem TJ.apart {n : Nat} {s : TS} (h : TJ n s) {i : Nat} (hi : (s.p i).inn = true) : (s.p i).ask = 0 := by
  obtain ⟨⟨num, h⟩, _⟩ := h
  exact h.inz i hi
/-- At most one ask and one leave stand on a way. -/
theorem TJ.few {n : Nat} {s : TS} (h : TJ n s) (p : Nat × Nat) : nA (s.way p) ≤ 1 ∧ nL (s.way p) ≤ 1 := by
  obtain ⟨⟨num, h⟩, _⟩ := h
  by_cases e : s.way p = []
  · rw [e]; exact ⟨Nat.zero_le _, Nat.zero_le _⟩
  · obtain ⟨h1, h2, h3⟩ := h.rng p e
    have c1 := h.cnt p.1 p.2 h1 h2 h3
    have c2 := h.cnt p.2 p.1 h2 h1 (fun e => h3 e.symm)
    have b1 := Bool.toNat_le (act (s.p p.1))
    have b2 := Bool.toNat_le (act (s.p p.2))
    unfold cntT at c1 c2
    exact ⟨by show nA (s.way (p.1, p.2)) ≤ 1; omega, by show nL (s.way (p.1, p.2)) ≤ 1; omega⟩
theorem exists_least {n : Nat} (P : Nat → Prop) [DecidablePred P] (key : Nat → Int) : (∃ i, i < n ∧ P i) → ∃ i, i < n ∧ P i ∧ ∀ j, j < n → P j → key i < key j ∨ (key i = key j ∧ i ≤ j) := by
  induction n with
  | zero => rintro ⟨i, hi, _⟩; omega
  | succ n ih =>
    rintro ⟨i, hi, hP⟩
    by_cases hex : ∃ i, i < n ∧ P i
    · obtain ⟨i, h1, h2, h3⟩ := ih hex
      by_cases hn : P n ∧ key n < key i
      · refine ⟨n, by omega, hn.1, fun j hj hjP => ?_⟩
        by_cases e : j = n
        · subst e; exact .inr ⟨rfl, Nat.le_refl _⟩
        · have := h3 j (by omega) hjP
          have := hn.2
          omega
      · refine ⟨i, by omega, h2, fun j hj hjP => ?_⟩
        by_cases e : j = n
        · subst e
          have : ¬ key j < key i := fun h => hn ⟨hjP, h⟩
          omega
        · exact h3 j (by omega) hjP
    · have : i = n := Decidable.byContradiction fun e => hex ⟨i, by omega, hP⟩
      subst this
      refine ⟨i, hi, hP, fun j hj hjP => ?_⟩
      have : j = i := Decidable.byContradiction fun e => hex ⟨j, by omega, hjP⟩
      subst this
      exact .inr ⟨rfl, Nat.le_refl _⟩
/-- When nothing is on the way, and one wants in, one is in. -/
theorem TJ.goes {n : Nat} {s : TS} (h : TJ n s) (hw : ∀ p, s.way p = []) {i : Nat} (hi : i < n) (ha : 0 < (s.p i).ask) : ∃ j, j < n ∧ (s.p j).inn = true := by
  obtain ⟨⟨num, h⟩, hn⟩ := h
  refine Classical.byContradiction fun hno => ?_
  have hno : ∀ j, (s.p j).inn = true → False := fun j hj => hno ⟨j, h.low j (act_iff.2 (.inl hj)), hj⟩
  obtain ⟨i, hi, ha, hm⟩ := exists_least (fun i => 0 < (s.p i).ask) (fun i => (s.p i).ask) ⟨i, hi, ha⟩
  refine hn i hi ha (full_of hi (h.bits i).1 fun j hj hji => ?_)
  have hact : act (s.p i) = true := act_iff.2 (.inr ha)
  have hc := h.cnt i j hi hj (fun e => hji e.symm)
  unfold cntT at hc
  rw [hact, hw, hw] at hc
  simp only [nA, nL, Bool.true_and, Bool.toNat_true] at hc
  cases hb : (s.p i).hv.testBit j
  · exfalso
    rw [hb] at hc
    have hd : (s.p j).wt.testBit i = true := by
      cases hd : (s.p j).wt.testBit i
      · rw [hd] at hc; simp at hc
      · rfl
    obtain ⟨_, _, _, d4, d5⟩ := h.dfr i j hd
    have hask : 0 < (s.p j).ask := by
      rcases act_iff.1 d4 with hh | hh
      · exact (hno j hh).elim
      · exact hh
    rw [h.numa i ha, h.numa j hask] at d5
    have := hm j hj hask
    rcases d5 with d5 | d5
    · exact hno j d5
    · omega
  · rfl
end Go.Proofs.Ytihkbkbbllmliaa
