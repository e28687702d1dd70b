/- ring.Lead in plain functions: the numbers on the way, round by round. -/
import Derived.Test.YtelenomccmnkfaaRingMath
import Derived.Test.YtelenomccmnkfaaSum
set_option linter.unusedVariables false
set_option linter.unusedSimpArgs false
namespace Go.Proofs.Ytelenomccmnkfaa

def sc1 (i n : Nat) : Nat := if i + 1 = n then 0 else i + 1
theorem sc1_eq {i n : Nat} (h : i < n) : (i + 1) % n = sc1 i n := by
  unfold sc1
  split
  · rename_i e; rw [e, Nat.mod_self]
  · rw [Nat.mod_eq_of_lt (by omega)]
theorem sc1_lt {i n : Nat} (h : i < n) : sc1 i n < n := by unfold sc1; split <;> omega
theorem pm_sc {i n : Nat} (h : i < n) : pm1 (sc1 i n) n = i := by unfold pm1 sc1; split <;> split <;> omega
theorem sc_pm {i n : Nat} (h : i < n) : sc1 (pm1 i n) n = i := by unfold pm1 sc1; split <;> split <;> omega
theorem sc1_inj {i j n : Nat} (hi : i < n) (hj : j < n) (h : sc1 i n = sc1 j n) : i = j := by rw [← pm_sc hi, h, pm_sc hj]
abbrev Way := Nat → Option Int
/-- What goes on from i. -/
def outR (f : Nat → Int) (s : Nat → Bool) (w : Way) (i : Nat) : Option Int := match w i with
  | none => none
  | some x => if x < f i then (if s i = true then none else some (f i)) else some x
def stepS (f : Nat → Int) (s : Nat → Bool) (w : Way) (i : Nat) : Bool := s i || match w i with
  | none => false
  | some x => decide (x < f i)
def RW (n : Nat) (f : Nat → Int) (b : Nat → Bool) : Nat → Way × (Nat → Bool)
  | 0 => (fun j => if b (pm1 j n) = true then some (f (pm1 j n)) else none, b)
  | t + 1 => (fun j => outR f (RW n f b t).2 (RW n f b t).1 (pm1 j n), stepS f (RW n f b t).2 (RW n f b t).1)
def cw (n : Nat) (w : Way) : Nat := sumN n fun j => if (w j).isSome = true then 1 else 0
def tot (n : Nat) (f : Nat → Int) (b : Nat → Bool) (t : Nat) : Nat := sumN (t + 1) fun i => cw n (RW n f b i).1
/-- Nobody is at home ahead of t. -/
def NoHome (n : Nat) (f : Nat → Int) (b : Nat → Bool) (t : Nat) : Prop := ∀ i, i < t → ∀ j, j < n → (RW n f b i).1 j ≠ some (f j)
theorem cw_le (n : Nat) (w : Way) : cw n w ≤ n := by
  have := sumN_le (g := fun j => if (w j).isSome = true then 1 else 0) (c := 1) (n := n) (fun j _ => by split <;> omega)
  unfold cw; omega
theorem tot_next (n : Nat) (f : Nat → Int) (b : Nat → Bool) (t : Nat) : tot n f b (t + 1) = tot n f b t + cw n (RW n f b (t + 1)).1 := rfl
theorem tot_le (n : Nat) (f : Nat → Int) (b : Nat → Bool) (t : Nat) : tot n f b t ≤ (t + 1) * n := sumN_le fun i _ => cw_le n _
theorem cw_pos {n : Nat} {w : Way} {j : Nat} (hj : j < n) (h : (w j).isSome = true) : 1 ≤ cw n w := by
  have := sumN_pos (g := fun j => if (w j).isSome = true then 1 else 0) hj
  simp only [h, if_true] at this
  exact this
theorem add_mod_lt {o k n : Nat} (ho : o < n) (hk : k ≤ n) : (o + k) % n = if o + k < n then o + k else o + k - n := by
  split
  · exact Nat.mod_eq_of_lt ‹_›
  · rw [show o + k = o + k - n + n by omega, Nat.add_mod_right, Nat.mod_eq_of_lt (by omega), Nat.add_sub_cancel]
/-- A number on the way: from where, how far. -/
def Trail (n : Nat) (f : Nat → Int) (s : Nat → Bool) (t p : Nat) (x : Int) : Prop :=
  ∃ o k, o < n ∧ s o = true ∧ x = f o ∧ 1 ≤ k ∧ k ≤ n ∧ k ≤ t + 1 ∧ p = (o + k) % n ∧ ∀ j, 1 ≤ j → j < k → f ((o + j) % n) < x
/-- How far p is from g. -/
def dist (n g p : Nat) : Nat := if p ≤ g then g - p else g + n - p
theorem dist_sc {n g p : Nat} (hp : p < n) (hg : g < n) (h : p ≠ g) : dist n g (sc1 p n) + 1 = dist n g p := by
  unfold dist sc1
  split <;> split <;> split <;> omega
theorem dist_lt {n g p : Nat} (hp : p < n) (hg : g < n) : dist n g p < n := by unfold dist; split <;> omega
theorem dist_zero {n g p : Nat} (hp : p < n) (h : dist n g p = 0) : p = g := by unfold dist at h; split at h <;> omega
/-- The rounds. -/
structure RInv (n g : Nat) (f : Nat → Int) (t : Nat) (w : Way) (s : Nat → Bool) : Prop where
  tok : ∀ p x, p < n → w p = some x → Trail n f s t p x
  ph : (s g = false ∧ ∃ q, q < n ∧ (w q).isSome = true ∧ (∀ p, p < n → (w p).isSome = true → dist n g q ≤ dist n g p) ∧ (∀ p, p < n → s p = true → dist n g q < dist n g p) ∧ t + dist n g q + 2 ≤ n) ∨
    ∃ k, k < n ∧ w ((g + 1 + k) % n) = some (f g) ∧ t + 1 ≤ n + k
theorem rinv_start {n g : Nat} {f : Nat → Int} {b : Nat → Bool} (hg : g < n) (hb : ∃ i, i < n ∧ b i = true) : RInv n g f 0 (RW n f b 0).1 (RW n f b 0).2 := by
  have hw : ∀ i, i < n → (RW n f b 0).1 (sc1 i n) = if b i = true then some (f i) else none := fun i hi => by
    show (if b (pm1 (sc1 i n) n) = true then some (f (pm1 (sc1 i n) n)) else none) = _
    rw [pm_sc hi]
  have hw2 : ∀ p x, p < n → (RW n f b 0).1 p = some x → b (pm1 p n) = true ∧ x = f (pm1 p n) := fun p x hp h => by
    rw [← sc_pm hp, hw _ (pm1_lt hp)] at h
    split at h
    · rename_i e; injection h with h; exact ⟨e, h.symm⟩
    · cases h
  refine ⟨fun p x hp h => ?_, ?_⟩
  · obtain ⟨h1, h2⟩ := hw2 p x hp h
    exact ⟨pm1 p n, 1, pm1_lt hp, h1, h2, by omega, by omega, by omega, by rw [sc1_eq (pm1_lt hp), sc_pm hp], fun j h1 h2 => by omega⟩
  · by_cases hbg : b g = true
    · refine .inr ⟨0, by omega, ?_, by omega⟩
      rw [show g + 1 + 0 = g + 1 by omega, sc1_eq hg, hw g hg, if_pos hbg]
    · refine .inl ⟨show b g = false by simpa using hbg, ?_⟩
      -- the nearest that begins
      have key : ∀ m, (∃ i, i < n ∧ b i = true ∧ dist n g i ≤ m) → ∃ i, i < n ∧ b i = true ∧ ∀ p, p < n → b p = true → dist n g i ≤ dist n g p := by
        intro m
        induction m with
        | zero => rintro ⟨i, h1, h2, h3⟩; exact ⟨i, h1, h2, fun p _ _ => by omega⟩
        | succ m ih =>
          rintro ⟨i, h1, h2, h3⟩
          by_cases h : ∃ i, i < n ∧ b i = true ∧ dist n g i ≤ m
          · exact ih h
          · exact ⟨i, h1, h2, fun p q1 q2 => Classical.byContradiction fun q3 => h ⟨p, q1, q2, by omega⟩⟩
      obtain ⟨i0, h1, h2⟩ := hb
      obtain ⟨i, hi, hbi, hmin⟩ := key (dist n g i0) ⟨i0, h1, h2, Nat.le_refl _⟩
      have hig : i ≠ g := fun e => hbg (by rw [← e]; exact hbi)
      have hd := dist_sc hi hg hig
      refine ⟨sc1 i n, sc1_lt hi, by rw [hw i hi, if_pos hbi]; rfl, fun p hp hs => ?_, fun p hp hs => ?_, ?_⟩
      · obtain ⟨x, hx⟩ := Option.isSome_iff_exists.1 hs
        obtain ⟨q1, q2⟩ := hw2 p x hp hx
        have q3 := hmin _ (pm1_lt hp) q1
        have q4 : pm1 p n ≠ g := fun e => hbg (by rw [← e]; exact q1)
        have q5 := dist_sc (pm1_lt hp) hg q4
        rw [sc_pm hp] at q5
        omega
      · have := hmin p hp hs
        omega
      · have := dist_lt hi hg
        omega
theorem out_some {f : Nat → Int} {s : Nat → Bool} {w : Way} {i : Nat} {x : Int} (h : outR f s w i = some x) : ∃ y, w i = some y ∧ ((y < f i ∧ s i = false ∧ x = f i) ∨ (f i ≤ y ∧ x = y)) := by
  unfold outR at h
  split at h
  · cases h
  · rename_i y hy
    refine ⟨y, hy, ?_⟩
    split at h
    · split at h
      · cases h
      · rename_i h1 h2; injection h with h; exact .inl ⟨h1, by simpa using h2, h.symm⟩
    · rename_i h1; injection h with h; exact .inr ⟨by omega, h.symm⟩
theorem stepS_up {f : Nat → Int} {s : Nat → Bool} {w : Way} {i : Nat} (h : s i = true) : stepS f s w i = true := by unfold stepS; rw [h]; rfl
theorem rinv_step {n g : Nat} {f : Nat → Int} {b : Nat → Bool} {t : Nat} (hR : RingOk f n) (hg : g < n) (hmax : ∀ j, j < n → f j ≤ f g) (h : RInv n g f t (RW n f b t).1 (RW n f b t).2)
    (hno : ∀ j, j < n → (RW n f b t).1 j ≠ some (f j)) : RInv n g f (t + 1) (RW n f b (t + 1)).1 (RW n f b (t + 1)).2 := by
  have e1 : (RW n f b (t + 1)).1 = fun j => outR f (RW n f b t).2 (RW n f b t).1 (pm1 j n) := rfl
  have e2 : (RW n f b (t + 1)).2 = stepS f (RW n f b t).2 (RW n f b t).1 := rfl
  rw [e1, e2]
  generalize (RW n f b t).1 = w at *
  generalize (RW n f b t).2 = s at *
  have hw : ∀ i, i < n → outR f s w (pm1 (sc1 i n) n) = outR f s w i := fun i hi => by rw [pm_sc hi]
  refine ⟨fun p x hp hx => ?_, ?_⟩
  · have hx : outR f s w (pm1 p n) = some x := hx
    obtain ⟨y, hy, hc⟩ := out_some hx
    have hpn := pm1_lt hp
    rcases hc with ⟨h1, h2, h3⟩ | ⟨h1, h2⟩
    · refine ⟨pm1 p n, 1, hpn, ?_, h3, by omega, by omega, by omega, by rw [sc1_eq hpn, sc_pm hp], fun j q1 q2 => by omega⟩
      unfold stepS
      rw [hy]; simp [h1]
    · subst h2
      obtain ⟨o, k, q1, q2, q3, q4, q5, q6, q7, q8⟩ := h.tok _ _ hpn hy
      have hk : k ≠ n := fun e => by
        subst e
        rw [Nat.add_mod_right, Nat.mod_eq_of_lt q1] at q7
        exact hno _ hpn (by rw [hy, q3, q7])
      refine ⟨o, k + 1, q1, stepS_up q2, q3, by omega, by omega, by omega, ?_, fun j r1 r2 => ?_⟩
      · rw [← sc_pm hp, ← sc1_eq hpn, q7, Nat.mod_add_mod, Nat.add_assoc]
      · by_cases e : j = k
        · subst e
          rw [← q7]
          have : f (pm1 p n) ≠ x := fun e => hno _ hpn (by rw [hy, e])
          omega
        · exact q8 j r1 (by omega)
  · rcases h.ph with ⟨h1, q, h2, h3, h4, h5, h6⟩ | ⟨k, h1, h2, h3⟩
    · obtain ⟨y, hy⟩ := Option.isSome_iff_exists.1 h3
      by_cases hqg : q = g
      · subst hqg
        obtain ⟨o, k, q1, q2, q3, q4⟩ := h.tok _ _ h2 hy
        have hog : o ≠ q := fun e => by rw [e, h1] at q2; cases q2
        have hlt : y < f q := by
          have := hmax o q1
          have : f o ≠ f q := fun e => hog (hR.eq q1 hg e)
          omega
        refine .inr ⟨0, by omega, ?_, by omega⟩
        rw [show q + 1 + 0 = q + 1 by omega, sc1_eq hg]
        show outR f s w (pm1 (sc1 q n) n) = some (f q)
        rw [hw q hg]
        unfold outR
        rw [hy]
        show (if y < f q then _ else _) = _
        rw [if_pos hlt, if_neg (by rw [h1]; simp)]
      · have hd := dist_sc h2 hg hqg
        have hsq : s q = false := by
          cases hs : s q
          · rfl
          · have := h5 q h2 hs; omega
        refine .inl ⟨?_, sc1 q n, sc1_lt h2, ?_, fun p hp hs => ?_, fun p hp hs => ?_, by omega⟩
        · unfold stepS
          rw [h1]
          cases hwg : w g with
          | none => rfl
          | some z =>
            exfalso
            have := h4 g hg (by rw [hwg]; rfl)
            have h0 : dist n g g = 0 := by unfold dist; simp
            omega
        · show (outR f s w (pm1 (sc1 q n) n)).isSome = true
          rw [hw q h2]
          unfold outR
          rw [hy]
          show Option.isSome (if y < f q then (if s q = true then none else some (f q)) else some y) = true
          split
          · rw [if_neg (by rw [hsq]; simp)]; rfl
          · rfl
        · obtain ⟨x, hx⟩ := Option.isSome_iff_exists.1 hs
          have hx : outR f s w (pm1 p n) = some x := hx
          obtain ⟨y, hy, _⟩ := out_some hx
          have q3 := h4 _ (pm1_lt hp) (by rw [hy]; rfl)
          have q4 : pm1 p n ≠ g := fun e => by
            rw [e] at q3
            have h0 : dist n g g = 0 := by unfold dist; simp
            omega
          have q5 := dist_sc (pm1_lt hp) hg q4
          rw [sc_pm hp] at q5
          omega
        · unfold stepS at hs
          cases hsp : s p
          · rw [hsp] at hs
            cases hwp : w p with
            | none => rw [hwp] at hs; cases hs
            | some z =>
              have := h4 p hp (by rw [hwp]; rfl)
              omega
          · have := h5 p hp hsp
            omega
    · have hp : (g + 1 + k) % n < n := Nat.mod_lt _ (by omega)
      have hne : k + 1 ≠ n := fun e => by
        rw [show g + 1 + k = g + n by omega, Nat.add_mod_right, Nat.mod_eq_of_lt hg] at h2
        exact hno g hg h2
      refine .inr ⟨k + 1, by omega, ?_, by omega⟩
      have e3 : (g + 1 + (k + 1)) % n = sc1 ((g + 1 + k) % n) n := by rw [← sc1_eq hp, Nat.mod_add_mod]; rfl
      rw [e3]
      show outR f s w (pm1 (sc1 ((g + 1 + k) % n) n) n) = some (f g)
      rw [hw _ hp]
      unfold outR
      rw [h2]
      show (if f g < f ((g + 1 + k) % n) then _ else _) = _
      rw [if_neg (by have := hmax _ hp; omega)]
/-- The place of the greatest. -/
theorem great_at {f : Nat → Int} {n : Nat} (h : 1 ≤ n) : ∃ g, g < n ∧ ∀ j, j < n → f j ≤ f g := by
  obtain ⟨⟨p, h1, h2⟩, h3⟩ := maxTo_spec f h
  exact ⟨p, h1, fun j hj => by rw [← h2]; exact h3 j hj⟩
theorem rinv_all {n g : Nat} {f : Nat → Int} {b : Nat → Bool} (hR : RingOk f n) (hg : g < n) (hmax : ∀ j, j < n → f j ≤ f g) (hb : ∃ i, i < n ∧ b i = true) : ∀ t, NoHome n f b t → RInv n g f t (RW n f b t).1 (RW n f b t).2
  | 0, _ => rinv_start hg hb
  | t + 1, h => rinv_step hR hg hmax (rinv_all hR hg hmax hb t fun i hi => h i (by omega)) (h t (by omega))
theorem RInv.live {n g : Nat} {f : Nat → Int} {t : Nat} {w : Way} {s : Nat → Bool} (h : RInv n g f t w s) (hn : 1 ≤ n) : 1 ≤ cw n w ∧ t + 2 ≤ 2 * n := by
  rcases h.ph with ⟨_, q, h1, h2, _, _, h3⟩ | ⟨k, h1, h2, h3⟩
  · exact ⟨cw_pos h1 h2, by omega⟩
  · exact ⟨cw_pos (Nat.mod_lt _ (by omega)) (by rw [h2]; rfl), by omega⟩
/-- Who is at home is the greatest. -/
theorem home_great {n : Nat} {f : Nat → Int} {b : Nat → Bool} {t p : Nat} (hR : RingOk f n) (hb : ∃ i, i < n ∧ b i = true) (hno : NoHome n f b t) (hp : p < n) (hh : (RW n f b t).1 p = some (f p)) : (∀ j, j < n → f j ≤ f p) ∧ n ≤ t + 1 ∧ n ≤ tot n f b t := by
  obtain ⟨g, hg, hmax⟩ := great_at (f := f) hR.sz.1
  have hI := rinv_all hR hg hmax hb t hno
  obtain ⟨o, k, q1, q2, q3, q4, q5, q6, q7, q8⟩ := hI.tok p _ hp hh
  obtain rfl : p = o := hR.eq hp q1 q3
  have hk : k = n := by
    rw [add_mod_lt q1 q5] at q7
    split at q7 <;> omega
  subst hk
  refine ⟨fun j hj => ?_, q6, ?_⟩
  · by_cases e : j = p
    · rw [e]; exact Int.le_refl _
    · by_cases e2 : p < j
      · have := q8 (j - p) (by omega) (by omega)
        rw [show p + (j - p) = j by omega, Nat.mod_eq_of_lt hj] at this
        omega
      · have := q8 (j + k - p) (by omega) (by omega)
        rw [show p + (j + k - p) = j + k by omega, Nat.add_mod_right, Nat.mod_eq_of_lt hj] at this
        omega
  · have h1 : (t + 1) * 1 ≤ tot k f b t := sumN_ge fun i hi => ((rinv_all hR hg hmax hb i fun j hj => hno j (by omega)).live hR.sz.1).1
    omega
end Go.Proofs.Ytelenomccmnkfaa
