/- What one knows is kept or superseded: in plain functions. -/
import Derived.Test.YtdpigpjcldcoaaaGoMath
set_option linter.unusedVariables false
set_option linter.unusedSimpArgs false
namespace Go.Proofs.Ytdpigpjcldcoaaa

def Le (n : Nat) (a b : Nat → Nat) : Prop := ∀ t, t < n → a t ≤ b t
theorem le_cases {n : Nat} {a b : Nat → Nat} (h : Le n a b) : Lt n a b ∨ Eqv n a b := by
  by_cases h1 : ∃ t, t < n ∧ a t < b t
  · exact .inl ⟨h, h1⟩
  · refine .inr fun t ht => ?_
    have := h t ht
    exact Classical.byContradiction fun h2 => h1 ⟨t, ht, by omega⟩
theorem Lt.le {n : Nat} {a b : Nat → Nat} (h : Lt n a b) : Le n a b := h.1
theorem Eqv.le {n : Nat} {a b : Nat → Nat} (h : Eqv n a b) : Le n a b := fun t ht => Nat.le_of_eq (h t ht)
theorem Eqv.symm {n : Nat} {a b : Nat → Nat} (h : Eqv n a b) : Eqv n b a := fun t ht => (h t ht).symm
theorem Eqv.trans {n : Nat} {a b c : Nat → Nat} (h : Eqv n a b) (h' : Eqv n b c) : Eqv n a c := fun t ht => (h t ht).trans (h' t ht)
theorem Le.trans {n : Nat} {a b c : Nat → Nat} (h : Le n a b) (h' : Le n b c) : Le n a c := fun t ht => Nat.le_trans (h t ht) (h' t ht)
theorem Lt.leTrans {n : Nat} {a b c : Nat → Nat} (h : Lt n a b) (h' : Le n b c) : Lt n a c := ⟨fun t ht => Nat.le_trans (h.1 t ht) (h' t ht), by
  obtain ⟨t, ht, h1⟩ := h.2
  exact ⟨t, ht, Nat.lt_of_lt_of_le h1 (h' t ht)⟩⟩
theorem Le.ltTrans {n : Nat} {a b c : Nat → Nat} (h : Le n a b) (h' : Lt n b c) : Lt n a c := ⟨fun t ht => Nat.le_trans (h t ht) (h'.1 t ht), by
  obtain ⟨t, ht, h1⟩ := h'.2
  exact ⟨t, ht, Nat.lt_of_le_of_lt (h t ht) h1⟩⟩
theorem Lt.irr {n : Nat} {a b : Nat → Nat} (h : Lt n a b) (h' : Le n b a) : False := by
  obtain ⟨t, ht, h1⟩ := h.2
  have := h' t ht
  omega
/-- No one is less than another, or the same. -/
def Anti (n : Nat) (l : List Kn) : Prop := l.Pairwise fun a b => ¬ Le n a.vec b.vec ∧ ¬ Le n b.vec a.vec
theorem Anti.ne {n : Nat} {l : List Kn} (h : Anti n l) {i j : Nat} (hi : i < l.length) (hj : j < l.length) (hij : i ≠ j) : ¬ Le n (knAt l i).vec (knAt l j).vec := by
  have e : ∀ k, (hk : k < l.length) → knAt l k = l[k] := fun k hk => by simp [knAt, List.getD_eq_getElem?_getD, List.getElem?_eq_getElem hk]
  rw [e i hi, e j hj]
  rcases Nat.lt_or_gt_of_ne hij with h1 | h1
  · exact (List.pairwise_iff_getElem.1 h i j hi hj h1).1
  · exact (List.pairwise_iff_getElem.1 h j i hj hi h1).2
theorem Anti.eq {n : Nat} {l : List Kn} (h : Anti n l) {x y : Kn} (hx : x ∈ l) (hy : y ∈ l) (hle : Le n x.vec y.vec) : x = y := by
  obtain ⟨i, hi, rfl⟩ := in_knAt hx
  obtain ⟨j, hj, rfl⟩ := in_knAt hy
  by_cases e : i = j
  · rw [e]
  · exact absurd hle (h.ne hi hj e)
theorem Anti.nodup {n : Nat} {l : List Kn} (h : Anti n l) : l.Nodup := List.nodup_iff_pairwise_ne.2 (h.imp fun hab e => hab.1 (by rw [e]; exact fun _ _ => Nat.le_refl _))
theorem leftTo_anti (n : Nat) (l : List Kn) : ∀ i, i ≤ l.length → Anti n (leftTo n l i)
  | 0, _ => .nil
  | i + 1, hi => by
    have ih := leftTo_anti n l i (by omega)
    show Anti n (if oldTo n l i l.length then leftTo n l i else leftTo n l i ++ [knAt l i])
    cases h : oldTo n l i l.length
    · rw [if_neg (by simp)]
      refine List.pairwise_append.2 ⟨ih, List.pairwise_singleton _ _, fun x hx y hy => ?_⟩
      obtain rfl := List.mem_singleton.1 hy
      obtain ⟨k, hk, rfl, h2⟩ := leftTo_mem.1 hx
      have hi' : ∀ j, j < l.length → ¬ (Lt n (knAt l i).vec (knAt l j).vec ∨ Eqv n (knAt l i).vec (knAt l j).vec ∧ j < i) := fun j hj h3 => by
        have := oldTo_iff.2 ⟨j, hj, h3⟩
        rw [h] at this; cases this
      have hk' : ∀ j, j < l.length → ¬ (Lt n (knAt l k).vec (knAt l j).vec ∨ Eqv n (knAt l k).vec (knAt l j).vec ∧ j < k) := fun j hj h3 => by
        have := oldTo_iff.2 ⟨j, hj, h3⟩
        rw [h2] at this; cases this
      constructor
      · intro h3
        rcases le_cases h3 with h4 | h4
        · exact hk' i (by omega) (.inl h4)
        · exact hi' k (by omega) (.inr ⟨h4.symm, hk⟩)
      · intro h3
        rcases le_cases h3 with h4 | h4
        · exact hi' k (by omega) (.inl h4)
        · exact hi' k (by omega) (.inr ⟨h4, hk⟩)
    · rw [if_pos rfl]; exact ih
def sV (f : Nat → Nat) : Nat → Nat
  | 0 => 0
  | t + 1 => sV f t + f t
theorem sV_le {a b : Nat → Nat} : ∀ {n : Nat}, Le n a b → sV a n ≤ sV b n
  | 0, _ => Nat.le_refl _
  | n + 1, h => by
    have ih := sV_le (n := n) (fun t ht => h t (by omega))
    have := h n (by omega)
    show sV a n + a n ≤ sV b n + b n
    omega
theorem sV_lt {a b : Nat → Nat} : ∀ {n : Nat}, Lt n a b → sV a n < sV b n
  | 0, h => by obtain ⟨t, ht, _⟩ := h.2; omega
  | n + 1, h => by
    have h0 := sV_le (n := n) (a := a) (b := b) (fun t ht => h.1 t (by omega))
    have h1 := h.1 n (by omega)
    obtain ⟨t, ht, h2⟩ := h.2
    show sV a n + a n < sV b n + b n
    rcases Nat.lt_succ_iff_lt_or_eq.1 ht with h3 | rfl
    · have := sV_lt (n := n) (a := a) (b := b) ⟨fun t ht => h.1 t (by omega), t, h3, h2⟩
      omega
    · omega
theorem sV_bound (n : Nat) (l : List Kn) : ∃ M, ∀ x ∈ l, sV x.vec n ≤ M := by
  induction l with
  | nil => exact ⟨0, fun x hx => absurd hx List.not_mem_nil⟩
  | cons a l ih =>
    obtain ⟨M, hM⟩ := ih
    refine ⟨max M (sV a.vec n), fun x hx => ?_⟩
    rcases List.mem_cons.1 hx with rfl | h
    · omega
    · have := hM x h; omega
/-- One that is old is less than one that is not, or the same. -/
theorem left_over (n : Nat) (l : List Kn) : ∀ d i, i < l.length → (∃ M, (∀ x ∈ l, sV x.vec n ≤ M) ∧ (M - sV (knAt l i).vec n) * (l.length + 1) + i ≤ d) →
    ∃ k, k < l.length ∧ oldTo n l k l.length = false ∧ Le n (knAt l i).vec (knAt l k).vec := by
  intro d
  induction d with
  | zero =>
    rintro i hi ⟨M, hM, hd⟩
    cases h : oldTo n l i l.length
    · exact ⟨i, hi, h, fun _ _ => Nat.le_refl _⟩
    · obtain ⟨j, hj, h1⟩ := oldTo_iff.1 h
      exfalso
      rcases h1 with h1 | ⟨h1, h2⟩
      · have a1 := sV_lt h1
        have a2 := hM _ (knAt_in hj)
        have : 1 * (l.length + 1) ≤ (M - sV (knAt l i).vec n) * (l.length + 1) := Nat.mul_le_mul_right _ (by omega)
        omega
      · omega
  | succ d ih =>
    rintro i hi ⟨M, hM, hd⟩
    cases h : oldTo n l i l.length
    · exact ⟨i, hi, h, fun _ _ => Nat.le_refl _⟩
    · obtain ⟨j, hj, h1⟩ := oldTo_iff.1 h
      have hle : Le n (knAt l i).vec (knAt l j).vec := h1.elim (fun h => h.1) (fun h => h.1.le)
      obtain ⟨k, hk, hk1, hk2⟩ := ih j hj ⟨M, hM, by
        rcases h1 with h1 | ⟨h1, h2⟩
        · have a1 := sV_lt h1
          have a2 := hM _ (knAt_in hj)
          have a3 : (M - sV (knAt l j).vec n + 1) * (l.length + 1) ≤ (M - sV (knAt l i).vec n) * (l.length + 1) := Nat.mul_le_mul_right _ (by omega)
          rw [Nat.add_mul, Nat.one_mul] at a3
          omega
        · have a1 := sV_le h1.le
          have a3 : (M - sV (knAt l j).vec n) * (l.length + 1) ≤ (M - sV (knAt l i).vec n) * (l.length + 1) := Nat.mul_le_mul_right _ (by omega)
          omega⟩
      exact ⟨k, hk, hk1, hle.trans hk2⟩
/-- The same vector: the same value. -/
def OneVal (n : Nat) (W : List Kn) : Prop := ∀ x ∈ W, ∀ y ∈ W, Eqv n x.vec y.vec → x.val = y.val
/-- What is in l is in l', or less than something there. -/
def Keeps (n : Nat) (l l' : List Kn) : Prop := ∀ x ∈ l, ∃ y ∈ l', Lt n x.vec y.vec ∨ Eqv n x.vec y.vec ∧ x.val = y.val
theorem Keeps.refl (n : Nat) (l : List Kn) : Keeps n l l := fun x hx => ⟨x, hx, .inr ⟨fun _ _ => rfl, rfl⟩⟩
theorem Keeps.trans {n : Nat} {a b c : List Kn} (h : Keeps n a b) (h' : Keeps n b c) : Keeps n a c := by
  intro x hx
  obtain ⟨y, hy, h1⟩ := h x hx
  obtain ⟨z, hz, h2⟩ := h' y hy
  refine ⟨z, hz, ?_⟩
  rcases h1 with h1 | ⟨h1, e1⟩ <;> rcases h2 with h2 | ⟨h2, e2⟩
  · exact .inl (h1.leTrans h2.le)
  · exact .inl (h1.leTrans h2.le)
  · exact .inl (h1.le.ltTrans h2)
  · exact .inr ⟨h1.trans h2, e1.trans e2⟩
theorem tellL_mem {n : Nat} {a b : List Kn} {x : Kn} (h : x ∈ tellL n a b) : (x ∈ a ∨ x ∈ b) ∧ ∀ y, y ∈ a ∨ y ∈ b → ¬ Lt n x.vec y.vec := by
  obtain ⟨k, hk, rfl, h2⟩ := leftTo_mem.1 h
  refine ⟨List.mem_append.1 (knAt_in hk), fun y hy h3 => ?_⟩
  obtain ⟨j, hj, rfl⟩ := in_knAt (List.mem_append.2 hy)
  have := oldTo_iff.2 ⟨j, hj, .inl h3⟩
  rw [h2] at this; cases this
theorem tellL_keeps {n : Nat} {a b : List Kn} (hv : OneVal n (a ++ b)) : Keeps n (a ++ b) (tellL n a b) := by
  intro x hx
  obtain ⟨i, hi, rfl⟩ := in_knAt hx
  obtain ⟨M, hM⟩ := sV_bound n (a ++ b)
  obtain ⟨k, hk, h1, h2⟩ := left_over n (a ++ b) _ i hi ⟨M, hM, Nat.le_refl _⟩
  refine ⟨knAt (a ++ b) k, leftTo_mem.2 ⟨k, hk, rfl, h1⟩, ?_⟩
  rcases le_cases h2 with h3 | h3
  · exact .inl h3
  · exact .inr ⟨h3, hv _ hx _ (knAt_in hk) h3⟩
theorem tellL_anti (n : Nat) (a b : List Kn) : Anti n (tellL n a b) := leftTo_anti n _ _ (Nat.le_refl _)
end Go.Proofs.Ytdpigpjcldcoaaa
