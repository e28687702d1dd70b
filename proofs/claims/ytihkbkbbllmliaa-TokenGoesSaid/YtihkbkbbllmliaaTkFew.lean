/- How many are sent in token, and that it goes on. -/
import Derived.Test.YtihkbkbbllmliaaTkRay3
import Derived.Test.YtihkbkbbllmliaaTkLaw
import Derived.Test.YtihkbkbbllmliaaDrain
set_option linter.unusedVariables false
set_option linter.unusedSimpArgs false
namespace Go.Proofs.Ytihkbkbbllmliaa

theorem itv_in (v : Nat → Nat) : ∀ k i, itv v (k + 1) i = itv v k (v i)
  | 0, _ => rfl
  | k + 1, i => by rw [itv, itv_in v k i]; rfl
theorem rch_itv {v : Nat → Nat} {r : Nat} : ∀ k i, itv v k i = r → Rch v r i
  | 0, i, h => by have h : i = r := h; rw [h]; exact .base
  | k + 1, i, h => by
    by_cases e : i = r
    · rw [e]; exact .base
    · exact .step e (rch_itv k (v i) (by rw [← itv_in]; exact h))
theorem rs_start {n r : Nat} {u : Nat → Int} (ht : TreeOk n u) (hr : rootsL (vN u) n = [r]) : RS n (KS0 (vN u) r) r 0 := by
  obtain ⟨r', h1, h2, h3, h4⟩ := ht.root
  rw [hr] at h1
  injection h1 with h1
  subst h1
  have hr0 : ((r : Nat) : Int) ≠ -1 := by omega
  refine ⟨⟨r, h2, fun i hi => ?_, fun i x hx => ?_, fun i => ?_, .inl ⟨rfl, h3⟩, .inl rfl, fun y x hm => ?_, fun y _ _ => rfl, fun y x => ?_, fun y x hne => absurd rfl hne, fun i hi => rch_itv n i (h4 i hi)⟩, fun h => absurd h hr0, fun _ => ⟨rfl, .inr rfl⟩⟩
  · have := ht.ins i hi
    show vN u i < n
    unfold vN; omega
  · have hx : x ∈ ([] : List Nat) := hx
    simp at hx
  · exact Nat.zero_le _
  · have hm : y ∈ ([] : List Nat) := hm
    simp at hm
  · exact (if_neg (fun h => hr0 h.1)).symm
/-- What was done, counted. -/
def wantC (n : Nat) (v : Nat → Nat) (r : Nat) (M : Mv) : Nat → Nat
  | 0 => 0
  | j + 1 => wantC n v r M j + if tkC n v r M j = 0 ∧ M.k j = 1 then 1 else 0
def tookC (n : Nat) (v : Nat → Nat) (r : Nat) (M : Mv) : Nat → Nat
  | 0 => 0
  | j + 1 => tookC n v r M j + if tkC n v r M j = 0 ∧ M.k j = 2 then 1 else 0
def flyN (s : KS) : Nat := if s.has = -1 then 1 else 0
def KFew (n : Nat) (s : KS) (W T : Nat) : Prop := ∃ loc c, ∃ J : Int, RS n s loc c ∧ pendN n s ≤ W ∧ (s.inn ≠ -1 → pendN n s + 1 ≤ W) ∧ J = (W : Int) - pendN n s + flyN s ∧ (T : Int) + DN n s loc c ≤ 2 * ((n : Int) - 1) * J
theorem come_split {n f t : Nat} {k l : Nat} {s : KS} (hJ : KJ n k l s) (hf : f < n) (ht : t < n) (hft : f ≠ t) {W T : Nat} (h : KFew n s W T) : KFew n (comeK f t s).2 W (T + if (comeK f t s).1 = 0 then 1 else 0) := by
  obtain ⟨loc, c, J, h1, h2, h3, h4, h5⟩ := h
  obtain ⟨src, hR⟩ := h1.ray
  cases hw : s.way (f, t) with
  | nil =>
    have e : comeK f t s = (5, s) := by unfold comeK; rw [hw]
    rw [e]
    exact ⟨loc, c, J, h1, h2, h3, h4, by simpa using h5⟩
  | cons x r =>
    have e : comeK f t s = (0, if x = true then giveK t { popK f t r s with has := t, pt := upd s.pt t t } else standK t f (popK f t r s)) := by unfold comeK; rw [hw]
    rw [e, if_pos rfl]
    show KFew n (if x = true then giveK t { popK f t r s with has := t, pt := upd s.pt t t } else standK t f (popK f t r s)) W (T + 1)
    cases x with
    | false =>
      rw [if_neg (by decide)]
      obtain ⟨loc', c', g1, g2, g3, g4⟩ := rs_ask h1 hw
      rcases g4 with ⟨g4, g5⟩ | ⟨g4, g5, g6, g7⟩
      · refine ⟨loc', c', J, g1, by omega, fun q => by rw [g3] at q; have := h3 q; omega, ?_, by omega⟩
        rw [h4, g2]
        congr 2
        unfold flyN
        by_cases q : s.has = -1
        · rw [if_pos q, if_pos (g4.2 q)]
        · rw [if_neg q, if_neg (fun h => q (g4.1 h))]
      · refine ⟨loc', c', J + 1, g1, by omega, fun q => by rw [g3] at q; have := h3 q; omega, ?_, ?_⟩
        · rw [h4, g2]
          unfold flyN
          rw [if_neg g4, if_pos g5]; omega
        · rw [Int.mul_add, Int.mul_one]; omega
    | true =>
      rw [if_pos rfl]
      obtain ⟨loc', c', g1, g2, g3, g4, g5⟩ := rs_token h1 hw
      rcases g5 with ⟨g5, g6, g7⟩ | ⟨g5, g6, g7⟩
      · refine ⟨loc', c', J, g1, by omega, fun q => absurd g6 q, ?_, by omega⟩
        rw [h4, g7]
        unfold flyN
        rw [if_pos g2, if_pos g5]
      · refine ⟨loc', c', J, g1, by omega, fun _ => by omega, ?_, by omega⟩
        rw [h4]
        unfold flyN
        rw [if_pos g2, if_neg g5]; omega
theorem tkBad_f {n : Nat} {k f t : Int} (hb : ¬ tkBad n k f t = true) : 0 ≤ f ∧ f < n := by
  simp only [tkBad, Bool.or_eq_true, not_or, Bool.not_eq_true, Bool.not_eq_false', Bool.and_eq_true, decide_eq_true_eq] at hb
  exact hb.1
theorem few_stepK {n k0 l0 W T : Nat} {k f t : Int} {s : KS} (hJ : KJ n k0 l0 s) (h : KFew n s W T) : KFew n (tkStep n k f t s).2 (W + if (tkStep n k f t s).1 = 0 ∧ k = 1 then 1 else 0) (T + if (tkStep n k f t s).1 = 0 ∧ k = 2 then 1 else 0) := by
  by_cases hk : k < 1 ∨ 3 < k
  · have e : tkStep n k f t s = (6, s) := by unfold tkStep; rw [if_pos hk]
    rw [e]; exact h
  by_cases hb : tkBad n k f t = true
  · have e : tkStep n k f t s = (2, s) := by unfold tkStep; rw [if_neg hk, if_pos hb]
    rw [e]; exact h
  have hf := tkBad_f hb
  have hfn : f.toNat < n := by omega
  by_cases hk2 : k = 2
  · subst hk2
    have ht : (0 ≤ t ∧ t < n) ∧ f ≠ t := by
      simp [tkBad] at hb
      omega
    have e : tkStep n 2 f t s = comeK f.toNat t.toNat s := by unfold tkStep; rw [if_neg hk, if_neg hb, if_pos rfl]
    rw [e]
    have := come_split hJ hfn (show t.toNat < n by omega) (by omega) h
    rw [if_neg (fun h => by omega)]
    by_cases q : (comeK f.toNat t.toNat s).1 = 0
    · rw [if_pos ⟨q, rfl⟩]; rw [if_pos q] at this; exact this
    · rw [if_neg (fun h => q h.1)]; rw [if_neg q] at this; exact this
  obtain ⟨loc, c, J, h1, h2, h3, h4, h5⟩ := h
  obtain ⟨src, hR⟩ := h1.ray
  by_cases hk1 : k = 1
  · subst hk1
    have e : tkStep n 1 f t s = (if s.inn = f ∨ f.toNat ∈ s.row f.toNat then (7, s) else (0, standK f.toNat f.toNat s)) := by unfold tkStep; rw [if_neg hk, if_neg hb, if_neg (by decide), if_pos rfl]
    by_cases hs : s.inn = f ∨ f.toNat ∈ s.row f.toNat
    · rw [e, if_pos hs]
      exact ⟨loc, c, J, h1, h2, h3, h4, h5⟩
    · rw [e, if_neg hs]
      obtain ⟨loc', c', g1, g2, g3, g4⟩ := rs_want h1 hfn (fun q => hs (.inl (by omega))) (fun q => hs (.inr q))
      rw [if_pos ⟨rfl, rfl⟩, if_neg (fun h => by omega)]
      have hfly : flyN (standK f.toNat f.toNat s) = flyN s := by
        unfold flyN
        by_cases q : s.has = -1
        · rw [if_pos q, if_pos (g3.2 q)]
        · rw [if_neg q, if_neg (fun h => q (g3.1 h))]
      show KFew n (standK f.toNat f.toNat s) (W + 1) T
      generalize standK f.toNat f.toNat s = s2 at *
      rcases g4 with ⟨g4, g5⟩ | ⟨g4, g5, g6, g7⟩
      · exact ⟨loc', c', J, g1, by omega, fun q => by rw [g4] at q; have := h3 q; omega, by rw [hfly, g5]; omega, by omega⟩
      · refine ⟨loc', c', J + 1, g1, by omega, fun _ => by omega, by rw [hfly, g7]; omega, ?_⟩
        have := hR.lt
        have hK : 0 ≤ 2 * ((n : Int) - 1) := by omega
        rw [g2, Int.mul_add, Int.mul_one]
        omega
  · have hk3 : k = 3 := by omega
    subst hk3
    have e : tkStep n 3 f t s = (if s.inn ≠ f then (7, s) else (0, giveK f.toNat { s with inn := -1 })) := by unfold tkStep; rw [if_neg hk, if_neg hb, if_neg (by decide), if_neg (by decide)]
    rw [if_neg (fun h => by omega), if_neg (fun h => by omega)]
    by_cases hs : s.inn ≠ f
    · rw [e, if_pos hs]
      exact ⟨loc, c, J, h1, h2, h3, h4, h5⟩
    · rw [e, if_neg hs]
      have hs : s.inn = f.toNat := by omega
      show KFew n (giveK f.toNat { s with inn := -1 }) W T
      obtain ⟨loc', c', g1, g2, g3, g4, g5⟩ := rs_leave h1 hs (hJ.out _ hs)
      generalize giveK f.toNat { s with inn := -1 } = s2 at *
      rcases g5 with ⟨g5, g6⟩ | ⟨g5, g6⟩
      · refine ⟨loc', c', J, g1, by omega, fun q => absurd g3 q, ?_, by omega⟩
        rw [h4, g4]
        unfold flyN
        rw [if_neg g2, if_neg g5]
      · refine ⟨loc', c', J + 1, g1, by omega, fun q => absurd g3 q, ?_, ?_⟩
        · rw [h4, g4]
          unfold flyN
          rw [if_neg g2, if_pos g5]; omega
        · rw [Int.mul_add, Int.mul_one]
          omega
theorem pend0 (n : Nat) (v : Nat → Nat) (r : Nat) : pendN n (KS0 v r) = 0 := by
  have : pendN n (KS0 v r) = sumN n fun _ => 0 := rfl
  rw [this]
  have := sumN_le (g := fun _ => 0) (c := 0) (n := n) (fun _ _ => Nat.le_refl _)
  omega
theorem out0 (n : Nat) (v : Nat → Nat) (r : Nat) : outN n (KS0 v r) r = 0 := by
  have h : outN n (KS0 v r) r = sumN n fun _ => 0 := sumN_congr fun j _ => if_neg (fun h => h.2 rfl)
  rw [h]
  have := sumN_le (g := fun _ => 0) (c := 0) (n := n) (fun _ _ => Nat.le_refl _)
  omega
theorem way0K (n : Nat) {q : Nat × Nat → List Bool} (h : ∀ p, q p = []) : wayLen n q = 0 := by
  unfold wayLen
  have : ∀ l : List (Nat × Nat), (l.map fun p => (q p).length).sum = 0 := by
    intro l
    induction l with
    | nil => rfl
    | cons x l ih => rw [List.map_cons, List.sum_cons, ih, h x]; rfl
  exact this _
theorem few_allK {n r : Nat} {u : Nat → Int} (ht : TreeOk n u) (hr : rootsL (vN u) n = [r]) (M : Mv) : ∀ j, KFew n (tkE n (vN u) r M j) (wantC n (vN u) r M j) (tookC n (vN u) r M j)
  | 0 => by
    refine ⟨r, 0, 0, rs_start ht hr, by show pendN n (KS0 (vN u) r) ≤ _; rw [pend0]; exact Nat.le_refl _, fun q => absurd rfl q, ?_, ?_⟩
    · have h1 : flyN (tkE n (vN u) r M 0) = 0 := if_neg (by show ((r : Nat) : Int) ≠ -1; omega)
      have h2 : pendN n (tkE n (vN u) r M 0) = 0 := pend0 n _ r
      rw [h1, h2]; rfl
    · have h1 : outN n (tkE n (vN u) r M 0) r = 0 := out0 n _ r
      have h2 : wayLen n (tkE n (vN u) r M 0).way = 0 := way0K n fun _ => rfl
      unfold DN
      rw [h1, h2]
      simp [tookC]
  | j + 1 => few_stepK (tkE_J (fun i hi => by have := ht.ins i hi; unfold vN; omega) M j) (few_allK ht hr M j)
/-- Nothing wanted, nothing done. -/
theorem zero_all (n r : Nat) (v : Nat → Nat) (M : Mv) : ∀ j, wantC n v r M j = 0 → tkE n v r M j = KS0 v r
  | 0, _ => rfl
  | j + 1, h => by
    rw [wantC] at h
    have h0 := zero_all n r v M j (by omega)
    have h1 : ¬ (tkC n v r M j = 0 ∧ M.k j = 1) := fun q => by rw [if_pos q] at h; omega
    rw [tkE]
    unfold tkC at h1
    rw [h0] at h1 ⊢
    generalize M.k j = k at *
    generalize M.f j = f at *
    generalize M.t j = t at *
    unfold tkStep at h1 ⊢
    split
    · rfl
    rename_i q1
    rw [if_neg q1] at h1
    split
    · rfl
    rename_i q2
    rw [if_neg q2] at h1
    have hf := tkBad_f q2
    split
    · unfold comeK
      rfl
    rename_i q3
    rw [if_neg q3] at h1
    split
    · rename_i q4
      rw [if_pos q4] at h1
      split
      · rfl
      · rename_i q5
        rw [if_neg q5] at h1
        exact absurd ⟨rfl, q4⟩ h1
    · have : (KS0 v r).inn ≠ f := by show (-1 : Int) ≠ f; omega
      rw [if_pos this]
theorem sumN_but {g : Nat → Nat} {i : Nat} : ∀ {n : Nat}, i < n → (∀ j, j < n → g j ≤ 1) → g i = 0 → sumN n g + 1 ≤ n
  | n + 1, hi, h, h0 => by
    rw [sumN]
    by_cases e : i = n
    · subst e
      have := sumN_le (g := g) (c := 1) (n := i) fun j hj => h j (by omega)
      omega
    · have := sumN_but (n := n) (by omega) (fun j hj => h j (by omega)) h0
      have := h n (by omega)
      omega
theorem outN_le {n loc : Nat} {s : KS} (h : loc < n) : outN n s loc + 1 ≤ n := sumN_but h (fun j _ => by split <;> omega) (if_neg fun h => h.1 rfl)
theorem pend_chain {n loc src x c : Nat} {s : KS} (h : RJ n s loc src) (hc : Chain s.row x c) : x < n → 1 ≤ pendN n s := by
  induction hc with
  | last h1 =>
    rename_i x l
    intro hx
    have := sumN_pos (g := fun y => (s.row y).count y) hx
    simp only [h1, List.count_cons_self] at this
    unfold pendN; omega
  | next h1 _ _ ih => exact fun _ => ih (h.row _ _ (by rw [h1]; exact List.mem_cons_self))
theorem few_end {n r : Nat} {u : Nat → Int} (hn : n ≤ 6) (ht : TreeOk n u) (hr : rootsL (vN u) n = [r]) (M : Mv) (m : Nat) : tookC n (vN u) r M m + wayLen n (tkE n (vN u) r M m).way ≤ 3 * (n - 1) * wantC n (vN u) r M m := by
  obtain ⟨loc, c, J, h1, h2, h3, h4, h5⟩ := few_allK ht hr M m
  have hz := zero_all n r (vN u) M m
  generalize tkE n (vN u) r M m = s at *
  generalize wantC n (vN u) r M m = W at *
  generalize tookC n (vN u) r M m = T at *
  obtain ⟨src, hR⟩ := h1.ray
  have hlt := hR.lt
  have ho := outN_le (s := s) hlt
  by_cases hW : W = 0
  · subst hW
    have e := hz rfl
    rw [e] at h2 h4 h5 ⊢
    have hf : flyN (KS0 (vN u) r) = 0 := if_neg (by show ((r : Nat) : Int) ≠ -1; omega)
    rw [hf, pend0] at h4
    have hw : wayLen n (KS0 (vN u) r).way = 0 := way0K n fun _ => rfl
    have ho2 : outN n (KS0 (vN u) r) loc = 0 := by
      have h : outN n (KS0 (vN u) r) loc = sumN n fun _ => 0 := sumN_congr fun j _ => if_neg (fun h => h.2 rfl)
      rw [h]
      have := sumN_le (g := fun _ => 0) (c := 0) (n := n) (fun _ _ => Nat.le_refl _)
      omega
    have hJ : J = 0 := by simp at h4; exact h4
    unfold DN at h5
    rw [hw, ho2, hJ] at h5
    rw [hw]
    simp at h5 ⊢
    omega
  · have hJ : J ≤ W := by
      rw [h4]
      unfold flyN
      split
      · rename_i q
        have := pend_chain hR (h1.fly q) hlt
        omega
      · omega
    have hJ2 : (2 * ((n : Int) - 1)) * J ≤ (2 * ((n : Int) - 1)) * W := Int.mul_le_mul_of_nonneg_left hJ (by omega)
    unfold DN at h5
    rcases (show n = 1 ∨ n = 2 ∨ n = 3 ∨ n = 4 ∨ n = 5 ∨ n = 6 by omega) with h | h | h | h | h | h
    all_goals
      subst h
      simp only [Nat.reduceSub, Nat.reduceMul] at *
      omega
end Go.Proofs.Ytihkbkbbllmliaa
