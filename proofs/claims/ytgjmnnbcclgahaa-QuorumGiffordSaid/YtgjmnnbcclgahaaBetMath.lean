/- QuorumBetter's plain law: a coterie made better wins with more sets. -/
import Derived.Test.YtgjmnnbcclgahaaQuorumOne
set_option linter.unusedVariables false
set_option linter.unusedSimpArgs false
namespace Go.Proofs.Ytgjmnnbcclgahaa
open Go.RowKit

/-- A list of sets as a function of the place. -/
def lf (L : List Nat) (j : Nat) : Nat := L.getD j 0
theorem lf_at {L : List Nat} {j : Nat} (h : j < L.length) : lf L j = L[j] := by simp [lf, List.getD, h]
theorem lf_any (L : List Nat) (p : Nat → Bool) : anyTo (fun j => p (lf L j)) L.length = true ↔ ∃ x, x ∈ L ∧ p x = true := by
  rw [anyTo_iff]
  constructor
  · rintro ⟨j, hj, h⟩
    rw [lf_at hj] at h
    exact ⟨_, List.getElem_mem hj, h⟩
  · rintro ⟨x, hx, h⟩
    obtain ⟨j, hj, rfl⟩ := List.mem_iff_getElem.1 hx
    exact ⟨j, hj, by rw [lf_at hj]; exact h⟩
theorem lf_wins (L : List Nat) (s : Nat) : winsB (lf L) L.length s = true ↔ ∃ x, x ∈ L ∧ sub32 x s = true := lf_any L (fun x => sub32 x s)
theorem lf_meet (L : List Nat) : meetB (lf L) L.length = true ↔ L.Pairwise (fun b a => pairBad a b = false) := by
  rw [List.pairwise_iff_getElem]
  constructor
  · intro h i j hi hj hij
    cases hq : pairBad L[j] L[i]
    · rfl
    · rw [meetB_no (f := lf L) hj hij (by rw [lf_at hj, lf_at hi]; exact hq)] at h; cases h
  · intro h
    refine meetB_yes fun i hi => anyTo_no.2 fun j hj => ?_
    rw [lf_at hi, lf_at (by omega)]
    exact h j i (by omega) hi hj
structure Good (n : Nat) (L : List Nat) : Prop where
  len : L.length ≤ 20
  set : ∀ x, x ∈ L → x ≠ 0 ∧ x < 2 ^ n
  two : L.Pairwise (fun b a => pairBad a b = false)
theorem Good.code {n : Nat} {L : List Nat} (h : Good n L) (h1 : 1 ≤ n) (h6 : n ≤ 6) : quCode n (lf L) L.length 0 = 0 :=
  quCode_mk ⟨by omega, by omega, h.len⟩ (fun j hj => by rw [lf_at hj]; exact h.set _ (List.getElem_mem hj)) (Nat.two_pow_pos n)
theorem good_of {n : Nat} {L : List Nat} (hc : quCode n (lf L) L.length 0 = 0) (hm : meetB (lf L) L.length = true) : Good n L := by
  obtain ⟨⟨_, _, h⟩, hs, _⟩ := quCode_ok hc
  refine ⟨h, fun x hx => ?_, (lf_meet L).1 hm⟩
  obtain ⟨j, hj, rfl⟩ := List.mem_iff_getElem.1 hx
  have := hs j hj
  rwa [lf_at hj] at this
theorem loser_at {f : Nat → Nat} {m n : Nat} (h : loserIs f m n = true) : loserS f m n < 2 ^ n ∧ loseB f m n (loserS f m n) = true := by
  unfold loserS
  cases hf : (List.range (2 ^ n)).find? (loseB f m n) with
  | none =>
    rw [List.find?_range_eq_none] at hf
    obtain ⟨j, hj, hp⟩ := anyTo_iff.1 h
    have := hf j hj
    rw [hp] at this; simp at this
  | some i =>
    rw [List.find?_range_eq_some] at hf
    exact ⟨by simpa using hf.2.1, hf.1⟩
theorem loser_nil (f : Nat → Nat) (n : Nat) : loserS f 0 n = 0 := by
  have : (List.range (2 ^ n)).find? (loseB f 0 n) = some 0 := by
    rw [List.find?_range_eq_some]
    exact ⟨rfl, by simpa using Nat.two_pow_pos n, fun j hj => absurd hj (by omega)⟩
  rw [loserS, this]; rfl
/-- What wins in place of the loser; and all sets then. -/
def betW (n : Nat) (L : List Nat) : Nat := 2 ^ n - 1 - loserS (lf L) L.length n
def betL (n : Nat) (L : List Nat) : List Nat := L.filter (fun x => !sub32 (betW n L) x) ++ [betW n L]
theorem full_sub {n x : Nat} (h6 : n ≤ 6) (hx : x < 2 ^ n) : sub32 x (2 ^ n - 1) = true := by
  have hp := pow_small h6
  rw [sub32_iff (by omega) (by omega)]
  intro i hi
  rw [Nat.testBit_two_pow_sub_one]
  have : i < n := by
    rcases Nat.lt_or_ge i n with h | h
    · exact h
    · rw [Nat.testBit_lt_two_pow (Nat.lt_of_lt_of_le hx (Nat.pow_le_pow_right (by omega) h))] at hi; cases hi
  simp [this]
theorem sub_trans {x y z : Nat} (hx : x < 4294967296) (hy : y < 4294967296) (hz : z < 4294967296) (h1 : sub32 x y = true) (h2 : sub32 y z = true) : sub32 x z = true :=
  (sub32_iff hx hz).2 fun i hi => (sub32_iff hy hz).1 h2 i ((sub32_iff hx hy).1 h1 i hi)
theorem sub_refl {x : Nat} (hx : x < 4294967296) : sub32 x x = true := (sub32_iff hx hx).2 fun _ h => h
theorem bet_facts {n : Nat} {L : List Nat} (h0 : 1 ≤ n) (h6 : n ≤ 6) (hg : Good n L) (hl : loserIs (lf L) L.length n = true) :
    betW n L ≠ 0 ∧ betW n L < 2 ^ n ∧ (∀ x, x ∈ L → sub32 x (betW n L) = false ∧ andZ (betW n L) x = false) := by
  have hp := pow_small h6
  obtain ⟨hs, hlose⟩ := loser_at hl
  simp only [loseB, Bool.and_eq_true, Bool.not_eq_true'] at hlose
  have no : ∀ x, x ∈ L → sub32 x (loserS (lf L) L.length n) = false ∧ sub32 x (betW n L) = false := by
    intro x hx
    constructor
    · cases hq : sub32 x (loserS (lf L) L.length n)
      · rfl
      · rw [(lf_wins L _).2 ⟨x, hx, hq⟩] at hlose; cases hlose.1
    · cases hq : sub32 x (betW n L)
      · rfl
      · have := (lf_wins L _).2 ⟨x, hx, hq⟩
        rw [betW] at this
        rw [this] at hlose; cases hlose.2
  refine ⟨?_, by unfold betW; have := Nat.two_pow_pos n; omega, fun x hx => ⟨(no x hx).2, ?_⟩⟩
  · rcases L with _ | ⟨x, L⟩
    · unfold betW
      rw [show ([] : List Nat).length = 0 from rfl, loser_nil]
      intro e
      have : 2 ^ 1 ≤ 2 ^ n := Nat.pow_le_pow_right (by omega) h0
      omega
    · intro e
      have hx := (no x (by simp)).1
      have : loserS (lf (x :: L)) (x :: L).length n = 2 ^ n - 1 := by unfold betW at e; omega
      rw [this, full_sub h6 (hg.set x (by simp)).2] at hx
      cases hx
  · cases hq : andZ (betW n L) x
    · rfl
    · have hx2 := (hg.set x hx).2
      have hw : betW n L < 4294967296 := by unfold betW; omega
      have hz := (and_zero hw (by omega)).1 hq
      have : sub32 x (loserS (lf L) L.length n) = true := (sub32_iff (by omega) (by omega)).2 fun i hi => by
        have h1 : i < n := by
          rcases Nat.lt_or_ge i n with h | h
          · exact h
          · rw [Nat.testBit_lt_two_pow (Nat.lt_of_lt_of_le hx2 (Nat.pow_le_pow_right (by omega) h))] at hi; cases hi
        cases hb : (loserS (lf L) L.length n).testBit i
        · have := hz i (by rw [betW, stuck_bit hs, hb]; simp [h1])
          rw [this] at hi; cases hi
        · rfl
      rw [(no x hx).1] at this; cases this
theorem bet_good {n : Nat} {L : List Nat} (h0 : 1 ≤ n) (h6 : n ≤ 6) (hg : Good n L) (hl : loserIs (lf L) L.length n = true) (hlen : (betL n L).length ≤ 20) : Good n (betL n L) := by
  obtain ⟨h1, h2, h3⟩ := bet_facts h0 h6 hg hl
  refine ⟨hlen, fun x hx => ?_, ?_⟩
  · rcases List.mem_append.1 hx with hx | hx
    · exact hg.set x (List.mem_filter.1 hx).1
    · obtain rfl := List.mem_singleton.1 hx
      exact ⟨h1, h2⟩
  · refine List.pairwise_append.2 ⟨hg.two.sublist List.filter_sublist, List.pairwise_singleton _ _, fun x hx y hy => ?_⟩
    obtain rfl := List.mem_singleton.1 hy
    obtain ⟨hx, hf⟩ := List.mem_filter.1 hx
    have hf : sub32 (betW n L) x = false := by simpa using hf
    rw [pairBad, (h3 x hx).2, hf, (h3 x hx).1]
    rfl
def betN (n : Nat) (L : List Nat) : Nat := (List.range (2 ^ n)).countP (winsB (lf L) L.length)
theorem countP_lt {α : Type} {p q : α → Bool} {l : List α} (h : ∀ x, x ∈ l → p x = true → q x = true) {y : α} (hy : y ∈ l) (h1 : p y = false) (h2 : q y = true) : l.countP p < l.countP q := by
  induction l with
  | nil => cases hy
  | cons a l ih =>
    rw [List.countP_cons, List.countP_cons]
    have hle : l.countP p ≤ l.countP q := List.countP_mono_left fun x hx => h x (List.mem_cons_of_mem _ hx)
    rcases List.mem_cons.1 hy with rfl | hy
    · rw [h1, h2]; simp; omega
    · have := ih (fun x hx => h x (List.mem_cons_of_mem _ hx)) hy
      have ha := h a (by simp)
      cases hp : p a <;> cases hq : q a
      · simp; omega
      · simp; omega
      · rw [ha hp] at hq; cases hq
      · simp; omega
theorem bet_more {n : Nat} {L : List Nat} (h0 : 1 ≤ n) (h6 : n ≤ 6) (hg : Good n L) (hl : loserIs (lf L) L.length n = true) : betN n L < betN n (betL n L) := by
  obtain ⟨h1, h2, h3⟩ := bet_facts h0 h6 hg hl
  have hp := pow_small h6
  refine countP_lt (y := betW n L) (fun t ht hw => ?_) (List.mem_range.2 h2) ?_ ?_
  · have ht := List.mem_range.1 ht
    obtain ⟨x, hx, hs⟩ := (lf_wins L t).1 hw
    refine (lf_wins _ t).2 ?_
    cases hq : sub32 (betW n L) x
    · exact ⟨x, List.mem_append.2 (.inl (List.mem_filter.2 ⟨hx, by simp [hq]⟩)), hs⟩
    · exact ⟨betW n L, List.mem_append.2 (.inr (by simp)), sub_trans (by omega) (by have := (hg.set x hx).2; omega) (by omega) hq hs⟩
  · cases hq : winsB (lf L) L.length (betW n L)
    · rfl
    · obtain ⟨x, hx, hs⟩ := (lf_wins L _).1 hq
      rw [(h3 x hx).1] at hs; cases hs
  · exact (lf_wins _ _).2 ⟨betW n L, List.mem_append.2 (.inr (by simp)), sub_refl (by omega)⟩
theorem betN_le (n : Nat) (L : List Nat) : betN n L ≤ 2 ^ n := by
  have := List.countP_le_length (p := winsB (lf L) L.length) (l := List.range (2 ^ n))
  rwa [List.length_range] at this
/-- A list that is full has a set. -/
theorem full_pos {n : Nat} {L : List Nat} (hl : loserIs (lf L) L.length n = false) : 0 < L.length := by
  rcases L with _ | ⟨x, L⟩
  · have := anyTo_no.1 hl 0 (Nat.two_pow_pos n)
    cases this
  · simp
end Go.Proofs.Ytgjmnnbcclgahaa
