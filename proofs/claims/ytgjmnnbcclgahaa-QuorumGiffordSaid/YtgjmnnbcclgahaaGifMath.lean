/- QuorumGifford's plain law. -/
import Derived.Test.YtgjmnnbcclgahaaBetMath
import Derived.Test.YtgjmnnbcclgahaaSum
set_option linter.unusedVariables false
set_option linter.unusedSimpArgs false
namespace Go.Proofs.Ytgjmnnbcclgahaa
open Go.RowKit

/-- The votes of a set. -/
def vs (v : Nat → Nat) (n s : Nat) : Nat := sumN n (fun i => v i * (if s.testBit i then 1 else 0))
def clr (s i : Nat) : Nat := s &&& (4294967295 - 2 ^ i)
theorem clr_bit {s i : Nat} (hi : i < 32) (hs : s < 4294967296) (j : Nat) : (clr s i).testBit j = (s.testBit j && !decide (j = i)) := by
  have hp := pow_lt32 hi
  rw [clr, Nat.testBit_and]
  have : 4294967295 - 2 ^ i = 2 ^ 32 - (2 ^ i + 1) := by omega
  rw [this, Nat.testBit_two_pow_sub_succ (by omega : 2 ^ i < 2 ^ 32), Nat.testBit_two_pow]
  by_cases hj : j < 32
  · have : decide (i = j) = decide (j = i) := by rw [decide_eq_decide]; exact ⟨Eq.symm, Eq.symm⟩
    simp [hj, this]
  · rw [testBit_big hs (by omega)]; simp
theorem clr_lt {s i : Nat} (hi : i < 32) (hs : s < 4294967296) (h : s.testBit i = true) : clr s i < s := by
  refine Nat.lt_of_le_of_ne Nat.and_le_left fun e => ?_
  have := clr_bit hi hs i
  rw [e, h] at this; simp at this
theorem clr_bits {s i : Nat} (hi : i < 32) (hs : s < 4294967296) : bits .andNot .u32 (s : Int) (2 ^ i % 4294967296) = ((clr s i : Nat) : Int) := by
  have hp := pow_lt32 hi
  rw [pow_mod hi, u32_andNot_nat _ _ hs hp]
  rfl
theorem vs_mono {v : Nat → Nat} {n a b : Nat} (h : ∀ i, i < n → a.testBit i = true → b.testBit i = true) : vs v n a ≤ vs v n b :=
  sumN_mono fun i hi => Nat.mul_le_mul_left _ (by
    cases ha : a.testBit i
    · simp
    · rw [h i hi ha]; simp)
theorem vs_zero (v : Nat → Nat) (n : Nat) : vs v n 0 = 0 := by
  have : sumN n (fun i => v i * (if (0 : Nat).testBit i then 1 else 0)) ≤ n * 0 := sumN_le fun j _ => by simp
  unfold vs; omega
theorem vs_two {v : Nat → Nat} {n a b : Nat} (h : ∀ i, i < n → a.testBit i = true → b.testBit i = false) : vs v n a + vs v n b ≤ sumN n v := by
  rw [vs, vs, ← sumN_add]
  refine sumN_mono fun i hi => ?_
  cases ha : a.testBit i
  · cases b.testBit i <;> simp
  · rw [h i hi ha]; simp
theorem vs_comp {v : Nat → Nat} {n s : Nat} (hs : s < 2 ^ n) : vs v n s + vs v n (2 ^ n - 1 - s) = sumN n v := by
  rw [vs, vs, ← sumN_add]
  refine sumN_congr fun i hi => ?_
  rw [stuck_bit hs]
  cases s.testBit i <;> simp [hi]
theorem vs_le {v : Nat → Nat} {n s c : Nat} (hv : ∀ i, i < n → v i ≤ c) : vs v n s ≤ n * c :=
  sumN_le fun i hi => by have := hv i hi; split <;> omega
/-- A set with votes enough, none of whose members can be spared. -/
def isL (v : Nat → Nat) (n most s : Nat) : Prop := most ≤ vs v n s ∧ ∀ i, i < n → s.testBit i = true → vs v n (clr s i) < most
instance (v : Nat → Nat) (n most s : Nat) : Decidable (isL v n most s) := by unfold isL; infer_instance
def vl (v : Nat → Nat) (n most k : Nat) : List Nat := (List.range k).filter (fun s => decide (isL v n most s))
theorem vl_yes {v : Nat → Nat} {n most k : Nat} (h : isL v n most k) : vl v n most (k + 1) = vl v n most k ++ [k] := by
  rw [vl, List.range_succ, List.filter_append]; simp [vl, h]
theorem vl_no {v : Nat → Nat} {n most k : Nat} (h : ¬ isL v n most k) : vl v n most (k + 1) = vl v n most k := by
  rw [vl, List.range_succ, List.filter_append]; simp [vl, h]
theorem vl_len (v : Nat → Nat) (n most k : Nat) : (vl v n most k).length ≤ k := by
  have := List.length_filter_le (fun s => decide (isL v n most s)) (List.range k)
  rwa [List.length_range] at this
theorem vl_mem {v : Nat → Nat} {n most k x : Nat} : x ∈ vl v n most k ↔ x < k ∧ isL v n most x := by
  rw [vl, List.mem_filter, List.mem_range]; simp
theorem bits_lt {n x i : Nat} (hx : x < 2 ^ n) (h : x.testBit i = true) : i < n := by
  rcases Nat.lt_or_ge i n with h1 | h1
  · exact h1
  · rw [Nat.testBit_lt_two_pow (Nat.lt_of_lt_of_le hx (Nat.pow_le_pow_right (by omega) h1))] at h; cases h
theorem vl_sub {v : Nat → Nat} {n most a b : Nat} (h6 : n ≤ 6) (ha : a < 2 ^ n) (hb : b < 2 ^ n) (la : isL v n most a) (lb : isL v n most b) (hab : a ≠ b) : sub32 a b = false := by
  have hp := pow_small h6
  cases hq : sub32 a b
  · rfl
  · exfalso
    have hs := (sub32_iff (by omega) (by omega)).1 hq
    have : ∃ i, b.testBit i = true ∧ a.testBit i = false := by
      apply Classical.byContradiction
      intro hn
      apply hab
      apply Nat.eq_of_testBit_eq
      intro i
      cases h1 : a.testBit i
      · cases h2 : b.testBit i
        · rfl
        · exact absurd ⟨i, h2, h1⟩ hn
      · rw [hs i h1]
    obtain ⟨i, hi, hia⟩ := this
    have hin := bits_lt hb hi
    have h1 := lb.2 i hin hi
    have h2 : vs v n a ≤ vs v n (clr b i) := vs_mono fun j hj hja => by
      rw [clr_bit (by omega) (by omega), hs j hja]
      have : j ≠ i := fun e => by subst e; rw [hia] at hja; cases hja
      simp [this]
    have := la.1
    omega
theorem vl_good {v : Nat → Nat} {n most : Nat} (h6 : n ≤ 6) (hm : 1 ≤ most) (hsum : sumN n v < 2 * most) (hlen : (vl v n most (2 ^ n)).length ≤ 20) : Good n (vl v n most (2 ^ n)) := by
  have hp := pow_small h6
  refine ⟨hlen, fun x hx => ?_, ?_⟩
  · obtain ⟨h1, h2⟩ := vl_mem.1 hx
    refine ⟨fun e => ?_, h1⟩
    have := h2.1
    rw [e, vs_zero] at this
    omega
  · have hnd : (vl v n most (2 ^ n)).Pairwise (· < ·) := List.pairwise_lt_range.sublist List.filter_sublist
    refine List.Pairwise.imp_of_mem (fun {a b} ha hb hlt => ?_) hnd
    obtain ⟨ha1, ha2⟩ := vl_mem.1 ha
    obtain ⟨hb1, hb2⟩ := vl_mem.1 hb
    rw [pairBad, vl_sub h6 hb1 ha1 hb2 ha2 (by omega), vl_sub h6 ha1 hb1 ha2 hb2 (by omega)]
    cases hq : andZ b a
    · rfl
    · exfalso
      have hz := (and_zero (by omega) (by omega)).1 hq
      have h1 := vs_two (v := v) (n := n) (a := b) (b := a) fun i _ hi => hz i hi
      have h2 := ha2.1
      have h3 := hb2.1
      omega
theorem vl_wins {v : Nat → Nat} {n most : Nat} (h6 : n ≤ 6) : ∀ s, s < 2 ^ n → most ≤ vs v n s → winsB (lf (vl v n most (2 ^ n))) (vl v n most (2 ^ n)).length s = true := by
  have hp := pow_small h6
  intro s
  induction s using Nat.strongRecOn with
  | _ s ih =>
    intro hs hm
    by_cases hl : isL v n most s
    · exact (lf_wins _ _).2 ⟨s, vl_mem.2 ⟨hs, hl⟩, sub_refl (by omega)⟩
    · have : ∃ i, i < n ∧ s.testBit i = true ∧ most ≤ vs v n (clr s i) := by
        apply Classical.byContradiction
        intro hn
        exact hl ⟨hm, fun i hi hb => by
          rcases Nat.lt_or_ge (vs v n (clr s i)) most with h | h
          · exact h
          · exact absurd ⟨i, hi, hb, h⟩ hn⟩
      obtain ⟨i, hi, hb, hv⟩ := this
      have hlt := clr_lt (by omega) (by omega) hb
      obtain ⟨x, hx, hxs⟩ := (lf_wins _ _).1 (ih _ hlt (by omega) hv)
      refine (lf_wins _ _).2 ⟨x, hx, ?_⟩
      have hx2 := (vl_mem.1 hx).1
      refine (sub32_iff (by omega) (by omega)).2 fun j hj => ?_
      have := (sub32_iff (by omega) (by omega)).1 hxs j hj
      rw [clr_bit (by omega) (by omega)] at this
      simp at this
      exact this.1
theorem vl_full {v : Nat → Nat} {n most : Nat} (h6 : n ≤ 6) (hsum : 2 * most = sumN n v + 1) : loserIs (lf (vl v n most (2 ^ n))) (vl v n most (2 ^ n)).length n = false := by
  refine anyTo_no.2 fun s hs => ?_
  have hc := vs_comp (v := v) hs
  rw [loseB]
  rcases Nat.lt_or_ge (vs v n s) most with h | h
  · rw [vl_wins (v := v) (most := most) h6 (2 ^ n - 1 - s) (by have := Nat.two_pow_pos n; omega) (by omega)]; simp
  · rw [vl_wins (v := v) (most := most) h6 s hs h]; simp
end Go.Proofs.Ytgjmnnbcclgahaa
