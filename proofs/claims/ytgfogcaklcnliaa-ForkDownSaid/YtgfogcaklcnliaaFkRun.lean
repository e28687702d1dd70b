/- Runs of turns: the plain laws. -/
import Derived.Test.YtgfogcaklcnliaaFkMath
set_option linter.unusedVariables false
set_option linter.unusedSimpArgs false
namespace Go.Proofs.Ytgfogcaklcnliaa
open Relation

def runL (n : Nat) (l : Lk) : Nat → Lk
  | 0 => l
  | r + 1 => turnL (runL n l r) (low n (runL n l r))
def bitN (S i : Nat) : Nat := if S.testBit i then 1 else 0
def oft (n : Nat) (l : Lk) : Nat → Nat → Nat
  | 0, _ => 0
  | r + 1, i => oft n l r i + bitN (low n (runL n l r)) i
theorem bitN_le (S i : Nat) : bitN S i ≤ 1 := by unfold bitN; split <;> omega
theorem runL_len (n : Nat) (l : Lk) (r : Nat) : (runL n l r).length = l.length := by
  induction r with
  | zero => rfl
  | succ r ih => rw [runL, turn_len, ih]
theorem runL_ok {n : Nat} {l : Lk} (h : LOk n l) (r : Nat) : LOk n (runL n l r) := by
  induction r with
  | zero => exact h
  | succ r ih => exact turn_ok ih _
theorem runL_cyc {n : Nat} {l : Lk} (h : LOk n l) (r : Nat) : Cyc (runL n l r) ↔ Cyc l := by
  induction r with
  | zero => exact Iff.rfl
  | succ r ih => exact (turn_cyc (runL_ok h r) (low_sinks (runL_ok h r))).trans ih
theorem runL_add (n : Nat) (l : Lk) (a b : Nat) : runL n l (a + b) = runL n (runL n l a) b ∧ ∀ i, oft n l (a + b) i = oft n l a i + oft n (runL n l a) b i := by
  induction b with
  | zero => exact ⟨rfl, fun i => rfl⟩
  | succ b ih =>
    obtain ⟨h1, h2⟩ := ih
    refine ⟨?_, fun i => ?_⟩
    · show turnL (runL n l (a + b)) (low n (runL n l (a + b))) = _
      rw [h1]; rfl
    · show oft n l (a + b) i + bitN (low n (runL n l (a + b))) i = _
      rw [h1, h2, Nat.add_assoc]; rfl
theorem oft_le (n : Nat) (l : Lk) (r i : Nat) : oft n l r i ≤ r := by
  induction r with
  | zero => exact Nat.le_refl _
  | succ r ih => have := bitN_le (low n (runL n l r)) i; rw [oft]; omega
/-- How a link stands, and how often its ends were turned. -/
theorem link_inv {n : Nat} {l : Lk} (h : LOk n l) (r : Nat) {j : Nat} (hj : j < l.length) :
    (f1 (runL n l r) j = f1 l j ∧ f2 (runL n l r) j = f2 l j ∧ oft n l r (f1 l j) = oft n l r (f2 l j)) ∨
    (f1 (runL n l r) j = f2 l j ∧ f2 (runL n l r) j = f1 l j ∧ oft n l r (f2 l j) = oft n l r (f1 l j) + 1) := by
  induction r with
  | zero => exact .inl ⟨rfl, rfl, rfl⟩
  | succ r ih =>
    have hj' : j < (runL n l r).length := by rw [runL_len]; exact hj
    obtain ⟨t1, t2⟩ := turn_at (S := low n (runL n l r)) hj'
    have hs := low_sinks (runL_ok h r) _ (f_mem hj')
    simp only at hs
    show (f1 (turnL (runL n l r) (low n (runL n l r))) j = _ ∧ f2 (turnL (runL n l r) (low n (runL n l r))) j = _ ∧ oft n l r _ + bitN (low n (runL n l r)) _ = oft n l r _ + bitN (low n (runL n l r)) _) ∨ (f1 (turnL (runL n l r) (low n (runL n l r))) j = _ ∧ f2 (turnL (runL n l r) (low n (runL n l r))) j = _ ∧ oft n l r _ + bitN (low n (runL n l r)) _ = oft n l r _ + bitN (low n (runL n l r)) _ + 1)
    rw [t1, t2]
    generalize low n (runL n l r) = S at hs ⊢
    rcases ih with ⟨e1, e2, e3⟩ | ⟨e1, e2, e3⟩
    · rw [e1, e2]
      rw [e1] at hs
      unfold bitN
      rw [hs]
      cases hb : S.testBit (f2 l j)
      · exact .inl ⟨rfl, rfl, by simp; exact e3⟩
      · exact .inr ⟨rfl, rfl, by simp; omega⟩
    · rw [e1, e2]
      rw [e1] at hs
      unfold bitN
      rw [hs]
      cases hb : S.testBit (f1 l j)
      · exact .inr ⟨rfl, rfl, by simp; omega⟩
      · exact .inl ⟨rfl, rfl, by simp; omega⟩
/-- Of two that are linked the one was turned no more than once oftener. -/
theorem fair {n : Nat} {l : Lk} (h : LOk n l) (r : Nat) {j : Nat} (hj : j < l.length) : (oft n l r (f1 l j) : Int) - oft n l r (f2 l j) ≥ -1 ∧ (oft n l r (f1 l j) : Int) - oft n l r (f2 l j) ≤ 1 := by
  rcases link_inv h r hj with ⟨_, _, e⟩ | ⟨_, _, e⟩ <;> omega
theorem oft_mono (n : Nat) (l : Lk) {r s : Nat} (h : r ≤ s) (i : Nat) : oft n l r i ≤ oft n l s i := by
  induction h with
  | refl => exact Nat.le_refl _
  | step _ ih => exact Nat.le_trans ih (by rw [oft]; omega)
/-- Behind as many rounds as processes each one was turned. -/
theorem all_turned {n : Nat} {l : Lk} (h : LOk n l) (hc : ¬ Cyc l) {i : Nat} (hi : i < n) {r : Nat} (hr : n ≤ r) : 1 ≤ oft n l r i := by
  apply Classical.byContradiction
  intro hno
  have h0 : oft n l n i = 0 := by have := oft_mono n l hr i; omega
  apply hc
  refine path_cyc (R := Ln l) (n := n) (fun r v => v < n ∧ oft n l r v = 0) (fun r v hv => hv.1) ?_ (v := i) ⟨hi, h0⟩
  intro r v ⟨hv, hz⟩
  have hz1 : oft n l r v = 0 ∧ bitN (low n (runL n l r)) v = 0 := by rw [oft] at hz; omega
  have hb : (low n (runL n l r)).testBit v = false := by
    cases hb : (low n (runL n l r)).testBit v with
    | false => rfl
    | true => have := hz1.2; unfold bitN at this; rw [hb] at this; simp at this
  have hok := runL_ok h r
  obtain ⟨x, hx, hxv⟩ : ∃ x, x ∈ runL n l r ∧ x.1 = v := by
    apply Classical.byContradiction
    intro hno
    have : (low n (runL n l r)).testBit v = true := (low_bit h.h6 (fun x hx => (hok.rg x hx).1) v).2 ⟨hv, fun x hx he => hno ⟨x, hx, he⟩⟩
    rw [this] at hb
    cases hb
  obtain ⟨j, hj, e1, e2⟩ := mem_f hx
  rw [runL_len] at hj
  rcases link_inv h r hj with ⟨a1, a2, a3⟩ | ⟨a1, a2, a3⟩
  · refine ⟨f2 l j, ?_, (h.at_ hj).2.1, ?_⟩
    · show (v, f2 l j) ∈ l
      rw [← hxv, ← e1, a1]; exact f_mem hj
    · rw [← a3, ← a1, e1, hxv]; exact hz1.1
  · exfalso
    rw [← a1, e1, hxv] at a3
    omega
end Go.Proofs.Ytgfogcaklcnliaa
