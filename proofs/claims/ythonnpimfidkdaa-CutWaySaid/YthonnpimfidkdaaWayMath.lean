/- What is on the way in a cut: plain. -/
import Derived.Test.YthonnpimfidkdaaCutMath
set_option linter.unusedVariables false
set_option linter.unusedSimpArgs false
namespace Go.Proofs.Ythonnpimfidkdaa
open Go.RowKit

def mN (E : Ev) (j : Nat) : Nat := (E.m j).toNat
/-- Event by event: sent, and not taken. -/
def wayL (E : Ev) (c : Nat → Int) : Nat → List Nat
  | 0 => []
  | j + 1 => if inC E c j then (if E.k j = 2 then wayL E c j ++ [mN E j] else if E.k j = 3 then (wayL E c j).filter (fun x => !(x == mN E j)) else wayL E c j) else wayL E c j
def leftE (E : Ev) : Nat → Int
  | 0 => 0
  | j + 1 => leftE E j + (if E.k j = 2 then 1 else if E.k j = 3 then -1 else 0)
section
variable {n len : Nat} {E : Ev} {c : Nat → Int}
theorem wayL_len (E : Ev) (c : Nat → Int) : ∀ j, (wayL E c j).length ≤ j
  | 0 => Nat.le_refl _
  | j + 1 => by
    have ih := wayL_len E c j
    show (if _ then _ else _ : List Nat).length ≤ _
    split
    · split
      · simp; omega
      · split
        · exact Nat.le_trans (List.length_filter_le _ _) (by omega)
        · omega
    · omega
theorem stE_succ (E : Ev) (x : Int) (j : Nat) : stE E (j + 1) x = if E.k j ≠ 1 ∧ x = E.m j then stE E j x + 1 else stE E j x := rfl
theorem stE_nonneg (E : Ev) (x : Int) : ∀ j, 0 ≤ stE E j x
  | 0 => Int.le_refl _
  | j + 1 => by
    have := stE_nonneg E x j
    rw [stE_succ]
    split <;> omega
theorem stE_mono (E : Ev) (x : Int) (i : Nat) : ∀ k, stE E i x ≤ stE E (i + k) x
  | 0 => Int.le_refl _
  | k + 1 => by
    have := stE_mono E x i k
    rw [show i + (k + 1) = i + k + 1 from rfl, stE_succ]
    split <;> omega
theorem wayL_sent (E : Ev) (c : Nat → Int) {x : Nat} : ∀ {j : Nat}, x ∈ wayL E c j → ∃ i, i < j ∧ E.k i = 2 ∧ mN E i = x
  | 0, h => by cases h
  | j + 1, h => by
    have h : x ∈ (if inC E c j then (if E.k j = 2 then wayL E c j ++ [mN E j] else if E.k j = 3 then (wayL E c j).filter (fun x => !(x == mN E j)) else wayL E c j) else wayL E c j) := h
    have up : x ∈ wayL E c j → ∃ i, i < j + 1 ∧ E.k i = 2 ∧ mN E i = x := fun h => by
      obtain ⟨i, h1, h2⟩ := wayL_sent E c h
      exact ⟨i, by omega, h2⟩
    split at h
    · split at h
      · rename_i hk
        rcases List.mem_append.1 h with h | h
        · exact up h
        · exact ⟨j, by omega, hk, (List.mem_singleton.1 h).symm⟩
      · split at h
        · exact up (List.mem_filter.1 h).1
        · exact up h
    · exact up h
theorem ev_msg (hg : runCode n E len = 0) {j : Nat} (hj : j < len) (hk : E.k j ≠ 1) : E.m j = (mN E j : Nat) ∧ mN E j ≤ 20 ∧ stE E j (mN E j : Nat) = E.k j - 2 := by
  have h := (evCode_ok ((runCode_ok hg).2 j hj)).2.2 hk
  have e : E.m j = (mN E j : Nat) := by unfold mN; omega
  refine ⟨e, by omega, ?_⟩
  rw [← e]; exact h.2
theorem ev_kind (hg : runCode n E len = 0) {j : Nat} (hj : j < len) : E.k j = 1 ∨ E.k j = 2 ∨ E.k j = 3 := by
  have h := (evCode_ok ((runCode_ok hg).2 j hj)).2.1
  omega
/-- What is on the way was sent: its state is 1 at least. -/
theorem wayL_st (hg : runCode n E len = 0) {x j : Nat} (hj : j ≤ len) (h : x ∈ wayL E c j) : 1 ≤ stE E j (x : Nat) := by
  obtain ⟨i, hi, hk, rfl⟩ := wayL_sent E c h
  have h1 := ev_msg hg (show i < len by omega) (by omega)
  have h2 : stE E (i + 1) (mN E i : Nat) = stE E i (mN E i : Nat) + 1 := if_pos ⟨by omega, h1.1.symm⟩
  have h3 := stE_mono E (mN E i : Nat) (i + 1) (j - (i + 1))
  rw [show i + 1 + (j - (i + 1)) = j by omega] at h3
  have := stE_nonneg E (mN E i : Nat) i
  omega
theorem wayL_nodup (hg : runCode n E len = 0) : ∀ {j : Nat}, j ≤ len → (wayL E c j).Nodup
  | 0, _ => List.nodup_nil
  | j + 1, hj => by
    have ih := wayL_nodup hg (show j ≤ len by omega)
    show (if _ then _ else _ : List Nat).Nodup
    split
    · split
      · rename_i hk
        rw [List.nodup_append]
        refine ⟨ih, by simp, fun a ha b hb e => ?_⟩
        rw [List.mem_singleton.1 hb] at e
        subst e
        have h1 := wayL_st hg (show j ≤ len by omega) ha
        have h2 := (ev_msg hg (show j < len by omega) (by omega)).2.2
        omega
      · split
        · exact ih.sublist List.filter_sublist
        · exact ih
    · exact ih
def allC (E : Ev) (len : Nat) (q : Nat) : Int := (cntP E q len : Nat)
theorem cntP_mono (E : Ev) (q : Int) (i : Nat) : ∀ k, cntP E q i ≤ cntP E q (i + k)
  | 0 => Nat.le_refl _
  | k + 1 => by
    have := cntP_mono E q i k
    show _ ≤ cntP E q (i + k) + _
    omega
theorem inC_all (hg : runCode n E len = 0) {j : Nat} (hj : j < len) : inC E (allC E len) j = true := by
  have hp := (evCode_ok ((runCode_ok hg).2 j hj)).1
  have e : (((E.p j).toNat : Nat) : Int) = E.p j := by omega
  unfold inC allC
  rw [e, decide_eq_true_iff]
  have h1 := cntP_mono E (E.p j) (j + 1) (len - (j + 1))
  rw [show j + 1 + (len - (j + 1)) = len by omega] at h1
  have h2 : cntP E (E.p j) (j + 1) = cntP E (E.p j) j + 1 := by show _ + (if _ then 1 else 0) = _; rw [if_pos rfl]
  omega
theorem way_all (hg : runCode n E len = 0) : ∀ {j : Nat}, j ≤ len → (∀ x : Nat, x ∈ wayL E (allC E len) j ↔ stE E j (x : Nat) = 1) ∧ ((wayL E (allC E len) j).length : Int) = leftE E j
  | 0, _ => ⟨fun x => Iff.intro (fun h => absurd h List.not_mem_nil) (fun h => absurd (show (0 : Int) = 1 from h) (by decide)), rfl⟩
  | j + 1, hj => by
    obtain ⟨ih1, ih2⟩ := way_all hg (show j ≤ len by omega)
    have hnd := wayL_nodup (c := allC E len) hg (show j ≤ len by omega)
    have hst : ∀ x : Nat, stE E (j + 1) (x : Nat) = if E.k j ≠ 1 ∧ (x : Int) = E.m j then stE E j (x : Nat) + 1 else stE E j (x : Nat) := fun x => rfl
    have hlf : leftE E (j + 1) = leftE E j + (if E.k j = 2 then 1 else if E.k j = 3 then -1 else 0) := rfl
    have hw : wayL E (allC E len) (j + 1) = (if E.k j = 2 then wayL E (allC E len) j ++ [mN E j] else if E.k j = 3 then (wayL E (allC E len) j).filter (fun x => !(x == mN E j)) else wayL E (allC E len) j) := by
      show (if _ then _ else _ : List Nat) = _
      rw [if_pos (inC_all hg (show j < len by omega))]
    rw [hw, hlf]
    rcases ev_kind hg (show j < len by omega) with hk | hk | hk
    · rw [if_neg (by omega), if_neg (by omega), if_neg (by omega), if_neg (by omega)]
      exact ⟨fun x => by rw [ih1, hst, if_neg (fun h => h.1 hk)], by omega⟩
    · obtain ⟨h1, h2, h3⟩ := ev_msg hg (show j < len by omega) (by omega)
      rw [if_pos hk, if_pos hk]
      refine ⟨fun x => ?_, by rw [List.length_append]; simp; omega⟩
      rw [List.mem_append, List.mem_singleton, ih1, hst]
      by_cases hx : x = mN E j
      · subst hx
        rw [if_pos ⟨by omega, h1.symm⟩]
        exact ⟨fun _ => by omega, fun _ => .inr rfl⟩
      · rw [if_neg (fun h => hx (by omega))]
        exact ⟨fun h => h.resolve_right hx, .inl⟩
    · obtain ⟨h1, h2, h3⟩ := ev_msg hg (show j < len by omega) (by omega)
      rw [if_neg (by omega), if_pos hk, if_neg (by omega), if_pos hk]
      have hmem : mN E j ∈ wayL E (allC E len) j := (ih1 _).2 (by omega)
      refine ⟨fun x => ?_, ?_⟩
      · rw [List.mem_filter, ih1, hst]
        by_cases hx : x = mN E j
        · subst hx
          rw [if_pos ⟨by omega, h1.symm⟩]
          simp; omega
        · rw [if_neg (fun h => hx (by omega))]
          simp [hx]
      · have he : (wayL E (allC E len) j).filter (fun x => !(x == mN E j)) = (wayL E (allC E len) j).erase (mN E j) := by
          rw [hnd.erase_eq_filter]
          congr 1
        rw [he, List.length_erase_of_mem hmem]
        have := List.length_pos_of_mem hmem
        omega
/-- The cut of all events is whole. -/
theorem all_ok (hg : runCode n E len = 0) : CutOk n E len (allC E len) n := ⟨rfl, fun q _ => ⟨by unfold allC; omega, Int.le_refl _⟩⟩
end
/-- The numbers of a list, rising. -/
def srtN (l : List Nat) : List Nat := l.mergeSort fun x y => decide (x ≤ y)
theorem srtN_len (l : List Nat) : (srtN l).length = l.length := List.length_mergeSort _
theorem srtN_mem (l : List Nat) (x : Nat) : x ∈ srtN l ↔ x ∈ l := List.mem_mergeSort
theorem srtN_lt {l : List Nat} (h : l.Nodup) {k : Nat} (hk : k + 1 < (srtN l).length) : (srtN l)[k]'(by omega) < (srtN l)[k + 1] := by
  have hp : (srtN l).Pairwise (fun a b => decide (a ≤ b) = true) := List.pairwise_mergeSort (fun a b c h1 h2 => by simp at *; omega) (fun a b => by simp; omega) l
  have hn : (srtN l).Nodup := (List.mergeSort_perm ..).nodup_iff.2 h
  have h1 := List.pairwise_iff_getElem.1 hp k (k + 1) (by omega) hk (by omega)
  have h2 := List.pairwise_iff_getElem.1 hn k (k + 1) (by omega) hk (by omega)
  have h1 : (srtN l)[k]'(by omega) ≤ (srtN l)[k + 1] := by simpa using h1
  omega
end Go.Proofs.Ythonnpimfidkdaa
