/- causal's state, without a program. -/
import Derived.Test.YtiljnddjecbmfaaWords
import Derived.Test.YtiljnddjecbmfaaMv
set_option linter.unusedVariables false
set_option linter.unusedSimpArgs false
namespace Go.Proofs.Ytiljnddjecbmfaa

structure CaS where
  m : Nat
  by_ : Nat → Nat
  ahead : Nat → Nat → Nat
  told : Nat → List Nat
  clock : Nat → Nat → Nat
  come : Nat → Nat → Bool
def CaS0 : CaS := ⟨0, fun _ => 0, fun _ _ => 0, fun _ => [], fun _ _ => 0, fun _ _ => false⟩
def toldC (to k : Nat) (s : CaS) : CaS := { s with told := upd s.told to (s.told to ++ [k]) }
def tickC (to o : Nat) (s : CaS) : CaS := { s with clock := upd s.clock to (upd (s.clock to) o (s.clock to o + 1)) }
def tellC (to k : Nat) (s : CaS) : CaS := tickC to (s.by_ k) (toldC to k s)
def underB (n : Nat) (a b : Nat → Nat) : Bool := !anyTo (fun o => decide (b o < a o)) n
def mayC (n : Nat) (s : CaS) (to k : Nat) : Bool := s.come to k && !(decide (k ∈ s.told to)) && underB n (s.ahead k) (s.clock to)
def nextC (n to : Nat) (s : CaS) : Option Nat := (List.range s.m).find? (mayC n s to)
def settleC (n to : Nat) : Nat → CaS → CaS
  | 0, s => s
  | f + 1, s => match nextC n to s with
    | none => s
    | some k => settleC n to f (tellC to k s)
def settleS (n to : Nat) (s : CaS) : CaS := settleC n to (s.m - (s.told to).length + 1) s
def newC (i : Nat) (s : CaS) : CaS := { s with m := s.m + 1, by_ := upd s.by_ s.m i, ahead := upd s.ahead s.m (s.clock i) }
def sendC (i : Nat) (s : CaS) : CaS := tellC i s.m (newC i s)
def markC (to k : Nat) (s : CaS) : CaS := { s with come := upd s.come to (upd (s.come to) k true) }
def comeC (n to k : Nat) (s : CaS) : CaS := settleS n to (markC to k s)
def inB (n : Nat) (i : Int) : Bool := decide (0 ≤ i) && decide (i < n)
def caStep (n : Nat) (k f t v : Int) (s : CaS) : Int × CaS :=
  if k = 1 then (if inB n f = true then (0, sendC f.toNat s) else (2, s))
  else if k = 2 then
    (if inB n t = true then
      (if inB s.m v = true then
        (if (s.by_ v.toNat : Int) = t ∨ s.come t.toNat v.toNat = true then (7, s) else (0, comeC n t.toNat v.toNat s))
      else (4, s))
    else (2, s))
  else (6, s)
def caE (n : Nat) (M : Mv) : Nat → CaS
  | 0 => CaS0
  | j + 1 => (caStep n (M.k j) (M.f j) (M.t j) (M.v j) (caE n M j)).2
def caC (n : Nat) (M : Mv) (j : Nat) : Int := (caStep n (M.k j) (M.f j) (M.t j) (M.v j) (caE n M j)).1
/-- What the walk asks. -/
structure CaB (n j : Nat) (s : CaS) : Prop where
  m : s.m ≤ j
  by_ : ∀ k, k < s.m → s.by_ k < n
  told : ∀ i x, x ∈ s.told i → x < s.m
  nd : ∀ i, (s.told i).Nodup
  clock : ∀ i o, s.clock i o ≤ (s.told i).length
  ahead : ∀ k o, k < s.m → s.ahead k o ≤ j
theorem nodup_lt : ∀ {n : Nat} {l : List Nat}, l.Nodup → (∀ x, x ∈ l → x < n) → l.length ≤ n
  | 0, l, _, h => by
    cases l with
    | nil => exact Nat.le_refl _
    | cons x l => exact absurd (h x List.mem_cons_self) (by omega)
  | n + 1, l, hd, h => by
    have h1 : (l.erase n).length ≤ n := nodup_lt (hd.erase n) fun x hx => by
      have := h x (List.mem_of_mem_erase hx)
      have : x ≠ n := fun e => by subst e; exact List.Nodup.not_mem_erase hd hx
      omega
    have := List.length_erase_le (l := l) (a := n)
    by_cases hm : n ∈ l
    · rw [List.length_erase_of_mem hm] at h1; omega
    · rw [List.erase_of_not_mem hm] at h1; omega
theorem CaB.len {n j : Nat} {s : CaS} (h : CaB n j s) (i : Nat) : (s.told i).length ≤ s.m := nodup_lt (h.nd i) (h.told i)
theorem CaB.mono {n j j' : Nat} {s : CaS} (h : CaB n j s) (e : j ≤ j') : CaB n j' s := ⟨Nat.le_trans h.m e, h.by_, h.told, h.nd, h.clock, fun k o hk => Nat.le_trans (h.ahead k o hk) e⟩
theorem CaB.tell {n j to k : Nat} {s : CaS} (h : CaB n j s) (hk : k < s.m) (hn : k ∉ s.told to) : CaB n j (tellC to k s) := by
  refine ⟨h.m, h.by_, fun i x hx => ?_, fun i => ?_, fun i o => ?_, h.ahead⟩
  · change x ∈ upd s.told to (s.told to ++ [k]) i at hx
    rw [upd_apply] at hx
    split at hx
    · rcases List.mem_append.1 hx with hx | hx
      · exact h.told to x hx
      · rw [List.mem_singleton.1 hx]; exact hk
    · exact h.told i x hx
  · show (upd s.told to (s.told to ++ [k]) i).Nodup
    rw [upd_apply]; split
    · rw [List.nodup_append]
      refine ⟨h.nd to, by simp, fun a ha b hb e => ?_⟩
      rw [List.mem_singleton] at hb
      subst hb; subst e; exact hn ha
    · exact h.nd i
  · show upd s.clock to (upd (s.clock to) (s.by_ k) (s.clock to (s.by_ k) + 1)) i o ≤ (upd s.told to (s.told to ++ [k]) i).length
    rw [upd_apply, upd_apply]
    split
    · rename_i e; subst e
      rw [List.length_append, List.length_singleton, upd_apply]
      split
      · have := h.clock i (s.by_ k); omega
      · have := h.clock i o; omega
    · exact h.clock i o
theorem next_some {n to k : Nat} {s : CaS} (h : nextC n to s = some k) : k < s.m ∧ mayC n s to k = true ∧ ∀ j, j < k → mayC n s to j = false := by
  unfold nextC at h
  rw [List.find?_range_eq_some] at h
  obtain ⟨h1, h2, h3⟩ := h
  exact ⟨by simpa using h2, h1, fun j hj => by have := h3 j hj; simpa using this⟩
theorem next_none {n to : Nat} {s : CaS} (h : nextC n to s = none) : ∀ k, k < s.m → mayC n s to k = false := by
  unfold nextC at h
  rw [List.find?_range_eq_none] at h
  exact fun k hk => by have := h k hk; simpa using this
theorem next_is {n to k : Nat} {s : CaS} (hk : k < s.m) (h : mayC n s to k = true) (hno : ∀ j, j < k → mayC n s to j = false) : nextC n to s = some k := by
  unfold nextC
  rw [List.find?_range_eq_some]
  exact ⟨h, by simpa using hk, fun j hj => by simp [hno j hj]⟩
theorem next_no {n to : Nat} {s : CaS} (hno : ∀ j, j < s.m → mayC n s to j = false) : nextC n to s = none := by
  unfold nextC
  rw [List.find?_range_eq_none]
  exact fun j hj => by simp [hno j hj]
theorem may_not {n to k : Nat} {s : CaS} (h : mayC n s to k = true) : k ∉ s.told to := by
  unfold mayC at h
  simp only [Bool.and_eq_true, Bool.not_eq_true', decide_eq_false_iff_not] at h
  exact h.1.2
theorem CaB.settle {n j to : Nat} : ∀ {f : Nat} {s : CaS}, CaB n j s → CaB n j (settleC n to f s)
  | 0, _, h => h
  | f + 1, s, h => by
    rw [settleC]
    split
    · exact h
    · rename_i k hk
      obtain ⟨h1, h2, _⟩ := next_some hk
      exact (h.tell h1 (may_not h2)).settle
theorem CaB.send {n j i : Nat} {s : CaS} (h : CaB n j s) (hi : i < n) : CaB n (j + 1) (sendC i s) := by
  have h0 : CaB n (j + 1) (newC i s) := by
    refine ⟨by have := h.m; show s.m + 1 ≤ _; omega, fun k hk => ?_, fun i x hx => by have := h.told i x hx; show x < s.m + 1; omega, h.nd, h.clock, fun k o hk => ?_⟩
    · show upd s.by_ s.m i k < n
      rw [upd_apply]; split
      · exact hi
      · exact h.by_ k (by have hk : k < s.m + 1 := hk; omega)
    · show upd s.ahead s.m (s.clock i) k o ≤ j + 1
      rw [upd_apply]; split
      · have h1 := h.clock i o
        have h2 := h.len i
        have h3 := h.m
        omega
      · have := h.ahead k o (by have hk : k < s.m + 1 := hk; omega); omega
  exact h0.tell (show s.m < s.m + 1 by omega) (fun hm => by have := h.told i _ hm; omega)
theorem CaB.step {n j : Nat} {k f t v : Int} {s : CaS} (h : CaB n j s) : CaB n (j + 1) (caStep n k f t v s).2 := by
  have h0 := h.mono (Nat.le_succ j)
  unfold caStep
  split
  · split
    · rename_i hf
      have : 0 ≤ f ∧ f < n := by simpa [inB] using hf
      exact h.send (by omega)
    · exact h0
  · split
    · split
      · split
        · split
          · exact h0
          · have h1 : CaB n (j + 1) (markC t.toNat v.toNat s) := ⟨h0.m, h0.by_, h0.told, h0.nd, h0.clock, h0.ahead⟩
            exact h1.settle
        · exact h0
      · exact h0
    · exact h0
theorem caE_B (n : Nat) (M : Mv) : ∀ j, CaB n j (caE n M j)
  | 0 => ⟨Nat.le_refl _, fun k hk => absurd hk (by show ¬ k < 0; omega), fun i x hx => by have hx : x ∈ ([] : List Nat) := hx; simp at hx, fun i => List.nodup_nil, fun i o => Nat.le_refl _, fun k o hk => absurd hk (by show ¬ k < 0; omega)⟩
  | j + 1 => (caE_B n M j).step
end Go.Proofs.Ytiljnddjecbmfaa
