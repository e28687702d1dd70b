/- Elections, in plain functions. -/
import Derived.Test.YtfhmabpalimcnaaMv
import Derived.Test.YtfhmabpalimcnaaPopM
set_option linter.unusedVariables false
set_option linter.unusedSimpArgs false
namespace Go.Proofs.Ytfhmabpalimcnaa
open Go.RowKit

structure ES where
  T : Nat → Nat
  R : Nat → Int
  V : Nat → Int
  H : Nat → Nat
  led : List (Nat × Nat)
def ES0 : ES := ⟨fun _ => 0, fun _ => 0, fun _ => -1, fun _ => 0, []⟩
def setE (i t : Nat) (r v : Int) (s : ES) : ES := { s with T := upd s.T i t, R := upd s.R i r, V := upd s.V i v, H := upd s.H i 0 }
def knowS (i t : Nat) (s : ES) : ES := if s.T i < t then setE i t 0 (-1) s else s
def haveS (i b : Nat) (s : ES) : ES := { s with H := upd s.H i (s.H i ||| 2 ^ b) }
def countS (n i b : Nat) (s : ES) : ES :=
  if s.R i = 1 ∧ n < 2 * pop (s.H i ||| 2 ^ b) then { haveS i b s with R := upd s.R i 2, led := s.led ++ [(s.T i, i)] } else haveS i b s
def standS (n i : Nat) (s : ES) : Int × ES := if s.R i = 2 then (7, s) else (0, countS n i i (setE i (s.T i + 1) 1 i s))
def voteS (n i t : Nat) (good : Bool) (s : ES) : Int × ES :=
  if s.R t ≠ 1 then (5, s) else
  if (knowS i (s.T t) s).T t < (knowS i (s.T t) s).T i then (8, knowS t ((knowS i (s.T t) s).T i) (knowS i (s.T t) s)) else
  if (0 ≤ (knowS i (s.T t) s).V i ∧ (knowS i (s.T t) s).V i ≠ t) ∨ good = false then (7, knowS i (s.T t) s) else
  (0, countS n t i { knowS i (s.T t) s with V := upd (knowS i (s.T t) s).V i t })
def beatS (i t : Nat) (s : ES) : Int × ES :=
  if s.R i ≠ 2 then (5, s) else if s.T i < s.T t then (8, knowS i (s.T t) s) else (0, { knowS t (s.T i) s with R := upd (knowS t (s.T i) s).R t 0 })
def crashS (i : Nat) (s : ES) : ES := { s with R := upd s.R i 0, H := upd s.H i 0 }
def elBad (n : Nat) (k f t : Int) : Bool := !(decide (0 ≤ f) && decide (f < n)) || ((k == 2 || k == 3) && (!(decide (0 ≤ t) && decide (t < n)) || f == t))
def elStep (n : Nat) (k f t : Int) (s : ES) : Int × ES :=
  if k ≠ 1 ∧ k ≠ 2 ∧ k ≠ 3 ∧ k ≠ 6 then (6, s) else if elBad n k f t then (2, s)
  else if k = 1 then standS n f.toNat s else if k = 2 then voteS n f.toNat t.toNat true s else if k = 3 then beatS f.toNat t.toNat s else (0, crashS f.toNat s)
def elE (n : Nat) (M : Mv) : Nat → ES
  | 0 => ES0
  | j + 1 => (elStep n (M.k j) (M.f j) (M.t j) (elE n M j)).2
def elC (n : Nat) (M : Mv) (j : Nat) : Int := (elStep n (M.k j) (M.f j) (M.t j) (elE n M j)).1

/-- What is always so. -/
structure EI (n B : Nat) (s : ES) : Prop where
  T : ∀ i, s.T i ≤ B
  H : ∀ i, s.H i < 2 ^ n
  R : ∀ i, 0 ≤ s.R i ∧ s.R i ≤ 2
  V : ∀ i, -1 ≤ s.V i ∧ s.V i < n
  led : s.led.length ≤ 2 * B
theorem EI.mono {n B B' : Nat} {s : ES} (h : EI n B s) (hB : B ≤ B') : EI n B' s := ⟨fun i => Nat.le_trans (h.T i) hB, h.H, h.R, h.V, by have := h.led; omega⟩
theorem EI.set {n B : Nat} {s : ES} (h : EI n B s) (i t : Nat) (r v : Int) (ht : t ≤ B) (hr : 0 ≤ r ∧ r ≤ 2) (hv : -1 ≤ v ∧ v < n) : EI n B (setE i t r v s) := by
  refine ⟨fun j => ?_, fun j => ?_, fun j => ?_, fun j => ?_, h.led⟩
  · show upd s.T i t j ≤ B
    rw [upd_apply]; split
    · exact ht
    · exact h.T j
  · show upd s.H i 0 j < _
    rw [upd_apply]; split
    · exact Nat.two_pow_pos n
    · exact h.H j
  · show 0 ≤ upd s.R i r j ∧ upd s.R i r j ≤ 2
    rw [upd_apply]; split
    · exact hr
    · exact h.R j
  · show -1 ≤ upd s.V i v j ∧ upd s.V i v j < n
    rw [upd_apply]; split
    · exact hv
    · exact h.V j
theorem EI.know {n B : Nat} {s : ES} (h : EI n B s) (i : Nat) {t : Nat} (ht : t ≤ B) : EI n B (knowS i t s) := by
  unfold knowS
  split
  · exact h.set i t 0 (-1) ht (by omega) (by omega)
  · exact h
theorem EI.have_ {n B : Nat} {s : ES} (h : EI n B s) (i : Nat) {b : Nat} (hb : b < n) : EI n B (haveS i b s) := by
  refine ⟨h.T, fun j => ?_, h.R, h.V, h.led⟩
  show upd s.H i _ j < _
  rw [upd_apply]; split
  · exact or_lt (h.H i) hb
  · exact h.H j
theorem EI.count {n B : Nat} {s : ES} (h : EI n B s) (hl : s.led.length + 1 ≤ 2 * B) (i : Nat) {b : Nat} (hb : b < n) : EI n B (countS n i b s) := by
  unfold countS
  split
  · refine ⟨h.T, (h.have_ i hb).H, fun j => ?_, h.V, ?_⟩
    · show 0 ≤ upd s.R i 2 j ∧ upd s.R i 2 j ≤ 2
      rw [upd_apply]; split
      · omega
      · exact h.R j
    · show (s.led ++ [_]).length ≤ _
      simp; omega
  · exact h.have_ i hb
theorem know_led (i t : Nat) (s : ES) : (knowS i t s).led = s.led := by unfold knowS; split <;> rfl
theorem EI.step {n B : Nat} {k f t : Int} {s : ES} (h : EI n B s) : EI n (B + 1) (elStep n k f t s).2 := by
  have h1 := h.mono (B' := B + 1) (by omega)
  have hl := h.led
  unfold elStep
  split
  · exact h1
  split
  · exact h1
  rename_i hb
  have hf : 0 ≤ f ∧ f < n := by
    cases hh : (decide (0 ≤ f) && decide (f < (n : Int)))
    · simp [elBad, hh] at hb
    · simpa using hh
  have ht : k = 2 ∨ k = 3 → 0 ≤ t ∧ t < n := by
    intro hk
    cases hh : (decide (0 ≤ t) && decide (t < (n : Int)))
    · rcases hk with rfl | rfl <;> simp [elBad, hh] at hb
    · simpa using hh
  split
  · unfold standS
    split
    · exact h1
    · exact (h1.set _ _ 1 f.toNat (by have := h.T f.toNat; omega) (by omega) (by omega)).count (by show s.led.length + 1 ≤ _; omega) _ (by omega)
  split
  · have ht := ht (.inl (by assumption))
    unfold voteS
    have hk := h.know f.toNat (h.T t.toNat)
    split
    · exact h1
    split
    · exact (hk.know t.toNat (hk.T f.toNat)).mono (by omega)
    split
    · exact hk.mono (by omega)
    · have hk2 : EI n B { knowS f.toNat (s.T t.toNat) s with V := upd (knowS f.toNat (s.T t.toNat) s).V f.toNat t.toNat } := by
        refine ⟨hk.T, hk.H, hk.R, fun j => ?_, hk.led⟩
        show -1 ≤ upd _ f.toNat _ j ∧ upd _ f.toNat _ j < _
        rw [upd_apply]; split
        · omega
        · exact hk.V j
      refine (hk2.mono (B' := B + 1) (by omega)).count ?_ _ (by omega)
      show (knowS f.toNat (s.T t.toNat) s).led.length + 1 ≤ _
      rw [know_led]; omega
  split
  · unfold beatS
    split
    · exact h1
    split
    · exact (h.know f.toNat (h.T t.toNat)).mono (by omega)
    · have hk := (h.know t.toNat (h.T f.toNat)).mono (B' := B + 1) (by omega)
      refine ⟨hk.T, hk.H, fun j => ?_, hk.V, hk.led⟩
      show 0 ≤ upd _ t.toNat 0 j ∧ upd _ t.toNat 0 j ≤ 2
      rw [upd_apply]; split
      · omega
      · exact hk.R j
  · refine ⟨h1.T, fun j => ?_, fun j => ?_, h1.V, h1.led⟩
    · show upd s.H _ 0 j < _
      rw [upd_apply]; split
      · exact Nat.two_pow_pos n
      · exact h.H j
    · show 0 ≤ upd s.R _ 0 j ∧ upd s.R _ 0 j ≤ 2
      rw [upd_apply]; split
      · omega
      · exact h.R j
theorem EI.all (n : Nat) (M : Mv) : ∀ j, EI n j (elE n M j)
  | 0 => ⟨fun _ => Nat.le_refl _, fun _ => Nat.two_pow_pos n, fun _ => by simp [elE, ES0], fun _ => by simp [elE, ES0]; omega, Nat.le_refl _⟩
  | j + 1 => (EI.all n M j).step
theorem el_stand (n : Nat) (f t : Int) (s : ES) : elStep n 1 f t s = if !(decide (0 ≤ f) && decide (f < n)) then (2, s) else standS n f.toNat s := by simp [elStep, elBad]
theorem el_vote (n : Nat) (f t : Int) (s : ES) : elStep n 2 f t s = if !(decide (0 ≤ f) && decide (f < n)) || (!(decide (0 ≤ t) && decide (t < n)) || f == t) then (2, s) else voteS n f.toNat t.toNat true s := by simp [elStep, elBad]
theorem el_beat (n : Nat) (f t : Int) (s : ES) : elStep n 3 f t s = if !(decide (0 ≤ f) && decide (f < n)) || (!(decide (0 ≤ t) && decide (t < n)) || f == t) then (2, s) else beatS f.toNat t.toNat s := by simp [elStep, elBad]
theorem el_crash (n : Nat) (f t : Int) (s : ES) : elStep n 6 f t s = if !(decide (0 ≤ f) && decide (f < n)) then (2, s) else (0, crashS f.toNat s) := by simp [elStep, elBad]
end Go.Proofs.Ytfhmabpalimcnaa
