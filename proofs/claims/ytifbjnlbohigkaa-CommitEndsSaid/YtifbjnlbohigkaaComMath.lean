/- All, or nobody, in plain functions. -/
import Derived.Test.YtifbjnlbohigkaaMv
set_option linter.unusedVariables false
set_option linter.unusedSimpArgs false
namespace Go.Proofs.Ytifbjnlbohigkaa
open Go.RowKit

structure CS where
  st : Nat → Int
  gone : Nat → Bool
  yes : Nat → Bool
def CS0 : CS := ⟨fun _ => 0, fun _ => false, fun _ => false⟩
def dec (x : Int) : Bool := x == 2 || x == 3
def setSt (s : CS) (i : Nat) (x : Int) : CS := { s with st := upd s.st i x }
def voteS (i : Nat) (v : Int) (s : CS) : Int × CS :=
  if s.st i ≠ 0 then (7, s) else if v = 1 then (0, { s with st := upd (upd s.st i 3) i 1, yes := upd s.yes i (!s.gone 0) }) else (0, setSt s i 3)
def tallyTo (s : CS) (q : Nat) : Int := if anyTo (fun j => !s.yes (j + 1)) q then 3 else 2
def tallyS (n : Nat) (s : CS) : Int × CS := if dec (s.st 0) then (7, s) else (0, setSt s 0 (tallyTo s (n - 1)))
def tellS (t : Nat) (s : CS) : Int × CS := if !dec (s.st 0) then (5, s) else if dec (s.st t) then (8, s) else (0, setSt s t (s.st 0))
def askS (f t : Nat) (s : CS) : Int × CS :=
  if s.st f = 0 then (3, s) else if dec (s.st f) then (8, s) else if s.st t = 1 then (5, s) else if s.st t = 0 then (0, setSt (setSt s t 3) f 3) else (0, setSt s f (s.st t))
def backS (i : Nat) (s : CS) : Int × CS :=
  if !s.gone i then (7, s) else (0, ⟨if i = 0 && !dec (s.st 0) then upd s.st 0 3 else s.st, upd s.gone i false, s.yes⟩)
def crashS (i : Nat) (s : CS) : Int × CS := if s.gone i then (7, s) else (0, { s with gone := upd s.gone i true })
def doesI (k f : Int) : Int := if k = 2 ∨ k = 3 then 0 else f
def badB (n : Nat) (k f t : Int) : Bool :=
  (!(decide (0 ≤ doesI k f) && decide (doesI k f < n))) || ((k == 1 || k == 6) && doesI k f == 0) || ((k == 3 || k == 6) && !(decide (0 < t) && decide (t < n))) || (k == 6 && f == t)
def cmStep (n : Nat) (k f t v : Int) (s : CS) : Int × CS :=
  if k < 1 ∨ 6 < k then (6, s) else if badB n k f t then (2, s)
  else if k = 5 then backS f.toNat s else if k = 4 then crashS f.toNat s
  else if s.gone (doesI k f).toNat || ((k == 3 || k == 6) && s.gone t.toNat) then (4, s)
  else if k = 1 then voteS f.toNat v s else if k = 2 then tallyS n s else if k = 3 then tellS t.toNat s else askS f.toNat t.toNat s
def cmE (n : Nat) (M : Mv) : Nat → CS
  | 0 => CS0
  | j + 1 => (cmStep n (M.k j) (M.f j) (M.t j) (M.v j) (cmE n M j)).2
def cmC (n : Nat) (M : Mv) (j : Nat) : Int := (cmStep n (M.k j) (M.f j) (M.t j) (M.v j) (cmE n M j)).1

theorem cm_vote (n : Nat) (f t v : Int) (s : CS) : cmStep n 1 f t v s = if (!(decide (0 ≤ f) && decide (f < n))) || f == 0 then (2, s) else if s.gone f.toNat then (4, s) else voteS f.toNat v s := by
  simp [cmStep, badB, doesI]
theorem cm_tally {n : Nat} (hn : 1 ≤ n) (f t v : Int) (s : CS) : cmStep n 2 f t v s = if s.gone 0 then (4, s) else tallyS n s := by
  have : ¬ n = 0 := by omega
  simp [cmStep, badB, doesI, this]
theorem cm_tell {n : Nat} (hn : 1 ≤ n) (f t v : Int) (s : CS) : cmStep n 3 f t v s = if !(decide (0 < t) && decide (t < n)) then (2, s) else if s.gone 0 || s.gone t.toNat then (4, s) else tellS t.toNat s := by
  have : ¬ n = 0 := by omega
  simp [cmStep, badB, doesI, this]
theorem cm_crash (n : Nat) (f t v : Int) (s : CS) : cmStep n 4 f t v s = if !(decide (0 ≤ f) && decide (f < n)) then (2, s) else crashS f.toNat s := by
  simp [cmStep, badB, doesI]
theorem cm_back (n : Nat) (f t v : Int) (s : CS) : cmStep n 5 f t v s = if !(decide (0 ≤ f) && decide (f < n)) then (2, s) else backS f.toNat s := by
  simp [cmStep, badB, doesI]
theorem cm_ask (n : Nat) (f t v : Int) (s : CS) : cmStep n 6 f t v s = if (!(decide (0 ≤ f) && decide (f < n))) || f == 0 || (!(decide (0 < t) && decide (t < n))) || f == t then (2, s) else if s.gone f.toNat || s.gone t.toNat then (4, s) else askS f.toNat t.toNat s := by
  simp [cmStep, badB, doesI]
theorem dec_iff {x : Int} : dec x = true ↔ x = 2 ∨ x = 3 := by simp [dec]
/-- All states are 0 to 3. -/
def CI (s : CS) : Prop := ∀ i, 0 ≤ s.st i ∧ s.st i ≤ 3
theorem CI.set {s : CS} (h : CI s) (i : Nat) {x : Int} (hx : 0 ≤ x ∧ x ≤ 3) : CI (setSt s i x) := by
  intro j
  show 0 ≤ upd s.st i x j ∧ upd s.st i x j ≤ 3
  rw [upd_apply]
  split
  · exact hx
  · exact h j
theorem CI.step {n : Nat} {k f t v : Int} {s : CS} (h : CI s) : CI (cmStep n k f t v s).2 := by
  unfold cmStep
  split
  · exact h
  split
  · exact h
  split
  · unfold backS
    split
    · exact h
    · intro j
      have := (h.set 0 (x := 3) (by omega)) j
      show 0 ≤ (if _ then _ else _ : Nat → Int) j ∧ (if _ then _ else _ : Nat → Int) j ≤ 3
      split
      · exact this
      · exact h j
  split
  · unfold crashS; split <;> exact h
  split
  · exact h
  split
  · unfold voteS
    split
    · exact h
    · split
      · exact (h.set f.toNat (x := 3) (by omega)).set f.toNat (x := 1) (by omega)
      · exact h.set _ (by omega)
  split
  · unfold tallyS
    split
    · exact h
    · refine h.set _ ?_
      unfold tallyTo
      split <;> omega
  split
  · unfold tellS
    split
    · exact h
    · split
      · exact h
      · exact h.set _ (h 0)
  · unfold askS
    split
    · exact h
    · split
      · exact h
      · split
        · exact h
        · split
          · exact (h.set _ (x := 3) (by omega)).set _ (by omega)
          · exact h.set _ (h _)
theorem CI.all (n : Nat) (M : Mv) : ∀ j, CI (cmE n M j)
  | 0 => fun _ => by simp [cmE, CS0]
  | j + 1 => (CI.all n M j).step
end Go.Proofs.Ytifbjnlbohigkaa
