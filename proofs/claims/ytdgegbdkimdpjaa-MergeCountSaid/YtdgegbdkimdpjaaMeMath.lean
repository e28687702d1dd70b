/- merge in plain Lean: the state, each move, a run. -/
import Derived.Test.YtdgegbdkimdpjaaMv
set_option linter.unusedVariables false
set_option linter.unusedSimpArgs false
namespace Go.Proofs.Ytdgegbdkimdpjaa
open Go.RowKit

abbrev Tag := Nat × Nat
/-- Of copy i: what was put in (st (2 i)) and taken out (st (2 i + 1)); what each one counted up (ct (2 i)) and down (ct (2 i + 1)); how many tags there are. -/
structure MeS where
  st : Nat → Tag → Bool
  ct : Nat → Nat → Nat
  tags : Nat
def MeS0 : MeS := ⟨fun _ _ => false, fun _ _ => 0, 0⟩
def leftT (s : MeS) (i x : Nat) (t : Tag) : Bool := s.st (2 * i) t && (decide (t.1 = x) && !s.st (2 * i + 1) t)
/-- Is the thing x in copy i? -/
def hasB (s : MeS) (i x : Nat) : Bool := anyTo (fun k => leftT s i x (x, k)) 61
def meAdd (s : MeS) (i x : Nat) : MeS := { s with tags := s.tags + 1, st := upd s.st (2 * i) (fun q => s.st (2 * i) q || decide (q = (x, s.tags + 1))) }
def meDrop (s : MeS) (i x : Nat) : MeS := { s with st := upd s.st (2 * i + 1) (fun q => s.st (2 * i + 1) q || leftT s i x q) }
def meUp (s : MeS) (a i : Nat) : MeS := { s with ct := upd s.ct a (upd (s.ct a) i (s.ct a i + 1)) }
def meJoin (s : MeS) (i j : Nat) : MeS :=
  { s with st := upd (upd s.st (2 * i) (fun q => s.st (2 * i) q || s.st (2 * j) q)) (2 * i + 1) (fun q => s.st (2 * i + 1) q || s.st (2 * j + 1) q),
           ct := upd (upd s.ct (2 * i) (fun k => max (s.ct (2 * i) k) (s.ct (2 * j) k))) (2 * i + 1) (fun k => max (s.ct (2 * i + 1) k) (s.ct (2 * j + 1) k)) }
def meDo (n : Nat) (s : MeS) (k f t v : Int) : MeS × Int :=
  if k < 1 ∨ 4 < k then (s, 6) else if (f < 0 ∨ (n : Int) ≤ f) ∨ k = 4 ∧ (t < 0 ∨ (n : Int) ≤ t) then (s, 2) else if k ≤ 2 ∧ (v < 0 ∨ 8 < v) then (s, 4)
  else if k = 1 then (meAdd s f.toNat v.toNat, 0)
  else if k = 2 then (if hasB s f.toNat v.toNat = true then (meDrop s f.toNat v.toNat, 0) else (s, 5))
  else if k = 3 then (if v = 1 then (meUp s (2 * f.toNat) f.toNat, 0) else if v = -1 then (meUp s (2 * f.toNat + 1) f.toNat, 0) else (s, 4))
  else (meJoin s f.toNat t.toNat, 0)
def meSt (n : Nat) (M : Mv) : Nat → MeS
  | 0 => MeS0
  | j + 1 => (meDo n (meSt n M j) (M.k j) (M.f j) (M.t j) (M.v j)).1
def meCode (n : Nat) (M : Mv) (j : Nat) : Int := (meDo n (meSt n M j) (M.k j) (M.f j) (M.t j) (M.v j)).2
/-- Bounds behind m moves. -/
structure MeB (m : Nat) (s : MeS) : Prop where
  tags : s.tags ≤ m
  ct : ∀ a k, s.ct a k ≤ m
  st : ∀ a t, s.st a t = true → t.1 ≤ 8 ∧ 1 ≤ t.2 ∧ t.2 ≤ s.tags
theorem MeB.more {m m' : Nat} {s : MeS} (h : MeB m s) (hm : m ≤ m') : MeB m' s := ⟨Nat.le_trans h.tags hm, fun a k => Nat.le_trans (h.ct a k) hm, h.st⟩
theorem MeB0 : MeB 0 MeS0 := ⟨Nat.le_refl _, fun _ _ => Nat.le_refl _, fun _ _ h => by cases h⟩
theorem MeB.add {m : Nat} {s : MeS} (h : MeB m s) (i x : Nat) (hx : x ≤ 8) : MeB (m + 1) (meAdd s i x) := by
  refine ⟨Nat.succ_le_succ h.tags, fun a k => Nat.le_trans (h.ct a k) (by omega), fun a t ht => ?_⟩
  have old : s.st a t = true → t.1 ≤ 8 ∧ 1 ≤ t.2 ∧ t.2 ≤ s.tags + 1 := fun h2 => by have := h.st a t h2; omega
  have ht : upd s.st (2 * i) (fun q => s.st (2 * i) q || decide (q = (x, s.tags + 1))) a t = true := ht
  show t.1 ≤ 8 ∧ 1 ≤ t.2 ∧ t.2 ≤ s.tags + 1
  by_cases e : a = 2 * i
  · subst e
    rw [upd_same, Bool.or_eq_true, decide_eq_true_iff] at ht
    rcases ht with ht | rfl
    · exact old ht
    · exact ⟨hx, by simp, by simp⟩
  · rw [upd_ne _ _ e] at ht; exact old ht
theorem MeB.drop {m : Nat} {s : MeS} (h : MeB m s) (i x : Nat) : MeB (m + 1) (meDrop s i x) := by
  refine ⟨Nat.le_succ_of_le h.tags, fun a k => Nat.le_trans (h.ct a k) (by omega), fun a t ht => ?_⟩
  have ht : upd s.st (2 * i + 1) (fun q => s.st (2 * i + 1) q || leftT s i x q) a t = true := ht
  by_cases e : a = 2 * i + 1
  · subst e
    rw [upd_same, Bool.or_eq_true] at ht
    rcases ht with ht | ht
    · exact h.st _ t ht
    · simp only [leftT, Bool.and_eq_true] at ht
      exact h.st _ t ht.1
  · rw [upd_ne _ _ e] at ht; exact h.st _ t ht
theorem MeB.up {m : Nat} {s : MeS} (h : MeB m s) (a i : Nat) : MeB (m + 1) (meUp s a i) := by
  refine ⟨Nat.le_succ_of_le h.tags, fun b k => ?_, h.st⟩
  show upd s.ct a (upd (s.ct a) i (s.ct a i + 1)) b k ≤ m + 1
  have h1 := h.ct a i
  by_cases e : b = a
  · subst e
    rw [upd_same]
    by_cases e2 : k = i
    · subst e2; rw [upd_same]; omega
    · rw [upd_ne _ _ e2]; have := h.ct b k; omega
  · rw [upd_ne _ _ e]; have := h.ct b k; omega
theorem MeB.join {m : Nat} {s : MeS} (h : MeB m s) (i j : Nat) : MeB m (meJoin s i j) := by
  refine ⟨h.tags, fun a k => ?_, fun a t ht => ?_⟩
  · show upd (upd s.ct (2 * i) _) (2 * i + 1) _ a k ≤ m
    by_cases e : a = 2 * i + 1
    · subst e; rw [upd_same]; exact Nat.max_le.2 ⟨h.ct _ _, h.ct _ _⟩
    · rw [upd_ne _ _ e]
      by_cases e : a = 2 * i
      · subst e; rw [upd_same]; exact Nat.max_le.2 ⟨h.ct _ _, h.ct _ _⟩
      · rw [upd_ne _ _ e]; exact h.ct _ _
  · have ht : upd (upd s.st (2 * i) (fun q => s.st (2 * i) q || s.st (2 * j) q)) (2 * i + 1) (fun q => s.st (2 * i + 1) q || s.st (2 * j + 1) q) a t = true := ht
    by_cases e : a = 2 * i + 1
    · subst e
      rw [upd_same, Bool.or_eq_true] at ht
      exact ht.elim (h.st _ t) (h.st _ t)
    · rw [upd_ne _ _ e] at ht
      by_cases e : a = 2 * i
      · subst e
        rw [upd_same, Bool.or_eq_true] at ht
        exact ht.elim (h.st _ t) (h.st _ t)
      · rw [upd_ne _ _ e] at ht; exact h.st _ t ht
theorem MeB.do_ {m n : Nat} {s : MeS} (h : MeB m s) (k f t v : Int) : MeB (m + 1) (meDo n s k f t v).1 := by
  have h' := h.more (Nat.le_succ m)
  unfold meDo
  repeat' split
  all_goals first
    | exact h'
    | exact h.drop _ _
    | exact h.up _ _
    | exact h'.join _ _
    | (rename_i h1 h2 h3 h4; exact h.add _ _ (by omega))
theorem meB_all (n : Nat) (M : Mv) : ∀ m, MeB m (meSt n M m)
  | 0 => MeB0
  | m + 1 => (meB_all n M m).do_ _ _ _ _
theorem hasB_iff {m : Nat} {s : MeS} (h : MeB m s) (hm : m ≤ 60) (i x : Nat) : hasB s i x = true ↔ ∃ t, leftT s i x t = true := by
  rw [hasB, anyTo_iff]
  constructor
  · rintro ⟨k, _, h⟩; exact ⟨_, h⟩
  · rintro ⟨t, ht⟩
    have ht2 := ht
    simp only [leftT, Bool.and_eq_true, decide_eq_true_iff] at ht2
    have := h.st _ t ht2.1
    have h2 := h.tags
    refine ⟨t.2, by omega, ?_⟩
    have : (x, t.2) = t := by rw [← ht2.2.1]
    rw [this]; exact ht
theorem meSt_congr {n : Nat} {M M' : Mv} : ∀ {m : Nat}, (∀ j, j < m → M.k j = M'.k j ∧ M.f j = M'.f j ∧ M.t j = M'.t j ∧ M.v j = M'.v j) → meSt n M m = meSt n M' m
  | 0, _ => rfl
  | m + 1, h => by
    obtain ⟨h1, h2, h3, h4⟩ := h m (by omega)
    rw [meSt, meSt, meSt_congr (fun j hj => h j (by omega)), h1, h2, h3, h4]
/-- What is in a copy; what it counts. -/
def inL (s : MeS) (i : Nat) : List Nat := (List.range 9).filter (fun x => hasB s i x)
def cntI (s : MeS) (i : Nat) : Nat → Int
  | 0 => 0
  | k + 1 => cntI s i k + (((s.ct (2 * i) k : Nat) : Int) - ((s.ct (2 * i + 1) k : Nat) : Int))
theorem cntI_abs {m : Nat} {s : MeS} (h : MeB m s) (i : Nat) : ∀ k, -((m * k : Nat) : Int) ≤ cntI s i k ∧ cntI s i k ≤ ((m * k : Nat) : Int)
  | 0 => by simp [cntI]
  | k + 1 => by
    have := cntI_abs h i k
    have h1 := h.ct (2 * i) k
    have h2 := h.ct (2 * i + 1) k
    rw [cntI, Nat.mul_succ]
    omega
end Go.Proofs.Ytdgegbdkimdpjaa
