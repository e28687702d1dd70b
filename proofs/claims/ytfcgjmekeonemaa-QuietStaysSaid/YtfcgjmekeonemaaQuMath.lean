/- Quiet, in plain functions. -/
import Derived.Test.YtfcgjmekeonemaaMv
import Derived.Test.YtfcgjmekeonemaaPopM
import Derived.Test.YtfcgjmekeonemaaBits
set_option linter.unusedVariables false
set_option linter.unusedSimpArgs false
namespace Go.Proofs.Ytfcgjmekeonemaa
open Go.RowKit

structure QS where
  works : Nat
  owed : Nat → Int
  bound : Nat → Nat
  way : Nat × Nat → Int
def QS0 : QS := ⟨1, fun _ => 0, fun i => i, fun _ => 0⟩
def wput (f : Nat × Nat → Int) (a : Nat × Nat) (v : Int) : Nat × Nat → Int := fun b => if b = a then v else f b
def clrB (a i : Nat) : Nat := a &&& (4294967295 - 2 ^ i)
def ready (i : Nat) (s : QS) : Prop := i ≠ 0 ∧ s.works.testBit i = false ∧ s.owed i = 0 ∧ s.bound i ≠ i
instance (i : Nat) (s : QS) : Decidable (ready i s) := by unfold ready; infer_instance
def letGo (i : Nat) (s : QS) : QS := { s with bound := upd s.bound i i, owed := upd s.owed (s.bound i) (s.owed (s.bound i) - 1) }
def looseS : Nat → Nat → QS → QS
  | 0, _, s => s
  | k + 1, i, s => if ready i s then looseS k (s.bound i) (letGo i s) else s
def takeS (n f t : Nat) (s : QS) : Int × QS :=
  if s.way (f, t) = 0 then (5, s)
  else if t ≠ 0 ∧ s.bound t = t then (0, { s with way := wput s.way (f, t) (s.way (f, t) - 1), works := s.works ||| 2 ^ t, bound := upd s.bound t f })
  else (0, looseS n f { s with way := wput s.way (f, t) (s.way (f, t) - 1), works := s.works ||| 2 ^ t, owed := upd s.owed f (s.owed f - 1) })
def sendS (f t : Nat) (s : QS) : QS := { s with way := wput s.way (f, t) (s.way (f, t) + 1), owed := upd s.owed f (s.owed f + 1) }
def quBad (n : Nat) (k f t : Int) : Bool := !(decide (0 ≤ f) && decide (f < n)) || (k != 3 && (!(decide (0 ≤ t) && decide (t < n)) || f == t))
def quStep (n : Nat) (k f t : Int) (s : QS) : Int × QS :=
  if k < 1 ∨ 3 < k then (6, s) else if quBad n k f t then (2, s)
  else if k = 2 then takeS n f.toNat t.toNat s
  else if s.works.testBit f.toNat = false then (7, s)
  else if k = 3 then (0, looseS n f.toNat { s with works := clrB s.works f.toNat })
  else (0, sendS f.toNat t.toNat s)
def quE (n : Nat) (M : Mv) : Nat → QS
  | 0 => QS0
  | j + 1 => (quStep n (M.k j) (M.f j) (M.t j) (quE n M j)).2
def quC (n : Nat) (M : Mv) (j : Nat) : Int := (quStep n (M.k j) (M.f j) (M.t j) (quE n M j)).1

def sumI (f : Nat → Int) : Nat → Int
  | 0 => 0
  | n + 1 => sumI f n + f n
theorem sumI_change {f g : Nat → Int} {t : Nat} (h : ∀ j, j ≠ t → g j = f j) : ∀ n, sumI g n = sumI f n + if t < n then g t - f t else 0 := by
  intro n
  induction n with
  | zero => simp [sumI]
  | succ n ih =>
    rw [sumI, sumI, ih]
    by_cases e : n = t
    · subst e
      rw [if_neg (by omega), if_pos (by omega)]; omega
    · rw [h n e]
      by_cases h1 : t < n
      · rw [if_pos h1, if_pos (by omega)]; omega
      · rw [if_neg h1, if_neg (by omega)]; omega
theorem sumI_congr {f g : Nat → Int} {n : Nat} (h : ∀ j, j < n → g j = f j) : sumI g n = sumI f n := by
  induction n with
  | zero => rfl
  | succ n ih => rw [sumI, sumI, ih fun j hj => h j (by omega), h n (by omega)]
theorem sumI_pos {f : Nat → Int} {n : Nat} (h : ∀ j, j < n → 0 ≤ f j) : 0 ≤ sumI f n := by
  induction n with
  | zero => simp [sumI]
  | succ n ih =>
    have := ih fun j hj => h j (by omega)
    have := h n (by omega)
    rw [sumI]; omega
theorem sumI_zero {f : Nat → Int} {n : Nat} (h : ∀ j, j < n → 0 ≤ f j) (h0 : sumI f n = 0) : ∀ j, j < n → f j = 0 := by
  induction n with
  | zero => intro j hj; omega
  | succ n ih =>
    rw [sumI] at h0
    have h1 := sumI_pos fun j hj => h j (Nat.lt_succ_of_lt hj)
    have h2 := h n (by omega)
    intro j hj
    by_cases e : j = n
    · subst e; omega
    · exact ih (fun j hj => h j (by omega)) (by omega) j (by omega)
theorem sumI_none {f : Nat → Int} {n : Nat} (h : ∀ j, j < n → f j = 0) : sumI f n = 0 := by
  induction n with
  | zero => rfl
  | succ n ih => rw [sumI, ih fun j hj => h j (by omega), h n (by omega)]; rfl

def sentI (s : QS) (i n : Nat) : Int := sumI (fun j => s.way (i, j)) n
def kidF (b : Nat → Nat) (i p : Nat) : Int := if p ≠ i ∧ b p = i then 1 else 0
def kidsI (s : QS) (i n : Nat) : Int := sumI (kidF s.bound i) n
theorem kidF_pos (b : Nat → Nat) (i p : Nat) : 0 ≤ kidF b i p := by unfold kidF; split <;> omega
/-- What holds between the moves; but at x a process may have nothing left to do. -/
structure QJ (n : Nat) (x : Option Nat) (s : QS) : Prop where
  owed : ∀ i, i < n → s.owed i = sentI s i n + kidsI s i n
  way : ∀ p, 0 ≤ s.way p
  bound : ∀ p, p < n → s.bound p < n
  root : s.bound 0 = 0
  depth : ∃ d : Nat → Nat, ∀ p, p < n → s.bound p ≠ p → d (s.bound p) < d p
  idle : ∀ p, p < n → p ≠ 0 → s.bound p = p → s.works.testBit p = false ∧ s.owed p = 0
  busy : ∀ p, p < n → some p ≠ x → s.bound p ≠ p → s.works.testBit p = true ∨ s.owed p ≠ 0
  works : s.works < 2 ^ n
section
variable {n : Nat} {s : QS}
theorem QJ.sent_pos {x : Option Nat} (h : QJ n x s) (i : Nat) : 0 ≤ sentI s i n := sumI_pos fun j _ => h.way _
theorem QJ.kids_pos {x : Option Nat} (i : Nat) : 0 ≤ kidsI s i n := sumI_pos fun p _ => kidF_pos _ _ _
theorem QJ.owed_pos {x : Option Nat} (h : QJ n x s) {i : Nat} (hi : i < n) : 0 ≤ s.owed i := by
  have a := h.sent_pos i
  have b := QJ.kids_pos (s := s) (n := n) (x := x) i
  have := h.owed i hi
  omega
theorem QJ.no_kids {x : Option Nat} (h : QJ n x s) {i : Nat} (hi : i < n) (h0 : s.owed i = 0) : ∀ p, p < n → p ≠ i → s.bound p ≠ i := by
  have a := h.sent_pos i
  have b := QJ.kids_pos (s := s) (n := n) (x := x) i
  have c := h.owed i hi
  have hk : kidsI s i n = 0 := by omega
  intro p hp hpi hb
  have := sumI_zero (fun p _ => kidF_pos s.bound i p) hk p hp
  rw [kidF, if_pos ⟨hpi, hb⟩] at this
  cases this
theorem QJ.kid {x : Option Nat} (h : QJ n x s) {p : Nat} (hp : p < n) (hb : s.bound p ≠ p) : 0 < s.owed (s.bound p) := by
  have hq := h.bound p hp
  have := h.owed_pos hq
  by_cases h0 : s.owed (s.bound p) = 0
  · exact absurd rfl (h.no_kids hq h0 p hp (Ne.symm hb))
  · omega
/-- One who has nothing left to do answers. -/
theorem QJ.letGo_ {i : Nat} (h : QJ n (some i) s) (hi : i < n) (hr : ready i s) : QJ n (some (s.bound i)) (letGo i s) := by
  obtain ⟨h0, h1, h2, h3⟩ := hr
  have hb := h.bound i hi
  have hno := h.no_kids hi h2
  have hko := h.kid hi h3
  have hkids : ∀ j, j < n → kidsI (letGo i s) j n = kidsI s j n - if j = s.bound i then 1 else 0 := by
    intro j _
    have := sumI_change (f := kidF s.bound j) (g := kidF (upd s.bound i i) j) (t := i) (fun p hp => by unfold kidF; rw [upd_ne _ _ hp]) n
    show sumI (kidF (upd s.bound i i) j) n = _
    rw [this, if_pos hi]
    have e1 : kidF (upd s.bound i i) j i = 0 := by unfold kidF; rw [upd_same, if_neg (fun h => h.1 h.2)]
    rw [e1]
    show sumI (kidF s.bound j) n + _ = sumI (kidF s.bound j) n - _
    unfold kidF
    by_cases e : j = s.bound i
    · rw [if_pos ⟨fun e2 => h3 (by rw [← e, ← e2]), e.symm⟩, if_pos e]; omega
    · rw [if_neg (fun h => e h.2.symm), if_neg e]; omega
  refine ⟨fun j hj => ?_, h.way, fun p hp => ?_, ?_, ?_, fun p hp hp0 hpb => ?_, fun p hp hpx hpb => ?_, h.works⟩
  · rw [hkids j hj]
    show upd s.owed (s.bound i) _ j = sentI s j n + _
    have := h.owed j hj
    by_cases e : j = s.bound i
    · rw [e, upd_same, if_pos rfl]
      rw [e] at this; omega
    · rw [upd_ne _ _ e, if_neg e]; omega
  · show upd s.bound i i p < n
    rw [upd_apply]; split
    · exact hi
    · exact h.bound p hp
  · show upd s.bound i i 0 = 0
    rw [upd_ne _ _ (by omega)]; exact h.root
  · obtain ⟨d, hd⟩ := h.depth
    refine ⟨d, fun p hp hpb => ?_⟩
    have hpb : upd s.bound i i p ≠ p := hpb
    show d (upd s.bound i i p) < d p
    by_cases e : p = i
    · subst e; rw [upd_same] at hpb; exact absurd rfl hpb
    · rw [upd_ne _ _ e] at hpb ⊢; exact hd p hp hpb
  · have hpb : upd s.bound i i p = p := hpb
    show s.works.testBit p = false ∧ upd s.owed (s.bound i) _ p = 0
    by_cases e : p = i
    · subst e
      exact ⟨h1, by rw [upd_ne _ _ (Ne.symm h3)]; exact h2⟩
    · rw [upd_ne _ _ e] at hpb
      obtain ⟨a, b⟩ := h.idle p hp hp0 hpb
      refine ⟨a, ?_⟩
      by_cases e2 : p = s.bound i
      · rw [← e2, b] at hko; omega
      · rw [upd_ne _ _ e2]; exact b
  · have hpb : upd s.bound i i p ≠ p := hpb
    have hp2 : p ≠ s.bound i := fun e => hpx (by rw [e])
    show s.works.testBit p = true ∨ upd s.owed (s.bound i) _ p ≠ 0
    rw [upd_ne _ _ hp2]
    by_cases e : p = i
    · subst e; rw [upd_same] at hpb; exact absurd rfl hpb
    · rw [upd_ne _ _ e] at hpb
      exact h.busy p hp (fun h => e (by injection h)) hpb
/-- How many are bound. -/
def farN (b : Nat → Nat) : Nat → Nat
  | 0 => 0
  | n + 1 => farN b n + if b n = n then 0 else 1
theorem farN_le (b : Nat → Nat) (n : Nat) : farN b n ≤ n := by
  induction n with
  | zero => exact Nat.le_refl _
  | succ n ih => rw [farN]; split <;> omega
theorem farN_upd {b : Nat → Nat} {i : Nat} (hb : b i ≠ i) : ∀ n, farN (upd b i i) n + (if i < n then 1 else 0) = farN b n := by
  intro n
  induction n with
  | zero => rfl
  | succ n ih =>
    rw [farN, farN, ← ih]
    by_cases e : n = i
    · subst e
      simp [upd_same, hb]
    · rw [upd_ne _ _ e]
      by_cases h : i < n
      · rw [if_pos h, if_pos (show i < n + 1 by omega)]; omega
      · rw [if_neg h, if_neg (show ¬ i < n + 1 by omega)]; omega
theorem QJ.loose_ : ∀ (k : Nat) (i : Nat) (s : QS), farN s.bound n ≤ k → i < n → QJ n (some i) s → QJ n none (looseS k i s) := by
  intro k
  induction k with
  | zero =>
    intro i s hk hi h
    show QJ n none s
    refine ⟨h.owed, h.way, h.bound, h.root, h.depth, h.idle, fun p hp _ hpb => ?_, h.works⟩
    have := farN_upd hpb n
    rw [if_pos hp] at this
    omega
  | succ k ih =>
    intro i s hk hi h
    rw [looseS]
    split
    · rename_i hr
      refine ih _ _ ?_ (h.bound i hi) (h.letGo_ hi hr)
      have := farN_upd hr.2.2.2 n
      rw [if_pos hi] at this
      show farN (upd s.bound i i) n ≤ k
      omega
    · rename_i hr
      refine ⟨h.owed, h.way, h.bound, h.root, h.depth, h.idle, fun p hp _ hpb => ?_, h.works⟩
      by_cases e : p = i
      · subst e
        cases hw : s.works.testBit p
        · by_cases h0 : s.owed p = 0
          · exact absurd ⟨fun e0 => hpb (by rw [e0]; exact h.root), hw, h0, hpb⟩ hr
          · exact .inr h0
        · exact .inl rfl
      · exact h.busy p hp (fun h => e (by injection h)) hpb
theorem QJ.loose_n {i : Nat} (hi : i < n) (h : QJ n (some i) s) : QJ n none (looseS n i s) := QJ.loose_ n i s (farN_le _ _) hi h
theorem bit_or (a t p : Nat) : (a ||| 2 ^ t).testBit p = (a.testBit p || decide (t = p)) := by
  rw [Nat.testBit_or, Nat.testBit_two_pow]
theorem clrB_bit {a i : Nat} (ha : a < 2 ^ n) (hn : n ≤ 6) (hi : i < n) (p : Nat) : (clrB a i).testBit p = (a.testBit p && !decide (i = p)) := by
  unfold clrB
  have h2 : (2 : Nat) ^ i < 2 ^ 32 := Nat.pow_lt_pow_right (by omega) (by omega)
  have e : 4294967295 - 2 ^ i = 2 ^ 32 - (2 ^ i + 1) := by omega
  rw [Nat.testBit_and, e, Nat.testBit_two_pow_sub_succ h2, Nat.testBit_two_pow]
  by_cases hp : p < 32
  · simp [hp]
  · have : a.testBit p = false := Nat.testBit_lt_two_pow (Nat.lt_of_lt_of_le ha (Nat.pow_le_pow_right (by omega) (by omega)))
    simp [this]
theorem sent_put {s s' : QS} {f t : Nat} {v : Int} (hw : s'.way = wput s.way (f, t) v) (ht : t < n) (i : Nat) : sentI s' i n = sentI s i n + if i = f then v - s.way (f, t) else 0 := by
  have := sumI_change (f := fun j => s.way (i, j)) (g := fun j => s'.way (i, j)) (t := t) (fun j hj => by show s'.way (i, j) = s.way (i, j); rw [hw, wput, if_neg (fun e => hj (by injection e))]) n
  show sumI (fun j => s'.way (i, j)) n = sumI (fun j => s.way (i, j)) n + _
  rw [this, if_pos ht]
  by_cases e : i = f
  · subst e
    rw [if_pos rfl, hw, wput, if_pos rfl]
  · rw [if_neg e, hw, wput, if_neg (fun h => e (by injection h))]; omega
theorem QJ.send (h : QJ n none s) {f t : Nat} (hf : f < n) (ht : t < n) (hb : s.works.testBit f = true) : QJ n none (sendS f t s) := by
  refine ⟨fun j hj => ?_, fun p => ?_, h.bound, h.root, h.depth, fun p hp hp0 hpb => ?_, fun p hp hpx hpb => ?_, h.works⟩
  · have hs := sent_put (s := s) (s' := sendS f t s) (f := f) (t := t) rfl ht j
    have := h.owed j hj
    show upd s.owed f _ j = sentI (sendS f t s) j n + kidsI s j n
    rw [hs]
    by_cases e : j = f
    · subst e; rw [upd_same, if_pos rfl]; omega
    · rw [upd_ne _ _ e, if_neg e]; omega
  · show 0 ≤ wput s.way (f, t) _ p
    unfold wput; split
    · have := h.way (f, t); omega
    · exact h.way p
  · obtain ⟨a, b⟩ := h.idle p hp hp0 hpb
    have hne : p ≠ f := fun e => by rw [e, hb] at a; cases a
    exact ⟨a, (upd_ne _ _ hne).trans b⟩
  · rcases h.busy p hp hpx hpb with a | a
    · exact .inl a
    · refine .inr ?_
      show upd s.owed f _ p ≠ 0
      by_cases e : p = f
      · subst e; rw [upd_same]; have := h.owed_pos hp; omega
      · rw [upd_ne _ _ e]; exact a
theorem QJ.restQ (hn : n ≤ 6) (h : QJ n none s) {f : Nat} (hf : f < n) : QJ n (some f) { s with works := clrB s.works f } := by
  refine ⟨h.owed, h.way, h.bound, h.root, h.depth, fun p hp hp0 hpb => ?_, fun p hp hpx hpb => ?_, Nat.lt_of_le_of_lt Nat.and_le_left h.works⟩
  · obtain ⟨a, b⟩ := h.idle p hp hp0 hpb
    refine ⟨?_, b⟩
    show (clrB s.works f).testBit p = false
    rw [clrB_bit h.works hn hf, a]; rfl
  · have hne : f ≠ p := fun e => hpx (by rw [e])
    rcases h.busy p hp (by simp) hpb with a | a
    · refine .inl ?_
      show (clrB s.works f).testBit p = true
      rw [clrB_bit h.works hn hf, a]; simp [hne]
    · exact .inr a
theorem QJ.rest (hn : n ≤ 6) (h : QJ n none s) {f : Nat} (hf : f < n) : QJ n none (looseS n f { s with works := clrB s.works f }) := (h.restQ hn hf).loose_n hf
def takeO (f t : Nat) (s : QS) : QS := { s with way := wput s.way (f, t) (s.way (f, t) - 1), works := s.works ||| 2 ^ t, owed := upd s.owed f (s.owed f - 1) }
theorem QJ.takeB (h : QJ n none s) {f t : Nat} (hf : f < n) (ht : t < n) (hft : f ≠ t) (hw : ¬ s.way (f, t) = 0) (hb : ¬ (t ≠ 0 ∧ s.bound t = t)) : QJ n (some f) (takeO f t s) := by
  have hw1 : 1 ≤ s.way (f, t) := by have := h.way (f, t); omega
  have hof : 1 ≤ s.owed f := by
    have h1 := h.owed f hf
    have h2 := QJ.kids_pos (s := s) (n := n) (x := none) f
    have h3 : sentI { s with way := wput s.way (f, t) 0 } f n = sentI s f n + _ := sent_put (s := s) (s' := { s with way := wput s.way (f, t) 0 }) rfl ht f
    rw [if_pos rfl] at h3
    have h4 : 0 ≤ sentI { s with way := wput s.way (f, t) 0 } f n := sumI_pos fun j _ => by
      show 0 ≤ wput s.way (f, t) 0 (f, j)
      unfold wput; split
      · omega
      · exact h.way _
    omega
  have hway : ∀ p, 0 ≤ wput s.way (f, t) (s.way (f, t) - 1) p := fun p => by
    unfold wput; split
    · omega
    · exact h.way p
  refine ⟨fun j hj => ?_, hway, h.bound, h.root, h.depth, fun p hp hp0 hpb => ?_, fun p hp hpx hpb => ?_, or_lt h.works ht⟩
  · have hs : sentI (takeO f t s) j n = _ := sent_put (s := s) (f := f) (t := t) rfl ht j
    have := h.owed j hj
    show upd s.owed f _ j = sentI _ j n + kidsI s j n
    rw [hs]
    by_cases e : j = f
    · subst e; rw [upd_same, if_pos rfl]; omega
    · rw [upd_ne _ _ e, if_neg e]; omega
  · obtain ⟨a, b⟩ := h.idle p hp hp0 hpb
    have hpt : p ≠ t := fun e => hb (by rw [← e]; exact ⟨hp0, hpb⟩)
    have hpf : p ≠ f := fun e => by rw [e] at b; omega
    refine ⟨?_, (upd_ne _ _ hpf).trans b⟩
    show (s.works ||| 2 ^ t).testBit p = false
    rw [bit_or, a]; simp [Ne.symm hpt]
  · have hpf : p ≠ f := fun e => hpx (by rw [e])
    rcases h.busy p hp (by simp) hpb with a | a
    · exact .inl (by show (s.works ||| 2 ^ t).testBit p = true; rw [bit_or, a]; simp)
    · exact .inr (by show upd s.owed f _ p ≠ 0; rw [upd_ne _ _ hpf]; exact a)
theorem QJ.take (h : QJ n none s) {f t : Nat} (hf : f < n) (ht : t < n) (hft : f ≠ t) : QJ n none (takeS n f t s).2 := by
  unfold takeS
  split
  · exact h
  rename_i hw
  have hw1 : 1 ≤ s.way (f, t) := by have := h.way (f, t); omega
  have hof : 1 ≤ s.owed f := by
    have h1 := h.owed f hf
    have h2 := QJ.kids_pos (s := s) (n := n) (x := none) f
    have h3 : sentI { s with way := wput s.way (f, t) 0 } f n = sentI s f n + _ := sent_put (s := s) (s' := { s with way := wput s.way (f, t) 0 }) rfl ht f
    rw [if_pos rfl] at h3
    have h4 : 0 ≤ sentI { s with way := wput s.way (f, t) 0 } f n := sumI_pos fun j _ => by
      show 0 ≤ wput s.way (f, t) 0 (f, j)
      unfold wput; split
      · omega
      · exact h.way _
    omega
  have hway : ∀ p, 0 ≤ wput s.way (f, t) (s.way (f, t) - 1) p := fun p => by
    unfold wput; split
    · omega
    · exact h.way p
  split
  · rename_i hb
    obtain ⟨ht0, hbt⟩ := hb
    obtain ⟨i1, i2⟩ := h.idle t ht ht0 hbt
    have hno := h.no_kids ht i2
    refine ⟨fun j hj => ?_, hway, fun p hp => ?_, ?_, ?_, fun p hp hp0 hpb => ?_, fun p hp hpx hpb => ?_, or_lt h.works ht⟩
    · have hs : sentI { s with way := wput s.way (f, t) (s.way (f, t) - 1), works := s.works ||| 2 ^ t, bound := upd s.bound t f } j n = _ := sent_put (s := s) (f := f) (t := t) rfl ht j
      have hk := sumI_change (f := kidF s.bound j) (g := kidF (upd s.bound t f) j) (t := t) (fun p hp => by unfold kidF; rw [upd_ne _ _ hp]) n
      rw [if_pos ht] at hk
      have := h.owed j hj
      show s.owed j = sentI _ j n + sumI (kidF (upd s.bound t f) j) n
      rw [hs, hk]
      have e1 : kidF s.bound j t = 0 := by unfold kidF; rw [hbt, if_neg (fun h => h.1 h.2)]
      rw [e1]
      unfold kidsI at this
      by_cases e : j = f
      · subst e
        rw [if_pos rfl, kidF, if_pos ⟨Ne.symm hft, upd_same _ _ _⟩]; omega
      · rw [if_neg e, kidF, if_neg (fun h => e (by have := h.2; rw [upd_same] at this; exact this.symm))]; omega
    · show upd s.bound t f p < n
      rw [upd_apply]; split
      · exact hf
      · exact h.bound p hp
    · show upd s.bound t f 0 = 0
      rw [upd_ne _ _ (Ne.symm ht0)]; exact h.root
    · obtain ⟨d, hd⟩ := h.depth
      refine ⟨upd d t (d f + 1), fun p hp hpb => ?_⟩
      have hpb : upd s.bound t f p ≠ p := hpb
      show upd d t (d f + 1) (upd s.bound t f p) < upd d t (d f + 1) p
      by_cases e : p = t
      · subst e; rw [upd_same, upd_same, upd_ne _ _ hft]; omega
      · rw [upd_ne _ _ e] at hpb ⊢
        rw [upd_ne _ _ e, upd_ne _ _ (hno p hp e)]
        exact hd p hp hpb
    · have hpb : upd s.bound t f p = p := hpb
      by_cases e : p = t
      · subst e; rw [upd_same] at hpb; exact absurd hpb hft
      · rw [upd_ne _ _ e] at hpb
        obtain ⟨a, b⟩ := h.idle p hp hp0 hpb
        refine ⟨?_, b⟩
        show (s.works ||| 2 ^ t).testBit p = false
        rw [bit_or, a]; simp [Ne.symm e]
    · have hpb : upd s.bound t f p ≠ p := hpb
      by_cases e : p = t
      · subst e
        exact .inl (by show (s.works ||| 2 ^ p).testBit p = true; rw [bit_or]; simp)
      · rw [upd_ne _ _ e] at hpb
        rcases h.busy p hp hpx hpb with a | a
        · exact .inl (by show (s.works ||| 2 ^ t).testBit p = true; rw [bit_or, a]; simp)
        · exact .inr a
  · rename_i hb
    exact (h.takeB hf ht hft hw hb).loose_n hf
theorem quBad_ok {k f t : Int} (hk : ¬ (k < 1 ∨ 3 < k)) (h : ¬ quBad n k f t = true) : (0 ≤ f ∧ f < n) ∧ (k ≠ 3 → (0 ≤ t ∧ t < n) ∧ f ≠ t) := by
  unfold quBad at h
  simp at h
  obtain ⟨⟨a, b⟩, c⟩ := h
  refine ⟨⟨a, b⟩, fun hk3 => ?_⟩
  obtain ⟨⟨c1, c2⟩, c3⟩ := c hk3
  exact ⟨⟨c1, c2⟩, c3⟩
theorem QJ.step (hn : n ≤ 6) (h : QJ n none s) (k f t : Int) : QJ n none (quStep n k f t s).2 := by
  unfold quStep
  split
  · exact h
  rename_i hk
  split
  · exact h
  rename_i hb
  obtain ⟨⟨f0, f1⟩, ht⟩ := quBad_ok hk hb
  have hf : f.toNat < n := by omega
  split
  · rename_i e
    obtain ⟨⟨t0, t1⟩, hne⟩ := ht (by omega)
    exact h.take hf (by omega) (by omega)
  split
  · exact h
  rename_i hwk
  split
  · exact h.rest hn hf
  · rename_i e3
    obtain ⟨⟨t0, t1⟩, hne⟩ := ht e3
    exact h.send hf (by omega) (by simpa using hwk)
theorem QJ.start (h0 : 1 ≤ n) : QJ n none QS0 := by
  refine ⟨fun i hi => ?_, fun _ => Int.le_refl _, fun p hp => hp, rfl, ⟨fun _ => 0, fun p _ hb => absurd rfl hb⟩, fun p _ hp0 _ => ⟨?_, rfl⟩, fun p _ _ hb => absurd rfl hb, ?_⟩
  · show (0 : Int) = sumI _ n + sumI _ n
    rw [sumI_none (f := fun j => QS0.way (i, j)) fun _ _ => rfl, sumI_none (f := kidF QS0.bound i) fun p _ => by unfold kidF; rw [if_neg (fun h => h.1 h.2)]]
    rfl
  · show (1 : Nat).testBit p = false
    have : (1 : Nat) = 2 ^ 0 := rfl
    rw [this, Nat.testBit_two_pow]; simp; omega
  · show 1 < 2 ^ n
    exact Nat.one_lt_two_pow (by omega)
theorem quE_J (h0 : 1 ≤ n) (hn : n ≤ 6) (M : Mv) : ∀ j, QJ n none (quE n M j)
  | 0 => QJ.start h0
  | j + 1 => (quE_J h0 hn M j).step hn _ _ _
theorem looseS_owed {B : Int} : ∀ (k i : Nat) (s : QS), (∀ j, s.owed j ≤ B) → ∀ j, (looseS k i s).owed j ≤ B
  | 0, _, _, h => h
  | k + 1, i, s, h => by
    rw [looseS]
    split
    · refine looseS_owed k _ _ fun j => ?_
      show upd s.owed (s.bound i) _ j ≤ B
      rw [upd_apply]; split
      · have := h (s.bound i); omega
      · exact h j
    · exact h
theorem looseS_way : ∀ (k i : Nat) (s : QS), (looseS k i s).way = s.way
  | 0, _, _ => rfl
  | k + 1, i, s => by
    rw [looseS]
    split
    · exact (looseS_way k _ _).trans rfl
    · rfl
theorem wput_le {f : Nat × Nat → Int} {B : Int} (h : ∀ p, f p ≤ B) (a : Nat × Nat) {v : Int} (hv : v ≤ B + 1) : ∀ p, wput f a v p ≤ B + 1 := by
  intro p
  unfold wput; split
  · exact hv
  · have := h p; omega
theorem quStep_B {B : Int} (h1 : ∀ j, s.owed j ≤ B) (h2 : ∀ p, s.way p ≤ B) (k f t : Int) : (∀ j, (quStep n k f t s).2.owed j ≤ B + 1) ∧ ∀ p, (quStep n k f t s).2.way p ≤ B + 1 := by
  have a1 : ∀ j, s.owed j ≤ B + 1 := fun j => by have := h1 j; omega
  have a2 : ∀ p, s.way p ≤ B + 1 := fun p => by have := h2 p; omega
  unfold quStep
  split
  · exact ⟨a1, a2⟩
  split
  · exact ⟨a1, a2⟩
  split
  · unfold takeS
    split
    · exact ⟨a1, a2⟩
    split
    · exact ⟨a1, wput_le h2 _ (by have := h2 (f.toNat, t.toNat); omega)⟩
    · refine ⟨looseS_owed _ _ _ fun j => ?_, fun p => ?_⟩
      · show upd s.owed _ _ j ≤ _
        rw [upd_apply]; split
        · have := h1 f.toNat; omega
        · exact a1 j
      · show (looseS _ _ _).way p ≤ _
        rw [looseS_way]
        exact wput_le h2 _ (by have := h2 (f.toNat, t.toNat); omega) p
  split
  · exact ⟨a1, a2⟩
  split
  · refine ⟨looseS_owed _ _ _ a1, fun p => ?_⟩
    show (looseS _ _ _).way p ≤ _
    rw [looseS_way]
    exact a2 p
  · refine ⟨fun j => ?_, wput_le h2 _ (by have := h2 (f.toNat, t.toNat); omega)⟩
    show upd s.owed _ _ j ≤ _
    rw [upd_apply]; split
    · have := h1 f.toNat; omega
    · exact a1 j
theorem quE_B (M : Mv) : ∀ j : Nat, (∀ i, (quE n M j).owed i ≤ (j : Int)) ∧ ∀ p, (quE n M j).way p ≤ (j : Int)
  | 0 => ⟨fun _ => Int.le_refl _, fun _ => Int.le_refl _⟩
  | j + 1 => by
    have := quStep_B (n := n) (quE_B M j).1 (quE_B M j).2 (M.k j) (M.f j) (M.t j)
    exact this
/-- It is told that all is done. -/
def quDone (s : QS) : Bool := !s.works.testBit 0 && decide (s.owed 0 = 0)
def quiet (n : Nat) (s : QS) : Prop := s.works = 0 ∧ ∀ f t, f < n → t < n → s.way (f, t) = 0
theorem works_zero {a : Nat} (ha : a < 2 ^ n) (h : ∀ p, p < n → a.testBit p = false) : a = 0 := by
  apply Nat.eq_of_testBit_eq
  intro p
  rw [Nat.zero_testBit]
  by_cases hp : p < n
  · exact h p hp
  · exact Nat.testBit_lt_two_pow (Nat.lt_of_lt_of_le ha (Nat.pow_le_pow_right (by omega) (by omega)))
theorem QJ.safe (h : QJ n none s) (h0 : 1 ≤ n) : quDone s = true ↔ quiet n s := by
  unfold quDone
  simp only [Bool.and_eq_true, Bool.not_eq_true', decide_eq_true_eq]
  obtain ⟨d, hd⟩ := h.depth
  constructor
  · rintro ⟨a, b⟩
    have hall : ∀ k p, d p ≤ k → p < n → s.bound p = p := by
      intro k
      induction k with
      | zero =>
        intro p hk hp
        by_cases e : s.bound p = p
        · exact e
        · have := hd p hp e; omega
      | succ k ih =>
        intro p hk hp
        by_cases e : s.bound p = p
        · exact e
        · have h1 := hd p hp e
          have h2 := h.bound p hp
          have h3 := ih (s.bound p) (by omega) h2
          have h4 := h.kid hp e
          by_cases e0 : s.bound p = 0
          · rw [e0, b] at h4; omega
          · have := (h.idle _ h2 e0 h3).2; omega
    have hz : ∀ p, p < n → s.works.testBit p = false ∧ s.owed p = 0 := fun p hp => by
      by_cases e : p = 0
      · subst e; exact ⟨a, b⟩
      · exact h.idle p hp e (hall (d p) p (Nat.le_refl _) hp)
    refine ⟨works_zero h.works fun p hp => (hz p hp).1, fun f t hf ht => ?_⟩
    have h1 := h.owed f hf
    have h2 := QJ.kids_pos (s := s) (n := n) (x := none) f
    have h3 := h.sent_pos f
    exact sumI_zero (f := fun j => s.way (f, j)) (fun j _ => h.way _) (by have := (hz f hf).2; unfold sentI at h1 h3; omega) t ht
  · rintro ⟨a, b⟩
    have hsent : ∀ i, i < n → sentI s i n = 0 := fun i hi => sumI_none fun j hj => b i j hi hj
    have hmax : ∃ D, ∀ p, p < n → d p ≤ D := ⟨(List.range n).foldr (fun p m => max (d p) m) 0, fun p hp => by
      have : ∀ l : List Nat, p ∈ l → d p ≤ l.foldr (fun p m => max (d p) m) 0 := by
        intro l
        induction l with
        | nil => intro h; simp at h
        | cons x l ih =>
          intro h
          rw [List.foldr_cons]
          rcases List.mem_cons.1 h with rfl | h
          · omega
          · have := ih h; omega
      exact this _ (List.mem_range.2 hp)⟩
    obtain ⟨D, hD⟩ := hmax
    have hall : ∀ k p, D - d p ≤ k → p < n → s.owed p = 0 := by
      intro k
      induction k with
      | zero =>
        intro p hk hp
        rw [h.owed p hp, hsent p hp]
        have : kidsI s p n = 0 := sumI_none fun c hc => by
          unfold kidF
          refine if_neg fun hh => ?_
          have h1 := hd c hc (by rw [hh.2]; exact Ne.symm hh.1)
          have := hD c hc
          rw [hh.2] at h1; omega
        omega
      | succ k ih =>
        intro p hk hp
        rw [h.owed p hp, hsent p hp]
        have : kidsI s p n = 0 := sumI_none fun c hc => by
          unfold kidF
          refine if_neg fun hh => ?_
          have hcb : s.bound c ≠ c := by rw [hh.2]; exact Ne.symm hh.1
          have h1 := hd c hc hcb
          rw [hh.2] at h1
          have h2 := ih c (by omega) hc
          rcases h.busy c hc (by simp) hcb with h3 | h3
          · rw [a, Nat.zero_testBit] at h3; cases h3
          · exact h3 h2
        omega
    exact ⟨by rw [a, Nat.zero_testBit], hall _ 0 (Nat.le_refl _) (by omega)⟩
theorem quiet_step (h : quiet n s) (k f t : Int) : quiet n (quStep n k f t s).2 := by
  unfold quStep
  split
  · exact h
  rename_i hk
  split
  · exact h
  rename_i hb
  obtain ⟨⟨f0, f1⟩, ht⟩ := quBad_ok hk hb
  split
  · rename_i e
    obtain ⟨⟨t0, t1⟩, hne⟩ := ht (by omega)
    unfold takeS
    rw [if_pos (h.2 _ _ (by omega) (by omega))]
    exact h
  · rw [if_pos (by rw [h.1, Nat.zero_testBit])]
    exact h
theorem quDone_stays (h0 : 1 ≤ n) (hn : n ≤ 6) (M : Mv) {i : Nat} (h : quDone (quE n M i) = true) : ∀ j, quDone (quE n M (i + j)) = true := by
  have hq : ∀ j, quiet n (quE n M (i + j)) := by
    intro j
    induction j with
    | zero => exact ((quE_J h0 hn M i).safe h0).1 h
    | succ j ih => exact quiet_step ih _ _ _
  exact fun j => ((quE_J h0 hn M _).safe h0).2 (hq j)
end
end Go.Proofs.Ytfcgjmekeonemaa
