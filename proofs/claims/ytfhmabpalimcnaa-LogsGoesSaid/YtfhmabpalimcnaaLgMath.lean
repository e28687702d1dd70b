/- Replicated logs, in plain functions. -/
import Derived.Test.YtfhmabpalimcnaaElMath
set_option linter.unusedVariables false
set_option linter.unusedSimpArgs false
namespace Go.Proofs.Ytfhmabpalimcnaa
open Go.RowKit

abbrev Ent := Nat × Int
structure LS where
  e : ES
  lg : Nat → List Ent
  su : Nat → Nat
  ld : Nat → Bool
  ha : Nat → Nat → Nat
  nx : Nat → Nat → Nat
def LS0 : LS := ⟨ES0, fun _ => [], fun _ => 0, fun _ => false, fun _ _ => 0, fun _ _ => 0⟩
def trm (l : List Ent) (k : Nat) : Nat := ((l[k]?).getD (0, 0)).1
def lastT (l : List Ent) : Nat := if l.length = 0 then 0 else trm l (l.length - 1)
def goodL (a b : List Ent) : Bool := decide (lastT b < lastT a) || (lastT a == lastT b && decide (b.length ≤ a.length))
def leadL (i : Nat) (s : LS) : LS := { s with ld := upd s.ld i true, ha := upd s.ha i (fun _ => 0), nx := upd s.nx i (fun _ => (s.lg i).length) }
def setEL (s : LS) (e : ES) : LS := { s with e := e }
def standL (n i : Nat) (s : LS) : Int × LS :=
  if (standS n i s.e).1 = 0 ∧ (standS n i s.e).2.R i = 2 then ((standS n i s.e).1, leadL i (setEL s (standS n i s.e).2)) else ((standS n i s.e).1, setEL s (standS n i s.e).2)
def voteL (n i t : Nat) (s : LS) : Int × LS :=
  if s.e.R t ≠ 2 ∧ (voteS n i t (goodL (s.lg t) (s.lg i)) s.e).2.R t = 2 then ((voteS n i t (goodL (s.lg t) (s.lg i)) s.e).1, leadL t (setEL s (voteS n i t (goodL (s.lg t) (s.lg i)) s.e).2))
  else ((voteS n i t (goodL (s.lg t) (s.lg i)) s.e).1, setEL s (voteS n i t (goodL (s.lg t) (s.lg i)) s.e).2)
def alike (a b : List Ent) : Nat → Nat → Nat
  | 0, k => k
  | f + 1, k => if k < a.length ∧ k < b.length ∧ a[k]? = b[k]? then alike a b f (k + 1) else k
def sendLog (a b : List Ent) (k : Nat) : List Ent := if alike a b (a.length - k) k < a.length then b.take (alike a b (a.length - k) k) ++ a.drop (alike a b (a.length - k) k) else b
def missB (a b : List Ent) (k : Nat) : Bool := decide (b.length < k) || (decide (0 < k) && !(a[k - 1]? == b[k - 1]?))
def tellL (i t : Nat) (s : LS) : LS :=
  { s with lg := upd s.lg t (sendLog (s.lg i) (s.lg t) (s.nx i t)), ha := upd s.ha i (upd (s.ha i) t (s.lg i).length), nx := upd s.nx i (upd (s.nx i) t (s.lg i).length), su := upd s.su t (max (s.su t) (min (s.su i) (s.lg i).length)) }
def backL (i t : Nat) (s : LS) : LS := { s with nx := upd s.nx i (upd (s.nx i) t (s.nx i t - 1)) }
def sendL (i t : Nat) (s : LS) : Int × LS :=
  if (beatS i t s.e).1 ≠ 0 then ((beatS i t s.e).1, setEL s (beatS i t s.e).2)
  else if missB (s.lg i) (s.lg t) (s.nx i t) then (3, backL i t (setEL s (beatS i t s.e).2))
  else (0, tellL i t (setEL s (beatS i t s.e).2))
def cntL (f : Nat → Bool) : Nat → Nat
  | 0 => 0
  | j + 1 => cntL f j + if f j then 1 else 0
def manyL (i k : Nat) (h : Nat → Nat) (n : Nat) : Nat := 1 + cntL (fun j => decide (j ≠ i) && decide (k ≤ h j)) n
def okL (n i : Nat) (s : LS) (k : Nat) : Bool := decide (n < 2 * manyL i k (s.ha i) n) && (trm (s.lg i) (k - 1) == s.e.T i)
def findL (n i : Nat) (s : LS) : Nat → Option Nat
  | 0 => none
  | k + 1 => if k + 1 ≤ s.su i then none else if okL n i s (k + 1) then some (k + 1) else findL n i s k
def sureL (i k : Nat) (s : LS) : LS := { s with su := upd s.su i k }
def commitL (n i : Nat) (s : LS) : Int × LS :=
  if s.e.R i ≠ 2 then (5, s) else match findL n i s (s.lg i).length with
    | some k => (0, sureL i k s)
    | none => (8, s)
def pushL (i : Nat) (v : Int) (s : LS) : LS := { s with lg := upd s.lg i (s.lg i ++ [(s.e.T i, v)]) }
def addL (i : Nat) (v : Int) (s : LS) : Int × LS := if s.e.R i ≠ 2 then (5, s) else if 30 ≤ (s.lg i).length then (1, s) else (0, pushL i v s)
def crashL (i : Nat) (s : LS) : LS := { s with e := crashS i s.e, su := upd s.su i 0 }
def lgStep (n : Nat) (k f t v : Int) (s : LS) : Int × LS :=
  if k < 1 ∨ 6 < k then (6, s) else if elBad n k f t then (2, s)
  else if k = 1 then standL n f.toNat s else if k = 2 then voteL n f.toNat t.toNat s else if k = 3 then sendL f.toNat t.toNat s
  else if k = 4 then addL f.toNat v s else if k = 5 then commitL n f.toNat s else (0, crashL f.toNat s)
def lgE (n : Nat) (M : Mv) : Nat → LS
  | 0 => LS0
  | j + 1 => (lgStep n (M.k j) (M.f j) (M.t j) (M.v j) (lgE n M j)).2
def lgC (n : Nat) (M : Mv) (j : Nat) : Int := (lgStep n (M.k j) (M.f j) (M.t j) (M.v j) (lgE n M j)).1

/-- How the walk of 'send' goes on. -/
theorem alike_ge (a b : List Ent) : ∀ f k, k ≤ alike a b f k
  | 0, k => Nat.le_refl _
  | f + 1, k => by
    unfold alike
    split
    · exact Nat.le_trans (Nat.le_succ k) (alike_ge a b f (k + 1))
    · exact Nat.le_refl _
theorem alike_le (a b : List Ent) : ∀ f k, k ≤ a.length → k ≤ b.length → alike a b f k ≤ a.length ∧ alike a b f k ≤ b.length
  | 0, k, h, h' => ⟨h, h'⟩
  | f + 1, k, h, h' => by
    unfold alike
    split
    · exact alike_le a b f (k + 1) (by omega) (by omega)
    · exact ⟨h, h'⟩
theorem alike_eq (a b : List Ent) : ∀ f k, a.take k = b.take k → a.take (alike a b f k) = b.take (alike a b f k)
  | 0, k, h => h
  | f + 1, k, h => by
    unfold alike
    split
    · rename_i hc
      refine alike_eq a b f (k + 1) ?_
      rw [List.take_add_one, List.take_add_one, h, hc.2.2]
    · exact h
theorem sendLog_len (a b : List Ent) {k : Nat} (h : k ≤ a.length) (h' : k ≤ b.length) : (sendLog a b k).length ≤ max a.length b.length := by
  unfold sendLog
  have := alike_le a b (a.length - k) k h h'
  split
  · simp; omega
  · omega
theorem sendLog_is (a b : List Ent) {k : Nat} (h : k ≤ a.length) (h' : k ≤ b.length) (he : a.take k = b.take k) : sendLog a b k = a ∨ (sendLog a b k = b ∧ a.length ≤ b.length ∧ b.take a.length = a) := by
  unfold sendLog
  have h1 := alike_le a b (a.length - k) k h h'
  have h2 := alike_eq a b (a.length - k) k he
  split
  · left; rw [← h2]; simp
  · right
    have : alike a b (a.length - k) k = a.length := by omega
    rw [this] at h1 h2
    exact ⟨rfl, h1.2, by rw [← h2]; simp⟩
theorem cntL_le (f : Nat → Bool) : ∀ n, cntL f n ≤ n
  | 0 => Nat.le_refl _
  | n + 1 => by
    have := cntL_le f n
    unfold cntL
    split <;> omega
theorem findL_some {n i : Nat} {s : LS} : ∀ {m k : Nat}, findL n i s m = some k → k ≤ m ∧ s.su i < k ∧ okL n i s k = true
  | 0, k, h => by simp [findL] at h
  | m + 1, k, h => by
    unfold findL at h
    split at h
    · simp at h
    split at h
    · obtain rfl : m + 1 = k := by simpa using h
      exact ⟨Nat.le_refl _, by omega, by assumption⟩
    · have := findL_some h
      exact ⟨by omega, this.2⟩

/-- What the walks ask. -/
structure LB (n B : Nat) (s : LS) : Prop where
  e : EI n B s.e
  len : ∀ i, (s.lg i).length ≤ 30
  su : ∀ i, s.su i ≤ 30
  ld : ∀ i, s.e.R i = 2 → s.ld i = true ∧ ∀ j, s.nx i j ≤ (s.lg i).length
  ha : ∀ i j, s.ha i j ≤ 30
section
variable {n B : Nat} {s : LS}
theorem LB.mono {B' : Nat} (h : LB n B s) (hB : B ≤ B') : LB n B' s := ⟨h.e.mono hB, h.len, h.su, h.ld, h.ha⟩
theorem LB.setE (h : LB n B s) {e : ES} {B' : Nat} (he : EI n B' e) (hR : ∀ i, e.R i = 2 → s.e.R i = 2) : LB n B' (setEL s e) := ⟨he, h.len, h.su, fun i hi => h.ld i (hR i hi), h.ha⟩
theorem LB.lead (h : LB n B s) {e : ES} {B' : Nat} (he : EI n B' e) (i : Nat) (hR : ∀ j, e.R j = 2 → j = i ∨ s.e.R j = 2) : LB n B' (leadL i (setEL s e)) := by
  refine ⟨he, h.len, h.su, fun j hj => ?_, fun j k => ?_⟩
  · show upd s.ld i true j = true ∧ ∀ k, upd s.nx i (fun _ => (s.lg i).length) j k ≤ (s.lg j).length
    by_cases e : j = i
    · subst e; rw [upd_same, upd_same]; exact ⟨rfl, fun _ => Nat.le_refl _⟩
    · rw [upd_ne _ _ e, upd_ne _ _ e]
      exact h.ld j ((hR j hj).resolve_left e)
  · show upd s.ha i (fun _ => 0) j k ≤ 30
    rw [upd_apply]; split
    · exact Nat.zero_le _
    · exact h.ha j k
end
theorem count_R (n i b : Nat) (s : ES) (j : Nat) : (countS n i b s).R j = 2 → j = i ∨ s.R j = 2 := by
  unfold countS
  split
  · intro h
    have h : upd s.R i 2 j = 2 := h
    by_cases e : j = i
    · exact .inl e
    · rw [upd_ne _ _ e] at h; exact .inr h
  · exact fun h => .inr h
theorem know_R (i t : Nat) (s : ES) (j : Nat) : (knowS i t s).R j = 2 → s.R j = 2 := by
  unfold knowS
  split
  · intro h
    have h : upd s.R i 0 j = 2 := h
    by_cases e : j = i
    · subst e; rw [upd_same] at h; cases h
    · rw [upd_ne _ _ e] at h; exact h
  · exact id
theorem stand_R (n i : Nat) (s : ES) (j : Nat) : (standS n i s).2.R j = 2 → j = i ∨ s.R j = 2 := by
  unfold standS
  split
  · exact fun h => .inr h
  · intro h
    rcases count_R _ _ _ _ _ h with h | h
    · exact .inl h
    · have h : upd s.R i 1 j = 2 := h
      by_cases e : j = i
      · exact .inl e
      · rw [upd_ne _ _ e] at h; exact .inr h
theorem vote_R (n i t : Nat) (g : Bool) (s : ES) (j : Nat) : (voteS n i t g s).2.R j = 2 → j = t ∨ s.R j = 2 := by
  unfold voteS
  split
  · exact fun h => .inr h
  split
  · exact fun h => .inr (know_R _ _ _ _ (know_R _ _ _ _ h))
  split
  · exact fun h => .inr (know_R _ _ _ _ h)
  · intro h
    rcases count_R _ _ _ _ _ h with h | h
    · exact .inl h
    · exact .inr (know_R _ _ _ _ h)
theorem beat_R (i t : Nat) (s : ES) (j : Nat) : (beatS i t s).2.R j = 2 → s.R j = 2 := by
  unfold beatS
  split
  · exact id
  split
  · exact know_R _ _ _ _
  · intro h
    have h : upd (knowS t (s.T i) s).R t 0 j = 2 := h
    by_cases e : j = t
    · subst e; rw [upd_same] at h; cases h
    · rw [upd_ne _ _ e] at h; exact know_R _ _ _ _ h
theorem know_Rne (i t : Nat) (s : ES) {j : Nat} (h : j ≠ i) : (knowS i t s).R j = s.R j := by
  unfold knowS
  split
  · exact upd_ne _ _ h
  · rfl
theorem beat_ok {i t : Nat} {s : ES} (h : (beatS i t s).1 = 0) : s.R i = 2 ∧ (beatS i t s).2 = { knowS t (s.T i) s with R := upd (knowS t (s.T i) s).R t 0 } ∧ s.T t ≤ s.T i := by
  unfold beatS at h ⊢
  split at h
  · simp at h
  rename_i h1
  split at h
  · simp at h
  rename_i h2
  rw [if_neg h1, if_neg h2]
  exact ⟨by omega, rfl, by omega⟩
theorem ei_stand {n B i : Nat} {s : ES} (h : EI n B s) (hi : i < n) : EI n (B + 1) (standS n i s).2 := by
  have := h.step (k := 1) (f := i) (t := 0)
  rw [el_stand, if_neg (by simp; omega)] at this
  simpa using this
theorem ei_vote {n B i t : Nat} {g : Bool} {s : ES} (h : EI n B s) (hi : i < n) (ht : t < n) (hit : i ≠ t) : EI n (B + 1) (voteS n i t g s).2 := by
  cases g
  · unfold voteS
    have hk := h.know i (h.T t)
    split
    · exact h.mono (by omega)
    split
    · exact (hk.know t (hk.T i)).mono (by omega)
    rw [if_pos (.inr rfl)]
    exact hk.mono (by omega)
  · have := h.step (k := 2) (f := i) (t := t)
    rw [el_vote, if_neg (by simp; omega)] at this
    simpa using this
theorem ei_beat {n B i t : Nat} {s : ES} (h : EI n B s) (hi : i < n) (ht : t < n) (hit : i ≠ t) : EI n (B + 1) (beatS i t s).2 := by
  have := h.step (k := 3) (f := i) (t := t)
  rw [el_beat, if_neg (by simp; omega)] at this
  simpa using this
theorem ei_crash {n B i : Nat} {s : ES} (h : EI n B s) (hi : i < n) : EI n (B + 1) (crashS i s) := by
  have := h.step (k := 6) (f := i) (t := 0)
  rw [el_crash, if_neg (by simp; omega)] at this
  simpa using this
section
variable {n B : Nat} {s : LS}
theorem LB.stand (h : LB n B s) {i : Nat} (hi : i < n) : LB n (B + 1) (standL n i s).2 := by
  unfold standL
  split
  · exact h.lead (ei_stand h.e hi) i (stand_R n i s.e)
  · rename_i hc
    refine h.setE (ei_stand h.e hi) fun j hj => ?_
    rcases stand_R _ _ _ _ hj with rfl | h2
    · have : (standS n j s.e).1 ≠ 0 := fun h0 => hc ⟨h0, hj⟩
      unfold standS at this hj
      split at this
      · assumption
      · exact absurd rfl this
    · exact h2
theorem LB.vote (h : LB n B s) {i t : Nat} (hi : i < n) (ht : t < n) (hit : i ≠ t) : LB n (B + 1) (voteL n i t s).2 := by
  unfold voteL
  split
  · exact h.lead (ei_vote h.e hi ht hit) t (vote_R n i t _ s.e)
  · rename_i hc
    refine h.setE (ei_vote h.e hi ht hit) fun j hj => ?_
    rcases vote_R _ _ _ _ _ _ hj with rfl | h2
    · by_cases e : s.e.R j = 2
      · exact e
      · exact absurd ⟨e, hj⟩ hc
    · exact h2
theorem miss_no {a b : List Ent} {k : Nat} (h : missB a b k = false) : k ≤ b.length ∧ (0 < k → a[k - 1]? = b[k - 1]?) := by
  unfold missB at h
  rw [Bool.or_eq_false_iff, Bool.and_eq_false_iff] at h
  refine ⟨by have := of_decide_eq_false h.1; omega, fun hk => ?_⟩
  rcases h.2 with h2 | h2
  · have := of_decide_eq_false h2; omega
  · simpa using h2
theorem LB.send (h : LB n B s) {i t : Nat} (hi : i < n) (ht : t < n) (hit : i ≠ t) : LB n (B + 1) (sendL i t s).2 := by
  have h1 := h.setE (ei_beat h.e hi ht hit) (beat_R i t s.e)
  unfold sendL
  split
  · exact h1
  rename_i h0
  have h0 : (beatS i t s.e).1 = 0 := Classical.byContradiction h0
  have hld := h.ld i (beat_ok h0).1
  split
  · refine ⟨h1.e, h.len, h.su, fun j hj => ?_, h.ha⟩
    have := h1.ld j hj
    show s.ld j = true ∧ ∀ k, upd s.nx i _ j k ≤ (s.lg j).length
    refine ⟨this.1, fun k => ?_⟩
    by_cases e : j = i
    · subst e
      rw [upd_same, upd_apply]
      split
      · have h9 : s.nx j t ≤ (s.lg j).length := this.2 t
        exact Nat.le_trans (Nat.sub_le _ _) h9
      · exact this.2 k
    · rw [upd_ne _ _ e]; exact this.2 k
  · rename_i hm
    have hm := miss_no (Bool.eq_false_iff.2 hm)
    have hl := sendLog_len (s.lg i) (s.lg t) (hld.2 t) hm.1
    have ha := h.len i
    have hb := h.len t
    refine ⟨h1.e, fun j => ?_, fun j => ?_, fun j hj => ?_, fun j k => ?_⟩
    · show (upd s.lg t _ j).length ≤ 30
      rw [upd_apply]; split
      · show (sendLog (s.lg i) (s.lg t) (s.nx i t)).length ≤ 30
        omega
      · exact h.len j
    · show upd s.su t _ j ≤ 30
      have := h.su j
      have := h.su t
      have := h.su i
      rw [upd_apply]; split
      · show max (s.su t) (min (s.su i) (s.lg i).length) ≤ 30
        omega
      · omega
    · have hj : (beatS i t s.e).2.R j = 2 := hj
      have hjt : j ≠ t := by
        rintro rfl
        rw [(beat_ok h0).2.1] at hj
        have hj : upd _ j 0 j = (2 : Int) := hj
        rw [upd_same] at hj; cases hj
      have := h1.ld j hj
      refine ⟨this.1, fun k => ?_⟩
      show upd s.nx i _ j k ≤ (upd s.lg t _ j).length
      rw [upd_ne _ _ hjt]
      by_cases e : j = i
      · subst e
        rw [upd_same, upd_apply]
        split
        · exact Nat.le_refl _
        · exact this.2 k
      · rw [upd_ne _ _ e]; exact this.2 k
    · show upd s.ha i _ j k ≤ 30
      by_cases e : j = i
      · subst e
        rw [upd_same, upd_apply]
        split
        · exact ha
        · exact h.ha j k
      · rw [upd_ne _ _ e]; exact h.ha j k
theorem LB.step (h : LB n B s) {k f t v : Int} : LB n (B + 1) (lgStep n k f t v s).2 := by
  have h1 := h.mono (B' := B + 1) (by omega)
  unfold lgStep
  split
  · exact h1
  split
  · exact h1
  rename_i hk hb
  have hf : 0 ≤ f ∧ f < n := by
    cases hh : (decide (0 ≤ f) && decide (f < (n : Int)))
    · simp [elBad, hh] at hb
    · simpa using hh
  have ht : k = 2 ∨ k = 3 → 0 ≤ t ∧ t < n ∧ f ≠ t := by
    intro hk
    cases hh : (decide (0 ≤ t) && decide (t < (n : Int)))
    · rcases hk with rfl | rfl <;> simp [elBad, hh] at hb
    · have hft : f ≠ t := by
        rintro rfl
        rcases hk with rfl | rfl <;> simp [elBad] at hb
      have : 0 ≤ t ∧ t < n := by simpa using hh
      exact ⟨this.1, this.2, hft⟩
  split
  · exact h.stand (by omega)
  split
  · have := ht (.inl (by assumption))
    exact h.vote (by omega) (by omega) (by omega)
  split
  · have := ht (.inr (by assumption))
    exact h.send (by omega) (by omega) (by omega)
  split
  · unfold addL
    split
    · exact h1
    split
    · exact h1
    · rename_i hl
      refine ⟨h1.e, fun j => ?_, h1.su, fun j hj => ⟨(h1.ld j hj).1, fun k => ?_⟩, h1.ha⟩
      · show (upd s.lg _ _ j).length ≤ 30
        rw [upd_apply]; split
        · rw [List.length_append, List.length_singleton]; omega
        · exact h.len j
      · show s.nx j k ≤ (upd s.lg _ _ j).length
        have := (h1.ld j hj).2 k
        rw [upd_apply]; split
        · rename_i e
          rw [List.length_append, List.length_singleton, ← e]; omega
        · exact this
  split
  · unfold commitL
    split
    · exact h1
    · split
      · rename_i k hk
        have := findL_some hk
        refine ⟨h1.e, h1.len, fun j => ?_, h1.ld, h1.ha⟩
        show upd s.su _ k j ≤ 30
        rw [upd_apply]; split
        · have := h.len f.toNat
          omega
        · exact h.su j
      · exact h1
  · refine ⟨ei_crash h.e (by omega), h.len, fun j => ?_, fun j hj => ?_, h.ha⟩
    · show upd s.su _ 0 j ≤ 30
      rw [upd_apply]; split
      · omega
      · exact h.su j
    · have hj : upd s.e.R f.toNat 0 j = 2 := hj
      by_cases e : j = f.toNat
      · rw [e, upd_same] at hj; cases hj
      · rw [upd_ne _ _ e] at hj; exact h.ld j hj
end
theorem LB.all (n : Nat) (M : Mv) : ∀ j, LB n j (lgE n M j)
  | 0 => ⟨EI.all n M 0, fun _ => Nat.zero_le _, fun _ => Nat.zero_le _, fun i h => (by cases h), fun _ _ => Nat.zero_le _⟩
  | j + 1 => (LB.all n M j).step
end Go.Proofs.Ytfhmabpalimcnaa
