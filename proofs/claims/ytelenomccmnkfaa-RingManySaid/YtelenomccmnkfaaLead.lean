/- The walk of ring.Lead. -/
import Derived.Test.YtelenomccmnkfaaLdB
import Derived.Test.YtelenomccmnkfaaRgMath
import Derived.Test.YtelenomccmnkfaaKeyV
import Derived.Test.YtelenomccmnkfaaUpdE
import Derived.Deep.CutRange
import Derived.Deep.CutBlock
set_option linter.unusedVariables false
set_option linter.unusedSimpArgs false
namespace Go.Proofs.Ytelenomccmnkfaa
open Go.RowKit Go.Maps Go.MapKept

def keyN (a : Nat) : Value := .int .i64 (a : Nat)
theorem keyN_inj (x y : Nat) (h : keyN x = keyN y) : x = y := by
  unfold keyN at h
  injection h with _ h
  exact Int.ofNat_inj.1 h
theorem keyedN : Keyed Try.prog 3 := int_keyed Try.underlying3
theorem wf_keyN {x : Nat} (hx : x < 1000) : (Lit.int .i64 (x : Nat)).wf = true := by
  simp [Lit.wf, IntKind.min, IntKind.max, IntKind.signed, IntKind.bits]; omega
/-- The map of what is on the way. -/
def WayM (n : Nat) (w : Way) (es : Array MapEntry) (c : Nat) : Prop :=
  ∃ l, KeyL Try.prog 3 keyN l es c ∧ (∀ j, j ∈ l ↔ j < n ∧ (w j).isSome = true) ∧ ∀ x, x ∈ es.toList → ∀ j y, x.key = keyN j → w j = some y → x.val = .int .i64 y
theorem WayM.empty (n : Nat) : WayM n (fun _ => none) #[] 0 := ⟨[], KeyL.empty _ _ _, fun j => by simp, fun x hx => by simp at hx⟩
theorem WayM.congr {n : Nat} {w w' : Way} {es : Array MapEntry} {c : Nat} (h : WayM n w es c) (e : ∀ j, j < n → w' j = w j) : WayM n w' es c := by
  obtain ⟨l, h1, h2, h3⟩ := h
  refine ⟨l, h1, fun j => ?_, fun x hx j y hk hy => ?_⟩
  · rw [h2]
    constructor
    · rintro ⟨q1, q2⟩; exact ⟨q1, by rw [e j q1]; exact q2⟩
    · rintro ⟨q1, q2⟩; exact ⟨q1, by rw [← e j q1]; exact q2⟩
  · obtain ⟨a, ha, hka⟩ := h1.mem hx
    have : j = a := keyN_inj _ _ (hk.symm.trans hka)
    subst this
    exact h3 x hx j y hk (by rw [← e j ((h2 j).1 ha).1]; exact hy)
theorem WayM.len {n : Nat} {w : Way} {es : Array MapEntry} {c : Nat} (h : WayM n w es c) : es.size = cw n w := by
  obtain ⟨l, h1, h2, h3⟩ := h
  rw [h1.len]
  exact sumN_len h1.nodup h2
theorem WayM.mem {n : Nat} {w : Way} {es : Array MapEntry} {c : Nat} (h : WayM n w es c) {x : MapEntry} (hx : x ∈ es.toList) : ∃ j y, j < n ∧ w j = some y ∧ x.key = keyN j ∧ x.val = .int .i64 y := by
  obtain ⟨l, h1, h2, h3⟩ := h
  obtain ⟨a, ha, hka⟩ := h1.mem hx
  obtain ⟨q1, q2⟩ := (h2 a).1 ha
  obtain ⟨y, hy⟩ := Option.isSome_iff_exists.1 q2
  exact ⟨a, y, q1, hy, hka, h3 x hx a y hka hy⟩
theorem WayM.has {n : Nat} {w : Way} {es : Array MapEntry} {c : Nat} (h : WayM n w es c) {j : Nat} (hj : j < n) (hw : w j ≠ none) : ∃ x, x ∈ es.toList ∧ x.key = keyN j := by
  obtain ⟨l, h1, h2, h3⟩ := h
  exact h1.has ((h2 j).2 ⟨hj, by cases hh : w j with | none => exact absurd hh hw | some y => rfl⟩)
section
variable {w0 w : World} {L : List LRow} {Q : List MRow} {bm n : Nat} {wy : Way}
def putO (w : Way) (j : Nat) (x : Int) : Way := fun k => if k = j then some x else w k
theorem way_put (h : LayM w0 w L (⟨bm, WayM n wy⟩ :: Q)) {j : Nat} (hj : j < n) (hn : n ≤ 12) (x : Int) :
    ∃ es' c', (Instr.mapUpdate 41 (.map (some bm)) (.int .i64 (j : Nat)) (.int .i64 x)).run Try.prog w = .ok () (ChangeMaps.setBlock w bm (.map es' c')) ∧ LayM w0 (ChangeMaps.setBlock w bm (.map es' c')) L (⟨bm, WayM n (putO wy j x)⟩ :: Q) := by
  obtain ⟨h1, es, c, h2, l, k1, k2, k3⟩ := h.map 0 _ rfl
  obtain ⟨es', c', hrun, h4, h5⟩ := KeyL.putV k1 h2 keyedN Try.underlying41 keyN_inj j (keyOf_int_mk Try.underlying3 (wf_keyN (show j < 1000 by omega))) (.int .i64 x)
  refine ⟨es', c', hrun, h.setM 0 rfl es' c' (WayM n (putO wy j x)) ⟨_, h4, fun k => ?_, fun e he k y hk hy => ?_⟩⟩
  · have : k ∈ (if j ∈ l then l else l ++ [j]) ↔ k ∈ l ∨ k = j := by
      split
      · exact ⟨.inl, fun h' => h'.elim id fun e => by rw [e]; assumption⟩
      · simp
    rw [this, k2]
    unfold putO
    by_cases e : k = j
    · rw [if_pos e]
      exact ⟨fun _ => ⟨by omega, rfl⟩, fun _ => .inr e⟩
    · rw [if_neg e]
      exact ⟨fun h' => h'.elim id fun e' => absurd e' e, .inl⟩
  · unfold putO at hy
    rcases h5 e he with ⟨q1, q2⟩ | ⟨q1, q2⟩
    · have : k = j := keyN_inj _ _ (hk.symm.trans q1)
      rw [if_pos this] at hy
      injection hy with hy
      rw [q2, hy]
    · have : k ≠ j := fun e' => q2 (by rw [hk, e'])
      rw [if_neg this] at hy
      exact k3 e q1 k y hk hy
theorem LayM.fixH {φ : Array MapEntry → Nat → Prop} {b : Nat} (h : LayM w0 w L (⟨b, φ⟩ :: Q)) : ∃ es c, w.heap[b]? = some (.map es c) ∧ φ es c ∧ LayM w0 w L (⟨b, fun e' c' => e' = es ∧ c' = c⟩ :: Q) := by
  obtain ⟨h1, es, c, h2, h3⟩ := h.map 0 _ rfl
  refine ⟨es, c, h2, h3, h.lay, fun i q hi => ?_, fun i j q r hij hi hj => ?_⟩
  · rcases i with _ | i
    · obtain rfl : (⟨b, fun e' c' => e' = es ∧ c' = c⟩ : MRow) = q := by simpa using hi
      exact ⟨h1, es, c, h2, rfl, rfl⟩
    · exact h.map (i + 1) q hi
  · have key : ∀ (k : Nat) (x : MRow), (⟨b, fun e' c' => e' = es ∧ c' = c⟩ :: Q : List MRow)[k]? = some x → ∃ y : MRow, (⟨b, φ⟩ :: Q : List MRow)[k]? = some y ∧ y.b = x.b := by
      intro k x hk
      rcases k with _ | k
      · obtain rfl : (⟨b, fun e' c' => e' = es ∧ c' = c⟩ : MRow) = x := by simpa using hk
        exact ⟨⟨b, φ⟩, rfl, rfl⟩
      · exact ⟨x, hk, rfl⟩
    obtain ⟨y1, q1, q2⟩ := key i q hi
    obtain ⟨y2, q3, q4⟩ := key j r hj
    rw [← q2, ← q4]
    exact h.ap i j y1 y2 hij q1 q3
theorem LayM.first' {q : MRow} (h : LayM w0 w L (q :: Q)) : LayM w0 w L [q] := by
  refine ⟨h.lay, fun i x hi => ?_, fun i j x y hij hi hj => ?_⟩
  · rcases i with _ | i
    · obtain rfl : q = x := by simpa using hi
      exact h.map 0 _ rfl
    · simp at hi
  · rcases i with _ | i
    · rcases j with _ | j
      · exact absurd rfl hij
      · simp at hj
    · simp at hi
theorem LayM.swapM {q r : MRow} (h : LayM w0 w L (q :: r :: Q)) : LayM w0 w L (r :: q :: Q) := by
  have key : ∀ (k : Nat) (x : MRow), (r :: q :: Q)[k]? = some x → ∃ k', (q :: r :: Q)[k']? = some x ∧ k' = (if k = 0 then 1 else if k = 1 then 0 else k) := by
    intro k x hk
    rcases k with _ | _ | k
    · exact ⟨1, hk, rfl⟩
    · exact ⟨0, hk, rfl⟩
    · exact ⟨k + 2, hk, by simp⟩
  refine ⟨h.lay, fun i x hi => ?_, fun i j x y hij hi hj => ?_⟩
  · obtain ⟨k, h1, _⟩ := key i x hi
    exact h.map k x h1
  · obtain ⟨k1, h1, e1⟩ := key i x hi
    obtain ⟨k2, h2, e2⟩ := key j y hj
    refine h.ap k1 k2 x y (fun e => hij ?_) h1 h2
    rw [e1, e2] at e
    split at e <;> split at e <;> (try split at e) <;> (try split at e) <;> omega
theorem LayM.congrM {φ ψ : Array MapEntry → Nat → Prop} {b : Nat} (h : LayM w0 w L [⟨b, φ⟩]) (e : ∀ es c, φ es c → ψ es c) : LayM w0 w L [⟨b, ψ⟩] := by
  refine ⟨h.lay, fun i x hi => ?_, fun i j x y hij hi hj => ?_⟩
  · rcases i with _ | i
    · obtain rfl : (⟨b, ψ⟩ : MRow) = x := by simpa using hi
      obtain ⟨h1, es, c, h2, h3⟩ := h.map 0 _ rfl
      exact ⟨h1, es, c, h2, e _ _ h3⟩
    · simp at hi
  · rcases i with _ | i
    · rcases j with _ | j
      · exact absurd rfl hij
      · simp at hj
    · simp at hi
end
/-- In the midst of a round. -/
def PRel (n : Nat) (f : Nat → Int) (s : Nat → Bool) (w : Way) (D : Nat → Prop) (wc : Way) (sc : Nat → Bool) : Prop :=
  ∀ i, i < n → (D i → wc (sc1 i n) = outR f s w i ∧ sc i = stepS f s w i) ∧ (¬ D i → wc (sc1 i n) = none ∧ sc i = s i)
theorem PRel.start (n : Nat) (f : Nat → Int) (s : Nat → Bool) (w : Way) {D : Nat → Prop} (hD : ∀ i, ¬ D i) : PRel n f s w D (fun _ => none) s := fun i _ => ⟨fun h => absurd h (hD i), fun _ => ⟨rfl, rfl⟩⟩
theorem PRel.fin {n : Nat} {f : Nat → Int} {b : Nat → Bool} {t : Nat} {D : Nat → Prop} {wc : Way} {sc : Nat → Bool} (h : PRel n f (RW n f b t).2 (RW n f b t).1 D wc sc) (hD : ∀ i, i < n → (RW n f b t).1 i ≠ none → D i) : (∀ j, j < n → (RW n f b (t + 1)).1 j = wc j) ∧ ∀ i, i < n → (RW n f b (t + 1)).2 i = sc i := by
  have key : ∀ i, i < n → wc (sc1 i n) = outR f (RW n f b t).2 (RW n f b t).1 i ∧ sc i = stepS f (RW n f b t).2 (RW n f b t).1 i := fun i hi => by
    by_cases hd : D i
    · exact (h i hi).1 hd
    · obtain ⟨h1, h2⟩ := (h i hi).2 hd
      have hw : (RW n f b t).1 i = none := Classical.byContradiction fun hne => hd (hD i hi hne)
      refine ⟨h1.trans ?_, h2.trans ?_⟩
      · unfold outR; rw [hw]
      · unfold stepS; rw [hw]; simp
  refine ⟨fun j hj => ?_, fun i hi => (key i hi).2.symm⟩
  have := (key _ (pm1_lt hj)).1
  rw [sc_pm hj] at this
  rw [this]; rfl
/-- One more is seen: it stays behind. -/
theorem PRel.none {n : Nat} {f : Nat → Int} {s : Nat → Bool} {w : Way} {D D' : Nat → Prop} {wc : Way} {sc : Nat → Bool} {j : Nat} {x : Int} (h : PRel n f s w D wc sc) (hj : j < n) (hw : w j = some x) (hD : ∀ i, D' i ↔ D i ∨ i = j) (hnd : ¬ D j) (hlt : x < f j) (hs : s j = true) : PRel n f s w D' wc sc := fun i hi => by
  by_cases e : i = j
  · subst e
    obtain ⟨h1, h2⟩ := (h i hi).2 hnd
    refine ⟨fun _ => ⟨?_, ?_⟩, fun h' => absurd ((hD i).2 (.inr rfl)) h'⟩
    · rw [h1]; unfold outR; rw [hw]; simp [hlt, hs]
    · rw [h2]; unfold stepS; rw [hs]; rfl
  · have e2 : D' i ↔ D i := by rw [hD]; exact ⟨fun h' => h'.elim id fun e' => absurd e' e, .inl⟩
    rw [e2]; exact h i hi
/-- .. it goes on, as itself or as the place's own. -/
theorem PRel.some {n : Nat} {f : Nat → Int} {s : Nat → Bool} {w : Way} {D D' : Nat → Prop} {wc : Way} {sc sc' : Nat → Bool} {j : Nat} {x y : Int} (h : PRel n f s w D wc sc) (hj : j < n) (hw : w j = some x) (hD : ∀ i, D' i ↔ D i ∨ i = j) (hnd : ¬ D j) (ho : outR f s w j = some y) (hs : sc' j = stepS f s w j) (hs' : ∀ i, i ≠ j → sc' i = sc i) : PRel n f s w D' (putO wc (sc1 j n) y) sc' := fun i hi => by
  by_cases e : i = j
  · subst e
    refine ⟨fun _ => ⟨?_, hs⟩, fun h' => absurd ((hD i).2 (.inr rfl)) h'⟩
    unfold putO
    rw [if_pos rfl, ho]
  · have e2 : D' i ↔ D i := by rw [hD]; exact ⟨fun h' => h'.elim id fun e' => absurd e' e, .inl⟩
    have e3 : putO wc (sc1 j n) y (sc1 i n) = wc (sc1 i n) := if_neg fun e' => e (sc1_inj hi hj e')
    rw [e2, e3, hs' i e]; exact h i hi
end Go.Proofs.Ytelenomccmnkfaa
