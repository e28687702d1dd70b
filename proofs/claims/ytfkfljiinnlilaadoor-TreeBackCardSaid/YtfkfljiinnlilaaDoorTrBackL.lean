/- What is made can be dropped, and then nobody sees that it was there: plain. -/
import Derived.Test.YtfkfljiinnlilaaDoorTrGrown
set_option linter.unusedVariables false
set_option linter.unusedSimpArgs false
namespace Go.Proofs.YtfkfljiinnlilaaDoor
open Go.RowKit

theorem ans_congr {st st' : TS} (hk : st.ks = st'.ks) (hd : ∀ s ∈ st.ks, st.dat s = st'.dat s) (hv : ∀ s ∈ st.ks, st.ver s = st'.ver s) (d : Deed) : (doS st d).1 = (doS st' d).1 := by
  unfold doS buildS
  rw [← hk]
  by_cases h : d.path ∈ st.ks
  · rw [← hd _ h, ← hv _ h]
    revert h; intro h
    by_cases c1 : d.kind < 1 ∨ 5 < d.kind
    · rw [if_pos c1, if_pos c1]
    rw [if_neg c1, if_neg c1]
    by_cases c2 : nameB d.path = false
    · rw [if_pos c2, if_pos c2]
    rw [if_neg c2, if_neg c2]
    by_cases c3 : (d.kind = 1 ∨ d.kind = 2) ∧ 20 < d.data.length
    · rw [if_pos c3, if_pos c3]
    rw [if_neg c3, if_neg c3]
    by_cases c4 : d.kind = 1
    · rw [if_pos c4, if_pos c4, if_pos h, if_pos h]
    rw [if_neg c4, if_neg c4]
    by_cases c5 : d.kind = 3 ∧ d.path = [47]
    · rw [if_pos c5, if_pos c5]
    rw [if_neg c5, if_neg c5, if_neg (not_not_intro h), if_neg (not_not_intro h)]
    by_cases c7 : d.kind = 4
    · rw [if_pos c7, if_pos c7]
    rw [if_neg c7, if_neg c7]
    by_cases c8 : d.kind = 5
    · rw [if_pos c8, if_pos c8]
    rw [if_neg c8, if_neg c8]
    by_cases c9 : 0 ≤ d.version ∧ d.version ≠ st.ver d.path
    · rw [if_pos c9, if_pos c9]
    rw [if_neg c9, if_neg c9]
    by_cases c10 : d.kind = 2
    · rw [if_pos c10, if_pos c10]
    rw [if_neg c10, if_neg c10]
    by_cases c11 : partsOf st.ks d.path ≠ []
    · rw [if_pos c11, if_pos c11]
    rw [if_neg c11, if_neg c11]
  · by_cases c1 : d.kind < 1 ∨ 5 < d.kind
    · rw [if_pos c1, if_pos c1]
    rw [if_neg c1, if_neg c1]
    by_cases c2 : nameB d.path = false
    · rw [if_pos c2, if_pos c2]
    rw [if_neg c2, if_neg c2]
    by_cases c3 : (d.kind = 1 ∨ d.kind = 2) ∧ 20 < d.data.length
    · rw [if_pos c3, if_pos c3]
    rw [if_neg c3, if_neg c3]
    by_cases c4 : d.kind = 1
    · rw [if_pos c4, if_pos c4, if_neg h, if_neg h]
      by_cases c5 : parL d.path ∉ st.ks
      · rw [if_pos c5, if_pos c5]
      rw [if_neg c5, if_neg c5]
      by_cases c6 : 12 ≤ st.ks.length
      · rw [if_pos c6, if_pos c6]
      rw [if_neg c6, if_neg c6]
    rw [if_neg c4, if_neg c4]
    by_cases c5 : d.kind = 3 ∧ d.path = [47]
    · rw [if_pos c5, if_pos c5]
    rw [if_neg c5, if_neg c5, if_pos h, if_pos h]
theorem make_ok {st : TS} {p : Str} (h : (doS st ⟨1, p, [], 0⟩).1.code = 0) : p ∉ st.ks ∧ nameB p = true ∧ parL p ∈ st.ks ∧ (doS st ⟨1, p, [], 0⟩).2 = putS st p [] 0 := by
  have e : doS st ⟨1, p, [], 0⟩ = if nameB p = false then (A0 3, st) else (A0 (buildS st ⟨1, p, [], 0⟩).1, (buildS st ⟨1, p, [], 0⟩).2) := by
    unfold doS
    rw [if_neg (by show ¬ ((1 : Int) < 1 ∨ (5 : Int) < 1); decide)]
    show (if nameB p = false then _ else _) = _
    by_cases h1 : nameB p = false
    · rw [if_pos h1, if_pos h1]
    rw [if_neg h1, if_neg h1, if_neg (fun h => absurd h.2 (show ¬ 20 < ([] : Str).length by decide)), if_pos rfl]
  rw [e] at h ⊢
  by_cases h1 : nameB p = false
  · rw [if_pos h1] at h; exact absurd h (show ¬ (3 : Int) = 0 by decide)
  rw [if_neg h1] at h ⊢
  have h : (buildS st ⟨1, p, [], 0⟩).1 = 0 := h
  have e2 : buildS st ⟨1, p, [], 0⟩ = if p ∈ st.ks then (7, st) else if parL p ∉ st.ks then (5, st) else if 12 ≤ st.ks.length then (1, st) else (0, putS st p [] 0) := rfl
  show p ∉ st.ks ∧ nameB p = true ∧ parL p ∈ st.ks ∧ (buildS st ⟨1, p, [], 0⟩).2 = putS st p [] 0
  rw [e2] at h ⊢
  by_cases h2 : p ∈ st.ks
  · rw [if_pos h2] at h; exact absurd h (show ¬ (7 : Int) = 0 by decide)
  rw [if_neg h2] at h ⊢
  by_cases h3 : parL p ∉ st.ks
  · rw [if_pos h3] at h; exact absurd h (show ¬ (5 : Int) = 0 by decide)
  rw [if_neg h3] at h ⊢
  by_cases h4 : 12 ≤ st.ks.length
  · rw [if_pos h4] at h; exact absurd h (show ¬ (1 : Int) = 0 by decide)
  rw [if_neg h4] at h ⊢
  exact ⟨h2, by simpa using h1, Classical.not_not.1 h3, rfl⟩
structure BackLaw (a b c e : Ans) : Prop where
  law : b.code ≠ 0 ∨ (c.code = 0 ∧ a = e)
theorem backLaw {k : Nat} {st : TS} (hT : TrB k st) (p : Str) (d : Deed) : BackLaw (doS st d).1 (doS st ⟨1, p, [], 0⟩).1 (doS (doS st ⟨1, p, [], 0⟩).2 ⟨3, p, [], 0⟩).1 (doS (doS (doS st ⟨1, p, [], 0⟩).2 ⟨3, p, [], 0⟩).2 d).1 := by
  by_cases h : (doS st ⟨1, p, [], 0⟩).1.code = 0
  · refine ⟨.inr ?_⟩
    obtain ⟨h1, h2, h3, h4⟩ := make_ok h
    rw [h4]
    have ek : (putS st p [] 0).ks = st.ks ++ [p] := if_neg h1
    have hroot : p ≠ [47] := fun e => h1 (by rw [e]; exact hT.root)
    have hin : p ∈ (putS st p [] 0).ks := by rw [ek]; simp
    have hver : (putS st p [] 0).ver p = 0 := if_pos rfl
    have hpar : partsOf (putS st p [] 0).ks p = [] := by
      rw [ek]
      unfold partsOf
      rw [List.map_eq_nil_iff, List.filter_eq_nil_iff]
      intro s hs hb
      have hb : (parL s == p && s != [47]) = true := hb
      rw [Bool.and_eq_true] at hb
      have e : parL s = p := eq_of_beq hb.1
      rcases List.mem_append.1 hs with hs | hs
      · exact h1 (by rw [← e]; exact hT.up s hs)
      · obtain rfl := List.mem_singleton.1 hs
        exact h1 (by rw [← e]; exact h3)
    have e3 : doS (putS st p [] 0) ⟨3, p, [], 0⟩ = (A0 0, dropS (putS st p [] 0) p) := by
      unfold doS
      rw [if_neg (by show ¬ ((3 : Int) < 1 ∨ (5 : Int) < 3); decide), if_neg (by show ¬ nameB p = false; rw [h2]; decide), if_neg (fun h => h.1.elim (fun h => absurd h (show ¬ (3 : Int) = 1 by decide)) (fun h => absurd h (show ¬ (3 : Int) = 2 by decide))),
        if_neg (by show ¬ (3 : Int) = 1; decide), if_neg (fun h => hroot h.2), if_neg (not_not_intro hin), if_neg (by show ¬ (3 : Int) = 4; decide), if_neg (by show ¬ (3 : Int) = 5; decide),
        if_neg (fun h => absurd h.2 (not_not_intro (show (0 : Int) = (((putS st p [] 0).ver p : Nat) : Int) by rw [hver]; rfl))), if_neg (by show ¬ (3 : Int) = 2; decide), if_neg (not_not_intro hpar)]
    rw [e3]
    refine ⟨rfl, ans_congr (st' := dropS (putS st p [] 0) p) ?_ ?_ ?_ d⟩
    · show st.ks = (putS st p [] 0).ks.erase p
      rw [ek, List.erase_append_right _ h1]
      simp
    · intro s hs
      show _ = if s = p then _ else _
      rw [if_neg (fun e => h1 (by rw [← e]; exact hs))]
    · intro s hs
      show _ = if s = p then _ else _
      rw [if_neg (fun e => h1 (by rw [← e]; exact hs))]
  · exact ⟨.inl h⟩
end Go.Proofs.YtfkfljiinnlilaaDoor
