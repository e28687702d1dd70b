/- A map of the walk's own, told by the list of its keys and a function of the key. -/
import Derived.Test.YtfdgjbanajodfaaDoorRange
set_option linter.unusedVariables false
set_option linter.unusedSimpArgs false
namespace Go.Proofs.YtfdgjbanajodfaaDoor
open Go.RowKit Go.Maps Go.MapKept

theorem modify_mem {es : Array MapEntry} {j : Nat} {e0 : MapEntry} (hj : es[j]? = some e0) (F : MapEntry → MapEntry) {x : MapEntry} (hx : x ∈ (es.modify j F).toList) : x = F e0 ∨ ∃ i, i ≠ j ∧ es[i]? = some x := by
  obtain ⟨i, hi⟩ := List.getElem?_of_mem hx
  rw [Array.getElem?_toList, Array.getElem?_modify] at hi
  by_cases e1 : j = i
  · subst e1
    rw [if_pos rfl, hj] at hi
    injection hi with hi
    exact .inl hi.symm
  · rw [if_neg e1] at hi
    exact .inr ⟨i, fun e => e1 e.symm, hi⟩
theorem KeyL.putV {α : Type} [DecidableEq α] {P : Program} {k t e : TypeId} {κ : α → Value} {l : List α} {es : Array MapEntry} {clock : Nat} {w : World} {b : Nat} (h : KeyL P k κ l es clock) (hb : w.heap[b]? = some (.map es clock)) (K : Keyed P k) (ht : P.underlying t = some (.map k e)) (hκ : ∀ a b, κ a = κ b → a = b) (a : α) {kl : Lit} (hkey : keyOf P k (κ a) = some kl) (v : Value) :
    ∃ es' clock', (Instr.mapUpdate t (.map (some b)) (κ a) v).run P w = .ok () (ChangeMaps.setBlock w b (.map es' clock')) ∧ KeyL P k κ (if a ∈ l then l else l ++ [a]) es' clock' ∧ ∀ x, x ∈ es'.toList → (x.key = κ a ∧ x.val = v) ∨ (x ∈ es.toList ∧ x.key ≠ κ a) := by
  rcases K.find w hkey es.toList h.2.1 with ⟨h1, h2⟩ | ⟨j, e0, h1, h2, h3⟩
  · refine ⟨es.push ⟨κ a, v, clock⟩, clock + 1, ?_, ?_, fun x hx => ?_⟩
    · simp [Instr.mapUpdate, run_underlying ht, MapKept.run_getObj_map hb, K.check w false hkey, h1, MapKept.run_setObj_map _ hb, Result.andThen, ChangeMaps.setBlock]
    · have hno : a ∉ l := fun ha => by
        obtain ⟨x, hx, hk⟩ := h.has ha
        exact h2 x hx hk
      rw [if_neg hno]
      refine ⟨stamped_push h.1 h2, fun x hx => ?_, ?_⟩
      · rcases (by simpa using hx : x ∈ es ∨ x = ⟨κ a, v, clock⟩) with hx | rfl
        · exact h.2.1 x (by simpa using hx)
        · exact ⟨kl, hkey⟩
      · rw [Array.toList_push, List.map_append, h.2.2, List.map_append]
        rfl
    · rcases (by simpa using hx : x ∈ es ∨ x = ⟨κ a, v, clock⟩) with hx | rfl
      · exact .inr ⟨by simpa using hx, h2 x (by simpa using hx)⟩
      · exact .inl ⟨rfl, rfl⟩
  · have hj : es[j]? = some e0 := by simpa using h2
    have hmk : (es.modify j (fun e' => { e' with key := κ a, val := v })).toList.map (·.key) = es.toList.map (·.key) ∧ (es.modify j (fun e' => { e' with key := κ a, val := v })).toList.map (·.born) = es.toList.map (·.born) := by
      constructor
      all_goals
        apply List.ext_getElem?
        intro i
        rw [List.getElem?_map, List.getElem?_map, Array.getElem?_toList, Array.getElem?_toList, Array.getElem?_modify]
        by_cases e1 : j = i
        · subst e1
          rw [if_pos rfl, hj]
          simp [h3]
        · rw [if_neg e1]
    have hdist : ∀ i x, i ≠ j → es[i]? = some x → x.key ≠ κ a := fun i x hij hi he => by
      have hn : (es.toList.map (·.key)).Nodup := h.1.2.2
      have hi2 : (es.toList.map (·.key))[i]? = some (κ a) := by rw [List.getElem?_map, Array.getElem?_toList, hi]; simp [he]
      have hj2 : (es.toList.map (·.key))[j]? = some (κ a) := by rw [List.getElem?_map, Array.getElem?_toList, hj]; simp [h3]
      have hil : i < (es.toList.map (·.key)).length := (List.getElem?_eq_some_iff.1 hi2).1
      have := (List.getElem?_inj hil hn).1 (hi2.trans hj2.symm)
      exact hij this
    refine ⟨es.modify j (fun e' => { e' with key := κ a, val := v }), clock, ?_, ?_, fun x hx => ?_⟩
    · simp [Instr.mapUpdate, run_underlying ht, MapKept.run_getObj_map hb, K.check w false hkey, h1, hj, h3, K.stays w hkey, MapKept.run_setObj_map _ hb, Result.andThen, ChangeMaps.setBlock]
    · have ha : a ∈ l := by
        obtain ⟨a', ha', hk⟩ := h.mem (List.mem_of_getElem? h2)
        rw [h3] at hk
        rwa [hκ _ _ hk]
      rw [if_pos ha]
      refine ⟨⟨fun x hx => ?_, by rw [hmk.2]; exact h.1.2.1, by rw [hmk.1]; exact h.1.2.2⟩, fun x hx => ?_, by rw [hmk.1]; exact h.2.2⟩
      · have : x.born ∈ (es.modify j (fun e' => { e' with key := κ a, val := v })).toList.map (·.born) := List.mem_map.2 ⟨x, hx, rfl⟩
        rw [hmk.2, List.mem_map] at this
        obtain ⟨y, hy, he⟩ := this
        rw [← he]; exact h.1.1 y hy
      · have : x.key ∈ (es.modify j (fun e' => { e' with key := κ a, val := v })).toList.map (·.key) := List.mem_map.2 ⟨x, hx, rfl⟩
        rw [hmk.1, List.mem_map] at this
        obtain ⟨y, hy, he⟩ := this
        rw [← he]; exact h.2.1 y hy
    · rcases modify_mem hj _ hx with rfl | ⟨i, hij, hi⟩
      · exact .inl ⟨rfl, rfl⟩
      · exact .inr ⟨by have := List.mem_of_getElem? (l := es.toList) (i := i) (a := x) (by simpa using hi); exact this, hdist i x hij hi⟩
/-- A range's iterator stands beside another map's turn. -/
theorem Rng.put {w : World} {b r b2 : Nat} {es es2 : Array MapEntry} {c c2 : Nat} {seen : Array Nat} (h : Rng w b r es c seen) (hm : w.heap[b2]? = some (.map es2 c2)) (hne : b2 ≠ b) (o : Obj) : Rng (ChangeMaps.setBlock w b2 o) b r es c seen := by
  have hr : b2 ≠ r := by
    rintro rfl
    obtain ⟨c0, h1, _⟩ := h.it
    rw [h1] at hm; cases hm
  refine h.kept ?_ ?_
  · show (w.heap.setIfInBounds _ _)[b]? = _
    rw [Array.getElem?_setIfInBounds_ne hne]
  · show (w.heap.setIfInBounds _ _)[r]? = _
    rw [Array.getElem?_setIfInBounds_ne hr]
theorem Rng.cell {w : World} {b r : Nat} {es : Array MapEntry} {c : Nat} {seen : Array Nat} (h : Rng w b r es c seen) {p : Addr} {v : Value} (hp : w.cell? p = some v) (u : Value) : Rng (w.setCell p u) b r es c seen := by
  have hne : ∀ k o, w.heap[k]? = some o → (∀ cs t q, o ≠ .cells cs t q) → k ≠ p.block := by
    rintro k o hk ho rfl
    unfold World.cell? at hp
    rw [hk] at hp
    cases o <;> first | (exact ho _ _ _ rfl) | (simp at hp)
  obtain ⟨c0, h1, h2⟩ := h.it
  refine h.kept ?_ ?_
  · exact Below.heap_setCell _ _ _ _ (hne b _ h.mp (fun _ _ _ e => by cases e))
  · exact Below.heap_setCell _ _ _ _ (hne r _ h1 (fun _ _ _ e => by cases e))
end Go.Proofs.YtfdgjbanajodfaaDoor
