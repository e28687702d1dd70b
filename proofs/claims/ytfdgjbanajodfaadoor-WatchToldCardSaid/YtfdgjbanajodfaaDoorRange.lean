/- Ranging over a map of the walk's own; a map told by the list of its keys. -/
import Derived.Test.YtfdgjbanajodfaaDoorLayM
import Derived.Test.YtfdgjbanajodfaaDoorEMap
import Derived.Maps.RangeWalk
set_option linter.unusedVariables false
set_option linter.unusedSimpArgs false
namespace Go.Proofs.YtfdgjbanajodfaaDoor
open Go.RowKit Go.Maps Go.MapKept

/-- Block b is a map, block r an iterator over it that has seen some. -/
structure Rng (w : World) (b r : Nat) (es : Array MapEntry) (clock : Nat) (seen : Array Nat) : Prop where
  mp : w.heap[b]? = some (.map es clock)
  it : ∃ c0, w.heap[r]? = some (.mapIter (some b) clock seen c0) ∧ clock ≤ c0
section
variable {P : Program} {w w' : World} {b r : Nat} {es : Array MapEntry} {clock : Nat} {seen : Array Nat}
theorem Rng.kept (h : Rng w b r es clock seen) (hb : w'.heap[b]? = w.heap[b]?) (hr : w'.heap[r]? = w.heap[r]?) : Rng w' b r es clock seen := ⟨hb.trans h.mp, by rw [hr]; exact h.it⟩
theorem Rng.lt (h : Rng w b r es clock seen) : r < w.heap.size ∧ b < w.heap.size := by
  obtain ⟨c0, h1, _⟩ := h.it
  exact ⟨(Array.getElem?_eq_some_iff.1 h1).1, (Array.getElem?_eq_some_iff.1 h.mp).1⟩
theorem Rng.alloc (h : Rng w b r es clock seen) (o : Obj) : Rng (w.alloc o) b r es clock seen := h.kept (Below.heap_alloc _ _ _ h.lt.2) (Below.heap_alloc _ _ _ h.lt.1)
theorem Rng.below (h : Rng w b r es clock seen) (hb : Below w.heap.size w w') : Rng w' b r es clock seen := h.kept (hb.block b h.lt.2) (hb.block r h.lt.1)
theorem Rng.sim (h : Rng w b r es clock seen) (hs : Sim w w') : Rng w' b r es clock seen := h.kept (by rw [hs.1]) (by rw [hs.1])
theorem Rng.ne (h : Rng w b r es clock seen) : r ≠ b := by
  rintro rfl
  obtain ⟨c0, h1, _⟩ := h.it
  have := h.mp
  rw [h1] at this
  cases this
theorem Rng.left_eq (h : Rng w b r es clock seen) : w.rangeLeft b r = (leftOf es seen).size := by
  obtain ⟨c0, h1, _⟩ := h.it
  unfold World.rangeLeft
  rw [h.mp, h1]
/-- 'range'. -/
theorem Rng.start {t k e : TypeId} (ht : P.underlying t = some (.map k e)) (hb : w.heap[b]? = some (.map es clock)) :
    (Instr.range t (.map (some b))).run P w = .ok (.pointer (some ⟨w.heap.size, 0, none⟩)) (w.alloc (.mapIter (some b) clock #[] clock)) ∧ Rng (w.alloc (.mapIter (some b) clock #[] clock)) b w.heap.size es clock #[] := by
  refine ⟨run_range_map w t k e b es clock ht hb, ?_, clock, ?_, Nat.le_refl _⟩
  · exact (Below.heap_alloc _ _ _ (Array.getElem?_eq_some_iff.1 hb).1).trans hb
  · exact heap_alloc_new w _
/-- 'next'. -/
theorem Rng.next (h : Rng w b r es clock seen) (st : Stamped es clock) (ty : TypeId) :
    ((leftOf es seen).size = 0 ∧ (Instr.next (.pointer (some ⟨r, 0, none⟩)) false ty).run P w = .ok (.tuple #[.bool false]) w) ∨
    ∃ e w2, e ∈ es.toList ∧ seen.contains e.born = false ∧ (Instr.next (.pointer (some ⟨r, 0, none⟩)) false ty).run P w = .ok (.tuple #[.bool true, e.key, e.val]) w2 ∧ Rng w2 b r es clock (seen.push e.born) ∧
      (leftOf es (seen.push e.born)).size < (leftOf es seen).size ∧ w.grownBy w2 (some r) ∧ w2.heap.size = w.heap.size ∧ (Instr.entry (.pointer (some ⟨r, 0, none⟩))).run P w2 = .ok (.tuple #[e.key, e.val]) w2 := by
  obtain ⟨c0, hr, hc0⟩ := h.it
  have hne := h.ne
  rcases run_next_at (P := P) w ty r b clock c0 seen es clock hr h.mp st.1 hc0 with ⟨h0, hrun⟩ | ⟨e, he, w1, hal, hrun⟩
  · exact .inl ⟨h0, hrun⟩
  · obtain ⟨hem, hes⟩ := mem_left he
    have hr1 : w1.heap[r]? = some (.mapIter (some b) clock seen c0) := by rcases hal with rfl | rfl <;> exact hr
    have hb1 : w1.heap[b]? = some (.map es clock) := by rcases hal with rfl | rfl <;> exact h.mp
    have hset := Go.MapKept.heap_set (o' := .mapIter (some b) clock (seen.push e.born) clock) hr1
    have hb' : (ChangeMaps.setBlock w1 r (.mapIter (some b) clock (seen.push e.born) clock)).heap[b]? = some (.map es clock) := (hset.2 b (fun e1 => hne e1.symm)).trans hb1
    refine .inr ⟨e, _, hem, hes, hrun, ⟨hb', clock, hset.1, Nat.le_refl _⟩, left_shrinks es seen e he, ?_, ?_, run_entry_at _ r b clock seen es clock e hset.1 hb' hem st.2.1⟩
    · rcases hal with rfl | rfl <;> exact ⟨rfl, rfl, rfl, by simp [ChangeMaps.setBlock], fun i _ hi => hset.2 i (fun e1 => hi (by rw [e1]))⟩
    · rcases hal with rfl | rfl <;> simp [ChangeMaps.setBlock]
/-- The iterator has turned: all rows and maps stand. -/
theorem LayM.turned {w0 : World} {L : List LRow} {Q : List MRow} (h : LayM w0 w L Q) (hg : w.grownBy w' (some r)) (hr : Rng w b r es clock seen) (hr0 : w0.heap.size ≤ r) : LayM w0 w' L Q := by
  obtain ⟨c0, h1, _⟩ := hr.it
  have hrow : ∀ (k : Nat) (x : LRow), L[k]? = some x → ∀ g, ablock x.a = some g → g ≠ r := by
    intro k x hk g hgg e
    subst e
    rcases h.lay.own k x hk with ⟨ha, _⟩ | ⟨g', cur, ha, _, hgc, _⟩
    · rw [ha] at hgg; cases hgg
    · rw [ha] at hgg
      have : g' = g := by simpa [ablock] using hgg
      rw [this, h1] at hgc
      cases hgc
  refine h.step ⟨fun k x hk => (h.lay.own k x hk).same fun g hgg => ?_, h.lay.ap, h.lay.bel.grown hg h.size (fun k hk => by cases hk; exact hr0)⟩ fun k es' c' hk => ?_
  · exact hg.block g ((h.lay.lt hk g hgg).2) (fun e => hrow k x hk g hgg (by injection e))
  · refine (hg.block k (Array.getElem?_eq_some_iff.1 hk).1 (fun e => ?_)).trans hk
    injection e with e
    subst e
    rw [h1] at hk
    cases hk
/-- Has the iterator seen a? -/
def SeenK {α : Type} (κ : α → Value) (es : Array MapEntry) (seen : Array Nat) (a : α) : Prop := ∃ x, x ∈ es.toList ∧ x.key = κ a ∧ seen.contains x.born = true
theorem seenK_none {α : Type} (κ : α → Value) (es : Array MapEntry) (a : α) : ¬ SeenK κ es #[] a := fun ⟨x, _, _, h⟩ => by simp at h
theorem seenK_push {α : Type} {κ : α → Value} (hκ : ∀ a b, κ a = κ b → a = b) (st : Stamped es clock) {e : MapEntry} (he : e ∈ es.toList) {a : α} (ha : e.key = κ a) (a' : α) : SeenK κ es (seen.push e.born) a' ↔ SeenK κ es seen a' ∨ a' = a := by
  constructor
  · rintro ⟨x, hx, hk, hs⟩
    rw [contains_push, Bool.or_eq_true, beq_iff_eq] at hs
    rcases hs with hs | hs
    · exact .inl ⟨x, hx, hk, hs⟩
    · have := born_inj st.2.1 hx he hs
      subst this
      exact .inr (hκ _ _ (hk.symm.trans ha))
  · rintro (⟨x, hx, hk, hs⟩ | rfl)
    · exact ⟨x, hx, hk, by rw [contains_push, hs]; rfl⟩
    · exact ⟨e, he, ha, by rw [contains_push]; simp⟩
theorem seenK_all {α : Type} {κ : α → Value} (h : (leftOf es seen).size = 0) {a : α} (ha : ∃ x, x ∈ es.toList ∧ x.key = κ a) : SeenK κ es seen a := by
  obtain ⟨x, hx, hk⟩ := ha
  exact ⟨x, hx, hk, all_seen es seen h x hx⟩
end
section
variable {P : Program} {w : World} {ops : Array Oper} {rest : List Oper} {o : Oper} {a : Act} {Q : Exit → Act → World → Prop} {b r : Nat} {es : Array MapEntry} {clock : Nat} {seen : Array Nat}
theorem wpList_rangeE (hg : o.guard = none) (m : Operand) (t : TypeId) (hop : o.op = Op.range t m) {k e : TypeId} (ht : P.underlying t = some (.map k e)) (hm : a.eval m = .map (some b)) (hb : w.heap[b]? = some (.map es clock))
    (hK : ∀ w', w' = w.alloc (.mapIter (some b) clock #[] clock) → Rng w' b w.heap.size es clock #[] → wpList P ops Q rest (a.put o.dst (.pointer (some ⟨w.heap.size, 0, none⟩))) w') : wpList P ops Q (o :: rest) a w := by
  refine wpList_plain hg fun K' hK' => ?_
  obtain ⟨hrun, h1⟩ := Rng.start (P := P) (k := k) (e := e) ht hb
  unfold Oper.wp
  simp [execOp, hop, hm, hrun, Result.andThen]
  exact hK' _ _ (hK _ rfl h1)
theorem wpList_nextE (hg : o.guard = none) (it : Operand) (hop : o.op = Op.next it false) (hit : a.eval it = .pointer (some ⟨r, 0, none⟩)) (h : Rng w b r es clock seen) (st : Stamped es clock)
    (hDone : (leftOf es seen).size = 0 → wpList P ops Q rest (a.put o.dst (.tuple #[.bool false])) w)
    (hMore : ∀ e w2, e ∈ es.toList → seen.contains e.born = false → Rng w2 b r es clock (seen.push e.born) → (leftOf es (seen.push e.born)).size < (leftOf es seen).size → w.grownBy w2 (some r) → w2.heap.size = w.heap.size →
      (Instr.entry (.pointer (some ⟨r, 0, none⟩))).run P w2 = .ok (.tuple #[e.key, e.val]) w2 → wpList P ops Q rest (a.put o.dst (.tuple #[.bool true, e.key, e.val])) w2) : wpList P ops Q (o :: rest) a w := by
  refine wpList_plain hg fun K' hK' => ?_
  unfold Oper.wp
  rcases h.next (P := P) st o.type with ⟨h0, hrun⟩ | ⟨e, w2, h1, h2, hrun, h3, h4, h5, h6, h7⟩
  · simp [execOp, hop, hit, hrun, Result.andThen]
    exact hK' _ _ (hDone h0)
  · simp [execOp, hop, hit, hrun, Result.andThen]
    exact hK' _ _ (hMore e w2 h1 h2 h3 h4 h5 h6 h7)
end
/-- A map told by the list of its keys. -/
def KeyL {α : Type} (P : Program) (k : TypeId) (κ : α → Value) (l : List α) (es : Array MapEntry) (clock : Nat) : Prop :=
  Stamped es clock ∧ (∀ x, x ∈ es.toList → ∃ kl, keyOf P k x.key = some kl) ∧ es.toList.map (·.key) = l.map κ
section
variable {α : Type} {P : Program} {k t e : TypeId} {κ : α → Value} {l : List α} {es : Array MapEntry} {clock : Nat} {w : World} {b : Nat}
theorem KeyL.empty (P : Program) (k : TypeId) (κ : α → Value) : KeyL P k κ [] #[] 0 := ⟨stamped_empty 0, fun x hx => by simp at hx, rfl⟩
theorem KeyL.len (h : KeyL P k κ l es clock) : es.size = l.length := by
  have := congrArg List.length h.2.2
  simpa using this
theorem KeyL.nodup (h : KeyL P k κ l es clock) : l.Nodup := by
  have h1 := h.1.2.2
  have e : (es.toList.map (·.key)) = l.map κ := h.2.2
  rw [e] at h1
  rw [List.Nodup, List.pairwise_map] at h1
  exact h1.imp fun hne e => hne (by rw [e])
theorem KeyL.mem (h : KeyL P k κ l es clock) {x : MapEntry} (hx : x ∈ es.toList) : ∃ a, a ∈ l ∧ x.key = κ a := by
  have : x.key ∈ es.toList.map (·.key) := List.mem_map.2 ⟨x, hx, rfl⟩
  rw [h.2.2, List.mem_map] at this
  obtain ⟨a, ha, he⟩ := this
  exact ⟨a, ha, he.symm⟩
theorem KeyL.has (h : KeyL P k κ l es clock) {a : α} (ha : a ∈ l) : ∃ x, x ∈ es.toList ∧ x.key = κ a := by
  have : κ a ∈ l.map κ := List.mem_map.2 ⟨a, ha, rfl⟩
  rw [← h.2.2, List.mem_map] at this
  exact this
theorem KeyL.put [DecidableEq α] (h : KeyL P k κ l es clock) (hb : w.heap[b]? = some (.map es clock)) (K : Keyed P k) (ht : P.underlying t = some (.map k e)) (hκ : ∀ a b, κ a = κ b → a = b) (a : α) {kl : Lit} (hkey : keyOf P k (κ a) = some kl) (v : Value) :
    ∃ es' clock', (Instr.mapUpdate t (.map (some b)) (κ a) v).run P w = .ok () (ChangeMaps.setBlock w b (.map es' clock')) ∧ KeyL P k κ (if a ∈ l then l else l ++ [a]) es' clock' := by
  rcases K.find w hkey es.toList h.2.1 with ⟨h1, h2⟩ | ⟨j, e0, h1, h2, h3⟩
  · refine ⟨es.push ⟨κ a, v, clock⟩, clock + 1, ?_, ?_⟩
    · simp [Instr.mapUpdate, run_underlying ht, MapKept.run_getObj_map hb, K.check w false hkey, h1, MapKept.run_setObj_map _ hb, Result.andThen, ChangeMaps.setBlock]
    · have hno : a ∉ l := fun ha => by
        obtain ⟨x, hx, hk⟩ := h.has ha
        exact h2 x hx hk
      rw [if_neg hno]
      refine ⟨stamped_push h.1 h2, fun x hx => ?_, ?_⟩
      · rcases (by simpa using hx : x ∈ es ∨ x = ⟨κ a, v, clock⟩) with hx | rfl
        · exact h.2.1 x (by simpa using hx)
        · exact ⟨kl, hkey⟩
      · rw [Array.toList_push, List.map_append, h.2.2, List.map_append]
        rfl
  · have hj : es[j]? = some e0 := by simpa using h2
    have hmk : (es.modify j (fun e' => { e' with key := κ a, val := v })).toList.map (·.key) = es.toList.map (·.key) ∧ (es.modify j (fun e' => { e' with key := κ a, val := v })).toList.map (·.born) = es.toList.map (·.born) := by
      constructor
      all_goals
        apply List.ext_getElem?
        intro i
        rw [List.getElem?_map, List.getElem?_map, Array.getElem?_toList, Array.getElem?_toList, Array.getElem?_modify]
        by_cases e1 : j = i
        · subst e1
          rw [if_pos rfl, hj]
          simp [h3]
        · rw [if_neg e1]
    refine ⟨es.modify j (fun e' => { e' with key := κ a, val := v }), clock, ?_, ?_⟩
    · simp [Instr.mapUpdate, run_underlying ht, MapKept.run_getObj_map hb, K.check w false hkey, h1, hj, h3, K.stays w hkey, MapKept.run_setObj_map _ hb, Result.andThen, ChangeMaps.setBlock]
    · have ha : a ∈ l := by
        obtain ⟨a', ha', hk⟩ := h.mem (List.mem_of_getElem? h2)
        rw [h3] at hk
        rwa [hκ _ _ hk]
      rw [if_pos ha]
      refine ⟨⟨fun x hx => ?_, by rw [hmk.2]; exact h.1.2.1, by rw [hmk.1]; exact h.1.2.2⟩, fun x hx => ?_, by rw [hmk.1]; exact h.2.2⟩
      · have : x.born ∈ (es.modify j (fun e' => { e' with key := κ a, val := v })).toList.map (·.born) := List.mem_map.2 ⟨x, hx, rfl⟩
        rw [hmk.2, List.mem_map] at this
        obtain ⟨y, hy, he⟩ := this
        rw [← he]; exact h.1.1 y hy
      · have : x.key ∈ (es.modify j (fun e' => { e' with key := κ a, val := v })).toList.map (·.key) := List.mem_map.2 ⟨x, hx, rfl⟩
        rw [hmk.1, List.mem_map] at this
        obtain ⟨y, hy, he⟩ := this
        rw [← he]; exact h.2.1 y hy
end
end Go.Proofs.YtfdgjbanajodfaaDoor
