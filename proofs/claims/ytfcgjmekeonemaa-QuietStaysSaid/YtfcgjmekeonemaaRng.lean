/- 'for .. := range m' over a map that the round leaves alone, whatever else it writes. -/
import Derived.Test.YtfcgjmekeonemaaLayM
import Derived.Maps.RangeRun
set_option linter.unusedVariables false
set_option linter.unusedSimpArgs false
namespace Go.Proofs.Ytfcgjmekeonemaa
open Go.RowKit Go.Maps Go.MapKept

/-- The map's block, and the iterator's. -/
def ItS (w : World) (bm r : Nat) (es : Array MapEntry) (c : Nat) (seen : Array Nat) : Prop := w.heap[bm]? = some (.map es c) ∧ ∃ c0, c ≤ c0 ∧ w.heap[r]? = some (.mapIter (some bm) c seen c0)
section
variable {w0 w w' : World} {bm r c : Nat} {es : Array MapEntry} {seen : Array Nat} {L : List LRow}
theorem ItS.start (hb : w.heap[bm]? = some (.map es c)) : ItS (w.alloc (.mapIter (some bm) c #[] c)) bm w.heap.size es c #[] :=
  ⟨(heap_alloc_old w _ (Array.getElem?_eq_some_iff.1 hb).1).trans hb, c, Nat.le_refl _, heap_alloc_new w _⟩
theorem ItS.setCell (h : ItS w bm r es c seen) (p : Addr) (u : Value) : ItS (w.setCell p u) bm r es c seen := by
  obtain ⟨h1, c0, h2, h3⟩ := h
  have key : ∀ (b : Nat) (o : Obj), w.heap[b]? = some o → (∀ cs ty fr, o ≠ .cells cs ty fr) → (w.setCell p u).heap[b]? = some o := by
    intro b o hb ho
    by_cases e : b = p.block
    · subst e
      cases o with
      | cells cs ty fr => exact absurd rfl (ho cs ty fr)
      | _ => simp [World.setCell, Array.getElem?_modify, hb]
    · rw [Below.heap_setCell _ _ _ _ e]; exact hb
  exact ⟨key _ _ h1 (fun _ _ _ e => by cases e), c0, h2, key _ _ h3 (fun _ _ _ e => by cases e)⟩
theorem ItS.sim (h : ItS w bm r es c seen) (e : Sim w w') : ItS w' bm r es c seen := by
  obtain ⟨h1, c0, h2, h3⟩ := h
  exact ⟨by rw [e.1]; exact h1, c0, h2, by rw [e.1]; exact h3⟩
theorem lay_setIter {a : Option Nat} {s : Nat} {sn : Array Nat} {c0 : Nat} (h : Lay w0 w L) (hr : w.heap[r]? = some (.mapIter a s sn c0)) (h0 : w0.heap.size ≤ r) (o : Obj) : Lay w0 (ChangeMaps.setBlock w r o) L := by
  have hat : ∀ k, k ≠ r → (ChangeMaps.setBlock w r o).heap[k]? = w.heap[k]? := by
    intro k hk
    show (w.heap.setIfInBounds _ _)[k]? = _
    rw [Array.getElem?_setIfInBounds_ne (fun e => hk e.symm)]
  refine ⟨fun k x hk => (h.own k x hk).same fun g hg => hat g fun e => ?_, h.ap, ?_⟩
  · subst e
    rcases h.own k x hk with ⟨ha, _⟩ | ⟨g', cur, ha, _, hgc, _⟩
    · rw [ha] at hg; cases hg
    · rw [ha] at hg
      have : g' = g := by simpa [ablock] using hg
      rw [this, hr] at hgc
      cases hgc
  · exact h.bel.trans ⟨rfl, rfl, rfl, by simp [ChangeMaps.setBlock], fun k hk => hat k (by omega)⟩
/-- The step. -/
theorem ItS.next {P : Program} (h : ItS w bm r es c seen) (hs : Stamped es c) (ty : TypeId) :
    ((leftOf es seen).size = 0 ∧ (Instr.next (.pointer (some ⟨r, 0, none⟩)) false ty).run P w = .ok (.tuple #[.bool false]) w) ∨
    ∃ e ∈ (leftOf es seen).toList, ∃ w2 : World, (Instr.next (.pointer (some ⟨r, 0, none⟩)) false ty).run P w = .ok (.tuple #[.bool true, e.key, e.val]) w2 ∧ ItS w2 bm r es c (seen.push e.born) ∧
      (Instr.entry (.pointer (some ⟨r, 0, none⟩))).run P w2 = .ok (.tuple #[e.key, e.val]) w2 ∧ ∀ (w0 : World) (L : List LRow), w0.heap.size ≤ r → Lay w0 w L → Lay w0 w2 L := by
  obtain ⟨h1, c0, h2, h3⟩ := h
  obtain ⟨s1, s2, s3⟩ := (stamped_iff es c).1 hs
  rcases run_next_at (P := P) w ty r bm c c0 seen es c h3 h1 s1 h2 with ⟨a, b⟩ | ⟨e, he, w1, hw1, hrun⟩
  · exact .inl ⟨a, b⟩
  · have hne : r ≠ bm := fun e => by rw [e, h1] at h3; cases h3
    have hlt : r < w1.heap.size := by rcases hw1 with rfl | rfl <;> exact (Array.getElem?_eq_some_iff.1 h3).1
    have h1' : w1.heap[bm]? = some (.map es c) := by rcases hw1 with rfl | rfl <;> exact h1
    have h3' : w1.heap[r]? = some (.mapIter (some bm) c seen c0) := by rcases hw1 with rfl | rfl <;> exact h3
    have ha : (ChangeMaps.setBlock w1 r (.mapIter (some bm) c (seen.push e.born) c)).heap[bm]? = some (.map es c) := by
      show (w1.heap.setIfInBounds _ _)[bm]? = _
      rw [Array.getElem?_setIfInBounds_ne hne]; exact h1'
    have hb : (ChangeMaps.setBlock w1 r (.mapIter (some bm) c (seen.push e.born) c)).heap[r]? = some (.mapIter (some bm) c (seen.push e.born) c) := by
      simp [ChangeMaps.setBlock, hlt]
    refine .inr ⟨e, he, _, hrun, ⟨ha, c, Nat.le_refl _, hb⟩, run_entry_at _ r bm c seen es c e hb ha (mem_left he).1 s2, fun w0 L h0 hL => ?_⟩
    refine lay_setIter ?_ h3' h0 _
    rcases hw1 with rfl | rfl
    · exact hL
    · exact hL.drew
end
/-- What has been handed out, summed: within bounds. -/
theorem seenSum_in {B : Nat} (seen : Array Nat) : ∀ (es : List MapEntry), (∀ x ∈ es, 0 ≤ valOf x.val ∧ valOf x.val ≤ B) → 0 ≤ seenSum es seen ∧ seenSum es seen ≤ B * es.length
  | [], _ => by simp [seenSum]
  | x :: es, h => by
    have ih := seenSum_in seen es fun y hy => h y (List.mem_cons_of_mem _ hy)
    have hx := h x (List.mem_cons_self ..)
    have e : (B : Int) * ((x :: es).length : Nat) = B * (es.length : Nat) + B := by rw [List.length_cons]; simp [Int.mul_add]
    rw [e]
    simp only [seenSum]
    split <;> omega
theorem sum_zero_iff : ∀ (l : List Int), (∀ x ∈ l, 0 ≤ x) → 0 ≤ l.sum ∧ (l.sum = 0 ↔ ∀ x ∈ l, x = 0)
  | [], _ => by simp
  | x :: l, h => by
    have ih := sum_zero_iff l fun y hy => h y (List.mem_cons_of_mem _ hy)
    have hx := h x (List.mem_cons_self ..)
    rw [List.sum_cons]
    refine ⟨by omega, fun h0 y hy => ?_, fun h0 => ?_⟩
    · rcases List.mem_cons.1 hy with rfl | hy
      · omega
      · exact ih.2.1 (by omega) y hy
    · have h1 := h0 x (List.mem_cons_self ..)
      have h2 := ih.2.2 fun y hy => h0 y (List.mem_cons_of_mem _ hy)
      omega
end Go.Proofs.Ytfcgjmekeonemaa
