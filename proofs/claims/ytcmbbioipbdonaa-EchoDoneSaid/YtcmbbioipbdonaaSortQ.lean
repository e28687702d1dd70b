/- slices.Sort at []int, for a slice of a family of the walk's own (needs the group's XShelf). -/
import Derived.Test.YtcmbbioipbdonaaLayQ
import Derived.Test.YtcmbbioipbdonaaShelf
set_option linter.unusedVariables false
set_option linter.unusedSimpArgs false
namespace Go.Proofs.Ytcmbbioipbdonaa
open Go.RowKit Go.Sort

theorem heap_sortQ {w : World} {g off n : Nat} {os : Array Obj} {cur : Array Value} {e : TypeId} {fr : Nat × Nat} (d : Array Int) (hb : w.heap[g]? = some (.cells cur e fr)) :
    (grow (putRow (Value.int .i64) (Sort.ahead w n) g off d) os).heap[g]? = some (.cells (putCells (Value.int .i64) off d cur) e fr) := by
  have hg : g < w.heap.size := (Array.getElem?_eq_some_iff.1 hb).1
  rw [heap_grow_old _ _ (by simpa using hg)]
  simp [putRow, mapBlock, Sort.ahead, Array.getElem?_modify, hb, onCells]
theorem grownBy_sortQ {w : World} {g off n : Nat} {os : Array Obj} (d : Array Int) : w.grownBy (grow (putRow (Value.int .i64) (Sort.ahead w n) g off d) os) (some g) := by
  refine ⟨rfl, rfl, rfl, by simp, fun k hk hne => ?_⟩
  rw [heap_grow_old _ _ (by simpa using hk)]
  have : g ≠ k := fun e => hne (by rw [e])
  simp [putRow, mapBlock, Sort.ahead, Array.getElem?_modify, this]
theorem take_putQ (cur : Array Value) (off : Nat) (ts : List Int) (h : off + ts.length ≤ cur.size) : ((putCells (Value.int .i64) off ts.toArray cur).toList.drop off).take ts.length = ts.map (Value.int .i64) := by
  apply List.ext_getElem?
  intro j
  by_cases hj : j < ts.length
  · rw [List.getElem?_take_of_lt hj, List.getElem?_drop, Array.getElem?_toList]
    simp [putCells, hj, show off + j < cur.size by omega]
  · rw [List.getElem?_take_eq_none (by omega), List.getElem?_eq_none (by simp; omega)]
theorem fput_self {α : Type} [DecidableEq α] (f : α → Value) (a : α) : fput f a (f a) = f := by
  funext b
  by_cases e : b = a
  · subst e; exact fput_same _ _ _
  · exact fput_ne e
/-- The ints of a list, sorted. -/
def sortI (l : List Int) : List Int := l.mergeSort fun x y => decide (x ≤ y)
theorem sort_own {α : Type} [DecidableEq α] {w0 w : World} {L : List LRow} {Q : List MRow} {e : α → TypeId} {f : α → Value} {q : α → List Value} (h : LayQ w0 w L Q e f q) (a : α) (zs : List Int) (hq : q a = zs.map (Value.int .i64)) (hz : zs.length < 4611686018427387904) :
    Calls Try.prog 13 #[f a] w fun u w' => u = .returned (.tuple #[]) ∧ LayQ w0 w' L Q e f (qput q a ((sortI zs).map (Value.int .i64))) := by
  rcases zs with _ | ⟨z, zs⟩
  · obtain ⟨A, cap, hf, -⟩ := h.len a
    rw [hq] at hf
    rw [hf]
    refine (Try.slices_Sort_int_none A cap w).mono ?_
    rintro u w' ⟨rfl, rfl⟩
    refine ⟨rfl, h.sameQ fun b => ?_⟩
    by_cases hb : b = a
    · subst hb; rw [qput_same, hq]; simp [sortI]
    · rw [qput_ne hb]
  · generalize hzs : z :: zs = ys at *
    rcases h.own a with ⟨h1, h2⟩ | ⟨g, off, cap, cur, h1, h2, h3, h4, h5, h6, h7⟩
    · rw [hq, ← hzs] at h2; cases h2
    · have hl : (q a).length = ys.length := by rw [hq, List.length_map]
      rw [h1, hl]
      have hH : Holds (Value.int .i64) w g off ys.toArray := by
        intro j hj
        have hj' : j < ys.length := by simpa using hj
        refine ⟨?_, by simp [World.frozen?, h3]⟩
        have h8 : ((cur.toList.drop off).take (q a).length)[j]? = (q a)[j]? := by rw [h7]
        rw [List.getElem?_take_of_lt (by omega), List.getElem?_drop, hq, Array.getElem?_toList] at h8
        simp only [World.cell?, h3]
        simp only [Option.isSome_none, Bool.false_eq_true, if_false]
        rw [h8]
        simp [hj']
      refine (Try.slices_Sort_int g off cap ys w hH (Array.getElem?_eq_some_iff.1 h3).1 hz).mono ?_
      rintro u w' ⟨rfl, n, os, rfl⟩
      refine ⟨rfl, ?_⟩
      have hls : (sortI ys).length = ys.length := List.length_mergeSort _
      have hown : QSl (grow (putRow (Value.int .i64) (Sort.ahead w n) g off (sortI ys).toArray) os) w0.heap.size (e a) (f a) ((sortI ys).map (Value.int .i64)) :=
        .inr ⟨g, off, cap, _, by rw [h1, hl, List.length_map, hls], h2, heap_sortQ _ h3, by rw [List.length_map]; omega, h5, by simpa [putCells] using h6, by rw [List.length_map]; exact take_putQ cur off _ (by omega)⟩
      have := h.push a (w' := grow (putRow (Value.int .i64) (Sort.ahead w n) g off (sortI ys).toArray) os) hown (by rw [h1]; exact grownBy_sortQ _) (.inl rfl)
      rw [fput_self] at this
      exact this
end Go.Proofs.Ytcmbbioipbdonaa
