/- slices.Sort at []int, for a row of a Lay (needs the group's XShelf). -/
import Derived.Test.YthonnpimfidkdaaLay
import Derived.Test.YthonnpimfidkdaaShelf
set_option linter.unusedVariables false
set_option linter.unusedSimpArgs false
namespace Go.Proofs.Ythonnpimfidkdaa
open Go.RowKit Go.Sort

theorem heap_sortL {w : World} {g n : Nat} {os : Array Obj} {cur : Array Value} {e : TypeId} {fr : Nat × Nat} (d : Array Int) (hb : w.heap[g]? = some (.cells cur e fr)) :
    (grow (putRow (Value.int .i64) (Sort.ahead w n) g 0 d) os).heap[g]? = some (.cells (putCells (Value.int .i64) 0 d cur) e fr) := by
  have hg : g < w.heap.size := (Array.getElem?_eq_some_iff.1 hb).1
  rw [heap_grow_old _ _ (by simpa using hg)]
  simp [putRow, mapBlock, Sort.ahead, Array.getElem?_modify, hb, onCells]
theorem grownBy_sortL {w : World} {g n : Nat} {os : Array Obj} (d : Array Int) : w.grownBy (grow (putRow (Value.int .i64) (Sort.ahead w n) g 0 d) os) (some g) := by
  refine ⟨rfl, rfl, rfl, by simp, fun k hk hne => ?_⟩
  rw [heap_grow_old _ _ (by simpa using hk)]
  have : g ≠ k := fun e => hne (by rw [e])
  simp [putRow, mapBlock, Sort.ahead, Array.getElem?_modify, this]
def sortI (l : List Int) : List Int := l.mergeSort fun x y => decide (x ≤ y)
theorem sortI_len (l : List Int) : (sortI l).length = l.length := List.length_mergeSort _
theorem sort_lay {w0 w : World} {L : List LRow} (h : Lay w0 w L) (k : Nat) {A : Option Addr} {cap : Nat} (zs : List Int) (hk : L[k]? = some ⟨A, 3, 1, zs.length, cap, fun j => .int .i64 (zs.getD j 0)⟩) (hz : zs.length < 4611686018427387904) :
    Calls Try.prog 21 #[.slice A zs.length cap] w fun u w' => u = .returned (.tuple #[]) ∧ Lay w0 w' (L.set k ⟨A, 3, 1, zs.length, cap, fun j => .int .i64 ((sortI zs).getD j 0)⟩) := by
  rcases h.own k _ hk with ⟨h1, h2, h3⟩ | ⟨g, cur, h1, h2, h3, h4, h5, h6, h7⟩
  · have h2 : zs.length = 0 := h2
    have h1 : A = none := h1
    have h3 : cap = 0 := h3
    subst h1 h3
    obtain rfl := List.eq_nil_of_length_eq_zero h2
    refine (Try.slices_Sort_int_none none 0 w).mono ?_
    rintro u w' ⟨rfl, rfl⟩
    refine ⟨rfl, ?_⟩
    have e : L.set k ⟨none, 3, 1, ([] : List Int).length, 0, fun j => .int .i64 ((sortI []).getD j 0)⟩ = L := by
      have : (⟨none, 3, 1, ([] : List Int).length, 0, fun j => .int .i64 ((sortI []).getD j 0)⟩ : LRow) = ⟨none, 3, 1, ([] : List Int).length, 0, fun j => .int .i64 (([] : List Int).getD j 0)⟩ := by simp [sortI]
      rw [this]
      apply List.ext_getElem?
      intro i
      rw [List.getElem?_set]
      split
      · rename_i e; subst e; split
        · exact hk.symm
        · rename_i hl; rw [List.getElem?_eq_none (by omega)] at hk; cases hk
      · rfl
    rw [e]; exact h
  · have h1 : A = some ⟨g, 0, none⟩ := h1
    subst h1
    have h7 : ∀ j, j < zs.length * 1 → cur[j]? = some (Value.int .i64 (zs.getD j 0)) := h7
    have h6 : cur.size = cap * 1 := h6
    have h4 : zs.length ≤ cap := h4
    have hH : Holds (Value.int .i64) w g 0 zs.toArray := by
      intro j hj
      have hj' : j < zs.length := by simpa using hj
      refine ⟨?_, by simp [World.frozen?, h3]⟩
      rw [Nat.zero_add, cell_of_row w g j cur _ (0, 0) h3, h7 j (by omega)]
      simp [hj']
    refine (Try.slices_Sort_int g 0 cap zs w hH (Array.getElem?_eq_some_iff.1 h3).1 hz).mono ?_
    rintro u w' ⟨rfl, n, os, rfl⟩
    refine ⟨rfl, ?_⟩
    refine h.app k hk (.inr ⟨g, _, rfl, h2, heap_sortL _ h3, h4, h5, by simp [putCells, h6], fun j hj => ?_⟩) (grownBy_sortL _) (.inl rfl)
    have hj : j < zs.length * 1 := hj
    have hl : (sortI zs).length = zs.length := sortI_len zs
    show (putCells (Value.int .i64) 0 (sortI zs).toArray cur)[j]? = some (.int .i64 ((sortI zs).getD j 0))
    have hjl : j < (sortI zs).length := by omega
    simp [putCells, show j < cur.size by omega, hjl]
end Go.Proofs.Ythonnpimfidkdaa
