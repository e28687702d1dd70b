/- slices.Sort at []string, for a row of a LayM (needs the group's XShelf). -/
import Derived.Test.YtfdgjbanajodfaaDoorLayM
import Derived.Test.YtfdgjbanajodfaaDoorTrMath
set_option linter.unusedVariables false
set_option linter.unusedSimpArgs false
namespace Go.Proofs.YtfdgjbanajodfaaDoor
open Go.RowKit Go.Sort

theorem heap_sortS {w : World} {g n : Nat} {os : Array Obj} {cur : Array Value} {e : TypeId} {fr : Nat × Nat} (d : Array (List UInt8)) (hb : w.heap[g]? = some (.cells cur e fr)) :
    (grow (putRow encStr (Sort.ahead w n) g 0 d) os).heap[g]? = some (.cells (putCells encStr 0 d cur) e fr) := by
  have hg : g < w.heap.size := (Array.getElem?_eq_some_iff.1 hb).1
  rw [heap_grow_old _ _ (by simpa using hg)]
  simp [putRow, mapBlock, Sort.ahead, Array.getElem?_modify, hb, onCells]
theorem grownBy_sortS {w : World} {g n : Nat} {os : Array Obj} (d : Array (List UInt8)) : w.grownBy (grow (putRow encStr (Sort.ahead w n) g 0 d) os) (some g) := by
  refine ⟨rfl, rfl, rfl, by simp, fun k hk hne => ?_⟩
  rw [heap_grow_old _ _ (by simpa using hk)]
  have : g ≠ k := fun e => hne (by rw [e])
  simp [putRow, mapBlock, Sort.ahead, Array.getElem?_modify, this]
def strF (l : List Str) (j : Nat) : Value := .string (bs (l.getD j []))
theorem sort_strs {w0 w : World} {L : List LRow} {Q : List MRow} (h : LayM w0 w L Q) (k : Nat) {A : Option Addr} {cap : Nat} (zs : List Str) (hk : L[k]? = some ⟨A, 9, 1, zs.length, cap, strF zs⟩) (hz : zs.length < 4611686018427387904) :
    Calls Tryd.prog 35 #[.slice A zs.length cap] w fun u w' => u = .returned (.tuple #[]) ∧ LayM w0 w' (L.set k ⟨A, 9, 1, zs.length, cap, strF (srtL zs)⟩) Q := by
  rcases h.lay.own k _ hk with ⟨h1, h2, h3⟩ | ⟨g, cur, h1, h2, h3, h4, h5, h6, h7⟩
  · have h2 : zs.length = 0 := h2
    have h1 : A = none := h1
    have h3 : cap = 0 := h3
    subst h1 h3
    obtain rfl := List.eq_nil_of_length_eq_zero h2
    refine (Tryd.slices_Sort_string_none none 0 w).mono ?_
    rintro u w' ⟨rfl, rfl⟩
    refine ⟨rfl, ?_⟩
    have e : L.set k ⟨none, 9, 1, ([] : List Str).length, 0, strF (srtL [])⟩ = L := by
      have : (⟨none, 9, 1, ([] : List Str).length, 0, strF (srtL [])⟩ : LRow) = ⟨none, 9, 1, ([] : List Str).length, 0, strF []⟩ := by simp [srtL]
      rw [this]
      apply List.ext_getElem?
      intro i
      rw [List.getElem?_set]
      split
      · rename_i e; subst e; split
        · exact hk.symm
        · rename_i hl; rw [List.getElem?_eq_none (by omega)] at hk; cases hk
      · rfl
    rw [e]; exact h
  · have h1 : A = some ⟨g, 0, none⟩ := h1
    subst h1
    have h7 : ∀ j, j < zs.length * 1 → cur[j]? = some (strF zs j) := h7
    have h6 : cur.size = cap * 1 := h6
    have h4 : zs.length ≤ cap := h4
    have hH : Holds encStr w g 0 zs.toArray := by
      intro j hj
      have hj' : j < zs.length := by simpa using hj
      refine ⟨?_, by simp [World.frozen?, h3]⟩
      rw [Nat.zero_add, cell_of_row w g j cur _ (0, 0) h3, h7 j (by omega)]
      simp [strF, hj', encStr, bs]
    refine (Tryd.slices_Sort_string g 0 cap zs w hH (Array.getElem?_eq_some_iff.1 h3).1 hz).mono ?_
    rintro u w' ⟨rfl, n, os, rfl⟩
    refine ⟨rfl, ?_⟩
    refine h.app k hk (.inr ⟨g, _, rfl, h2, heap_sortS _ h3, h4, h5, by simp [putCells, h6], fun j hj => ?_⟩) (grownBy_sortS _) (.inl rfl)
    have hj : j < zs.length * 1 := hj
    have hl : (srtL zs).length = zs.length := srt_len zs
    have hjl : j < (srtL zs).length := by omega
    show (putCells encStr 0 (srtL zs).toArray cur)[j]? = some (strF (srtL zs) j)
    simp [putCells, show j < cur.size by omega, hjl, strF, encStr, bs]
end Go.Proofs.YtfdgjbanajodfaaDoor
