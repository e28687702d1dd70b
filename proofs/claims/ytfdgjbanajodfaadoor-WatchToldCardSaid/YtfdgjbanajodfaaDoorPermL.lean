/- The rows of a layout in whatever order (List.Perm); a family of rows, one of them ahead. -/
import Derived.Test.YtfdgjbanajodfaaDoorLayM
set_option linter.unusedVariables false
set_option linter.unusedSimpArgs false
namespace Go.Proofs.YtfdgjbanajodfaaDoor
open Go.RowKit

theorem Lay.permL {w0 w : World} {L L' : List LRow} (h : Lay w0 w L) (hp : L.Perm L') : Lay w0 w L' := by
  have hs : ∀ {x y : LRow}, (ablock x.a = none ∨ ablock x.a ≠ ablock y.a) → (ablock y.a = none ∨ ablock y.a ≠ ablock x.a) := by
    intro x y h
    cases hy : ablock y.a with
    | none => exact .inl rfl
    | some b =>
      refine .inr fun e => ?_
      rw [hy] at h
      rcases h with h | h
      · rw [h] at e; cases e
      · exact h e.symm
  have h1 : L.Pairwise fun x y => ablock x.a = none ∨ ablock x.a ≠ ablock y.a := by
    rw [List.pairwise_iff_getElem]
    intro i j hi hj hij
    exact h.ap i j _ _ (by omega) (List.getElem?_eq_getElem hi) (List.getElem?_eq_getElem hj)
  have h2 : L'.Pairwise fun x y => ablock x.a = none ∨ ablock x.a ≠ ablock y.a := (hp.pairwise_iff hs).1 h1
  refine ⟨fun k r hk => ?_, fun i j r s hij hi hj => ?_, h.bel⟩
  · have hm : r ∈ L := hp.mem_iff.2 (List.mem_of_getElem? hk)
    obtain ⟨k', hk'⟩ := List.getElem?_of_mem hm
    exact h.own k' r hk'
  · rw [List.pairwise_iff_getElem] at h2
    obtain ⟨hi1, hi2⟩ := List.getElem?_eq_some_iff.1 hi
    obtain ⟨hj1, hj2⟩ := List.getElem?_eq_some_iff.1 hj
    rcases Nat.lt_or_ge i j with hlt | hge
    · have := h2 i j hi1 hj1 hlt
      rw [hi2, hj2] at this
      exact this
    · have := h2 j i hj1 hi1 (by omega)
      rw [hi2, hj2] at this
      exact hs this
theorem Lay.subL {w0 w : World} {L L' : List LRow} (h : Lay w0 w L) (hp : L'.Sublist L) : Lay w0 w L' := by
  have h1 : L.Pairwise fun x y => ablock x.a = none ∨ ablock x.a ≠ ablock y.a := by
    rw [List.pairwise_iff_getElem]
    intro i j hi hj hij
    exact h.ap i j _ _ (by omega) (List.getElem?_eq_getElem hi) (List.getElem?_eq_getElem hj)
  have h2 := h1.sublist hp
  have hs : ∀ {x y : LRow}, (ablock x.a = none ∨ ablock x.a ≠ ablock y.a) → (ablock y.a = none ∨ ablock y.a ≠ ablock x.a) := by
    intro x y h
    cases hy : ablock y.a with
    | none => exact .inl rfl
    | some b =>
      refine .inr fun e => ?_
      rw [hy] at h
      rcases h with h | h
      · rw [h] at e; cases e
      · exact h e.symm
  refine ⟨fun k r hk => ?_, fun i j r s hij hi hj => ?_, h.bel⟩
  · obtain ⟨k', hk'⟩ := List.getElem?_of_mem (hp.subset (List.mem_of_getElem? hk))
    exact h.own k' r hk'
  · rw [List.pairwise_iff_getElem] at h2
    obtain ⟨hi1, hi2⟩ := List.getElem?_eq_some_iff.1 hi
    obtain ⟨hj1, hj2⟩ := List.getElem?_eq_some_iff.1 hj
    rcases Nat.lt_or_ge i j with hlt | hge
    · have := h2 i j hi1 hj1 hlt
      rw [hi2, hj2] at this
      exact this
    · have := h2 j i hj1 hi1 (by omega)
      rw [hi2, hj2] at this
      exact hs this
theorem LayM.permL {w0 w : World} {L L' : List LRow} {Q : List MRow} (h : LayM w0 w L Q) (hp : L.Perm L') : LayM w0 w L' Q := h.step (h.lay.permL hp) (.refl _)
theorem LayM.permQ {w0 w : World} {L : List LRow} {Q Q' : List MRow} (h : LayM w0 w L Q) (hp : Q.Perm Q') : LayM w0 w L Q' := by
  have h1 : Q.Pairwise fun x y => x.b ≠ y.b := by
    rw [List.pairwise_iff_getElem]
    intro i j hi hj hij
    exact h.ap i j _ _ (by omega) (List.getElem?_eq_getElem hi) (List.getElem?_eq_getElem hj)
  have h2 : Q'.Pairwise fun x y => x.b ≠ y.b := (hp.pairwise_iff (fun {x y} h e => h e.symm)).1 h1
  refine ⟨h.lay, fun k r hk => ?_, fun i j r s hij hi hj => ?_⟩
  · have hm : r ∈ Q := hp.mem_iff.2 (List.mem_of_getElem? hk)
    obtain ⟨k', hk'⟩ := List.getElem?_of_mem hm
    exact h.map k' r hk'
  · rw [List.pairwise_iff_getElem] at h2
    obtain ⟨hi1, hi2⟩ := List.getElem?_eq_some_iff.1 hi
    obtain ⟨hj1, hj2⟩ := List.getElem?_eq_some_iff.1 hj
    rcases Nat.lt_or_ge i j with hlt | hge
    · have := h2 i j hi1 hj1 hlt
      rw [hi2, hj2] at this
      exact this
    · have := h2 j i hj1 hi1 (by omega)
      rw [hi2, hj2] at this
      exact fun e => this e.symm
/-- One of a family ahead of the others. -/
theorem fam_perm {α : Type} (f : Nat → α) {n s : Nat} (hs : s < n) : ((List.range n).map f).Perm (f s :: ((List.range n).erase s).map f) :=
  (List.perm_cons_erase (List.mem_range.2 hs)).map f
theorem fam_rest {α : Type} {f f' : Nat → α} {n s : Nat} (h : ∀ i, i ≠ s → f' i = f i) : ((List.range n).erase s).map f' = ((List.range n).erase s).map f := by
  apply List.map_congr_left
  intro i hi
  refine h i fun e => ?_
  subst e
  exact (List.Nodup.not_mem_erase List.nodup_range) hi
end Go.Proofs.YtfdgjbanajodfaaDoor
