/- A layout with maps: the walk's own rows, and its own maps. -/
import Derived.Test.YtfdgjbanajodfaaDoorEMap
set_option linter.unusedVariables false
set_option linter.unusedSimpArgs false
namespace Go.Proofs.YtfdgjbanajodfaaDoor
open Go.RowKit Go.Maps Go.MapKept

/-- A map of the walk's own: its block, what its entries are. -/
structure MRow where
  b : Nat
  φ : Array MapEntry → Nat → Prop
structure LayM (w0 w : World) (L : List LRow) (Q : List MRow) : Prop where
  lay : Lay w0 w L
  map : ∀ (i : Nat) (q : MRow), Q[i]? = some q → w0.heap.size ≤ q.b ∧ ∃ es c, w.heap[q.b]? = some (.map es c) ∧ q.φ es c
  ap : ∀ (i j : Nat) (q r : MRow), i ≠ j → Q[i]? = some q → Q[j]? = some r → q.b ≠ r.b
/-- All maps stay as they are. -/
def MapsKept (w w' : World) : Prop := ∀ (b : Nat) (es : Array MapEntry) (c : Nat), w.heap[b]? = some (.map es c) → w'.heap[b]? = some (.map es c)
section
variable {w0 w w' w2 : World} {L L' : List LRow} {Q : List MRow}
theorem MapsKept.refl (w : World) : MapsKept w w := fun _ _ _ h => h
theorem MapsKept.trans (h : MapsKept w w') (h' : MapsKept w' w2) : MapsKept w w2 := fun b es c hb => h' b es c (h b es c hb)
theorem MapsKept.below (h : Below w.heap.size w w') : MapsKept w w' := fun b _ _ hb => (h.block b (Array.getElem?_eq_some_iff.1 hb).1).trans hb
theorem MapsKept.alloc (w : World) (o : Obj) : MapsKept w (w.alloc o) := .below ((Below.refl _ _).alloc (Nat.le_refl _) o)
theorem MapsKept.sim (h : Sim w w') : MapsKept w w' := fun b es c hb => by rw [h.1]; exact hb
theorem MapsKept.setCell (w : World) (p : Addr) (u : Value) : MapsKept w (w.setCell p u) := fun b es c hb => by
  by_cases e : b = p.block
  · subst e; simp [World.setCell, Array.getElem?_modify, hb]
  · rw [Below.heap_setCell _ _ _ _ e]; exact hb
theorem MapsKept.grown {base : Nat} {e : TypeId} {size : Nat} {A : Option Addr} {n cap : Nat} {f : Nat → Value} (ho : Own w base e size A n cap f) (hg : w.grownBy w' (ablock A)) : MapsKept w w' := fun b es c hb => by
  refine (hg.block b (Array.getElem?_eq_some_iff.1 hb).1 fun he => ?_).trans hb
  rcases ho with ⟨rfl, _⟩ | ⟨g, cur, rfl, _, hgc, _⟩
  · cases he
  · have : b = g := by simpa [ablock] using he
    subst this
    rw [hgc] at hb
    cases hb
theorem LayM.step (h : LayM w0 w L Q) (h' : Lay w0 w' L') (hk : MapsKept w w') : LayM w0 w' L' Q :=
  ⟨h', fun i q hi => by obtain ⟨h1, es, c, h2, h3⟩ := h.map i q hi; exact ⟨h1, es, c, hk _ _ _ h2, h3⟩, h.ap⟩
theorem LayM.alloc (h : LayM w0 w L Q) (o : Obj) : LayM w0 (w.alloc o) L Q := h.step (h.lay.alloc o) (.alloc w o)
theorem LayM.sim (h : LayM w0 w L Q) (e : Sim w w') : LayM w0 w' L Q := h.step (h.lay.sim e) (.sim e)
theorem LayM.drew (h : LayM w0 w L Q) : LayM w0 w.drew L Q := h.sim ⟨rfl, rfl, rfl, rfl⟩
theorem LayM.keep (h : LayM w0 w L Q) (hb : Below w.heap.size w w') : LayM w0 w' L Q := h.step (h.lay.keep hb) (.below hb)
theorem LayM.fld (k : Nat) {g : Nat} {ty : TypeId} {sz : Nat} {l : List Value} (j : Nat) (u : Value) (h : LayM w0 w L Q) (hk : L[k]? = some (blk g ty sz (ofL l))) (hj : j < sz) (hl : j < l.length) : LayM w0 (w.setCell ⟨g, j, none⟩ u) (L.set k (blk g ty sz (ofL (l.set j u)))) Q :=
  h.step (h.lay.fld k j u hk hj hl) (.setCell _ _ _)
theorem LayM.upd {α : Type} (k : Nat) {g : Nat} {ty : TypeId} {n cap : Nat} {mk : α → Value} {s : Nat → α} {j : Nat} (x : α) (h : LayM w0 w L Q) (hk : L[k]? = some ⟨some ⟨g, 0, none⟩, ty, 1, n, cap, fun i => mk (s i)⟩) (hj : j < n) : LayM w0 (w.setCell ⟨g, j, none⟩ (mk x)) (L.set k ⟨some ⟨g, 0, none⟩, ty, 1, n, cap, fun i => mk (upd s j x i)⟩) Q :=
  h.step (h.lay.upd k x hk hj) (.setCell _ _ _)
theorem LayM.set (k : Nat) {g : Nat} {ty : TypeId} {sz n cap : Nat} {F : Nat → Value} (F' : Nat → Value) {j : Nat} {u : Value} (h : LayM w0 w L Q) (hk : L[k]? = some ⟨some ⟨g, 0, none⟩, ty, sz, n, cap, F⟩) (hj : j < n * sz) (hu : F' j = u) (hf : ∀ i, i < n * sz → i ≠ j → F' i = F i) : LayM w0 (w.setCell ⟨g, j, none⟩ u) (L.set k ⟨some ⟨g, 0, none⟩, ty, sz, n, cap, F'⟩) Q :=
  h.step (h.lay.set k F' hk hj hu hf) (.setCell _ _ _)
theorem LayM.app (k : Nat) {r : LRow} {A' : Option Addr} {n' cap' : Nat} {F' : Nat → Value} (h : LayM w0 w L Q) (hk : L[k]? = some r) (ho : Own w' w0.heap.size r.ty r.sz A' n' cap' F') (hg : w.grownBy w' (ablock r.a)) (ha : ablock A' = ablock r.a ∨ ablock A' = some w.heap.size) : LayM w0 w' (L.set k ⟨A', r.ty, r.sz, n', cap', F'⟩) Q :=
  h.step (h.lay.app k hk ho hg ha) (.grown (h.lay.own k r hk) hg)
theorem LayM.newB (h : LayM w0 w L Q) (l : List Value) (ty : TypeId) (sz : Nat) (hs : l.length = sz) (g : Nat) (hg : g = w.heap.size) : LayM w0 (w.alloc (.cells l.toArray ty)) (blk g ty sz (ofL l) :: L) Q := h.step (h.lay.newB l ty sz hs g hg) (.alloc _ _)
theorem LayM.lnil (h : LayM w0 w L Q) (ty : TypeId) (sz : Nat) (F : Nat → Value) : LayM w0 w (⟨none, ty, sz, 0, 0, F⟩ :: L) Q := h.step (h.lay.lnil ty sz F) (.refl _)
theorem LayM.make (h : LayM w0 w L Q) (z : Value) (hz : z.cells = #[z]) (n : Nat) (hn : n ≤ maxLen) (ty : TypeId) (F : Nat → Value) (hF : ∀ j, j < n → F j = z) (g : Nat) (hg : g = w.heap.size) : LayM w0 (w.alloc (.cells (madeCells z.cells n) ty)) (arr g ty n F :: L) Q := h.step (h.lay.make z hz n hn ty F hF g hg) (.alloc _ _)
theorem LayM.perm (h : LayM w0 w L Q) (p : List Nat) (hnd : p.Nodup) (hL : L'.map some = p.map fun i => L[i]?) : LayM w0 w L' Q := h.step (h.lay.perm p hnd hL) (.refl _)
theorem LayM.congr (k : Nat) {r : LRow} (F' : Nat → Value) (h : LayM w0 w L Q) (hk : L[k]? = some r) (hf : ∀ j, j < r.n * r.sz → r.F j = F' j) : LayM w0 w (L.set k { r with F := F' }) Q := h.step (h.lay.congr k F' hk hf) (.refl _)
theorem LayM.size (h : LayM w0 w L Q) : w0.heap.size ≤ w.heap.size := h.lay.size
/-- No maps. -/
theorem Lay.toM (h : Lay w0 w L) : LayM w0 w L [] := ⟨h, fun i q hi => by simp at hi, fun i j q r _ hi => by simp at hi⟩
/-- A map is made. -/
theorem LayM.newM (h : LayM w0 w L Q) (φ : Array MapEntry → Nat → Prop) (hφ : φ #[] 0) (b : Nat) (hb : b = w.heap.size) : LayM w0 (w.alloc (.map #[] 0)) L (⟨b, φ⟩ :: Q) := by
  subst hb
  have h1 := h.alloc (.map #[] 0)
  have hlt : ∀ (i : Nat) (q : MRow), Q[i]? = some q → q.b < w.heap.size := fun i q hi => by
    obtain ⟨_, es, c, h2, _⟩ := h.map i q hi
    exact (Array.getElem?_eq_some_iff.1 h2).1
  refine ⟨h1.lay, fun i q hi => ?_, fun i j q r hij hi hj => ?_⟩
  · rcases i with _ | i
    · obtain rfl : _ = q := by simpa using hi
      exact ⟨h.size, #[], 0, heap_alloc_new w _, hφ⟩
    · exact h1.map i q hi
  · rcases i with _ | i
    · obtain rfl : _ = q := by simpa using hi
      rcases j with _ | j
      · exact absurd rfl hij
      · have := hlt j r hj
        show w.heap.size ≠ r.b
        omega
    · rcases j with _ | j
      · obtain rfl : _ = r := by simpa using hj
        have := hlt i q hi
        show q.b ≠ w.heap.size
        omega
      · exact h1.ap i j q r (by omega) hi hj
/-- A map's block turns. -/
theorem LayM.setM (h : LayM w0 w L Q) (i : Nat) {q : MRow} (hi : Q[i]? = some q) (es : Array MapEntry) (c : Nat) (φ : Array MapEntry → Nat → Prop) (hφ : φ es c) : LayM w0 (ChangeMaps.setBlock w q.b (.map es c)) L (Q.set i ⟨q.b, φ⟩) := by
  obtain ⟨h1, es0, c0, h2, _⟩ := h.map i q hi
  have hl : i < Q.length := (List.getElem?_eq_some_iff.1 hi).1
  have hlt : q.b < w.heap.size := (Array.getElem?_eq_some_iff.1 h2).1
  have hat : ∀ k, (ChangeMaps.setBlock w q.b (.map es c)).heap[k]? = if k = q.b then some (.map es c) else w.heap[k]? := by
    intro k
    show (w.heap.setIfInBounds _ _)[k]? = _
    rw [Array.getElem?_setIfInBounds]
    by_cases e : q.b = k
    · subst e; simp [hlt]
    · rw [if_neg e, if_neg (fun h => e h.symm)]
  have hrow : ∀ (k : Nat) (r : LRow), L[k]? = some r → ∀ g, ablock r.a = some g → g ≠ q.b := by
    intro k r hk g hg e
    subst e
    rcases h.lay.own k r hk with ⟨ha, _⟩ | ⟨g', cur, ha, _, hgc, _⟩
    · rw [ha] at hg; cases hg
    · rw [ha] at hg
      have : g' = q.b := by simpa [ablock] using hg
      rw [this, h2] at hgc
      cases hgc
  refine ⟨⟨fun k r hk => (h.lay.own k r hk).same fun g hg => by rw [hat, if_neg (hrow k r hk g hg)], h.lay.ap, ?_⟩, fun j r hj => ?_, fun j j' r r' hjj hj hj' => ?_⟩
  · refine h.lay.bel.trans ⟨rfl, rfl, rfl, by simp [ChangeMaps.setBlock], fun k hk => by rw [hat, if_neg (by omega)]⟩
  · rw [List.getElem?_set] at hj
    by_cases e : i = j
    · subst e
      rw [if_pos rfl, if_pos hl] at hj
      injection hj with hj
      subst hj
      exact ⟨h1, es, c, by rw [hat, if_pos rfl], hφ⟩
    · rw [if_neg e] at hj
      obtain ⟨h3, es', c', h4, h5⟩ := h.map j r hj
      exact ⟨h3, es', c', by rw [hat, if_neg (h.ap j i r q (fun e' => e e'.symm) hj hi)]; exact h4, h5⟩
  · have key : ∀ (m : Nat) (x : MRow), (Q.set i ⟨q.b, φ⟩)[m]? = some x → ∃ x', Q[m]? = some x' ∧ x'.b = x.b := by
      intro m x hm
      rw [List.getElem?_set] at hm
      by_cases e : i = m
      · subst e
        rw [if_pos rfl, if_pos hl] at hm
        injection hm with hm
        subst hm
        exact ⟨q, hi, rfl⟩
      · rw [if_neg e] at hm
        exact ⟨x, hm, rfl⟩
    obtain ⟨x, hx, ex⟩ := key j r hj
    obtain ⟨y, hy, ey⟩ := key j' r' hj'
    rw [← ex, ← ey]
    exact h.ap j j' x y hjj hx hy
/-- The map's entries, as they stand. -/
theorem LayM.mp (h : LayM w0 w L Q) (i : Nat) {q : MRow} (hi : Q[i]? = some q) : ∃ es c, w.heap[q.b]? = some (.map es c) ∧ q.φ es c := (h.map i q hi).2
theorem at_layM {F : World → Prop} (h : LayM w0 w L Q) (hF : ∀ W, LayM w0 W L Q → F W) : F w := hF w h
end
end Go.Proofs.YtfdgjbanajodfaaDoor
