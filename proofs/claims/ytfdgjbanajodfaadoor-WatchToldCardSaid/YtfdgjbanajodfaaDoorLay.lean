/- All of a walk's own blocks in one list of rows: 'Lay'. A contract speaks of 'its rows :: R' for every R. -/
import Derived.Test.YtfdgjbanajodfaaDoorHeap
import Derived.Test.YtfdgjbanajodfaaDoorMv
set_option linter.unusedVariables false
set_option linter.unusedSimpArgs false
namespace Go.Proofs.YtfdgjbanajodfaaDoor
open Go.RowKit

structure LRow where
  a : Option Addr
  ty : TypeId
  sz : Nat
  n : Nat
  cap : Nat
  F : Nat → Value
/-- A struct's cells, told by a list. -/
def ofL (l : List Value) (j : Nat) : Value := (l[j]?).getD undef
theorem ofL_0 (a : Value) (l : List Value) : ofL (a :: l) 0 = a := rfl
theorem ofL_1 (a b : Value) (l : List Value) : ofL (a :: b :: l) 1 = b := rfl
theorem ofL_2 (a b c : Value) (l : List Value) : ofL (a :: b :: c :: l) 2 = c := rfl
theorem ofL_3 (a b c d : Value) (l : List Value) : ofL (a :: b :: c :: d :: l) 3 = d := rfl
theorem ofL_4 (a b c d e : Value) (l : List Value) : ofL (a :: b :: c :: d :: e :: l) 4 = e := rfl
theorem ofL_5 (a b c d e f : Value) (l : List Value) : ofL (a :: b :: c :: d :: e :: f :: l) 5 = f := rfl
theorem ofL_6 (a b c d e f g : Value) (l : List Value) : ofL (a :: b :: c :: d :: e :: f :: g :: l) 6 = g := rfl
theorem ofL_7 (a b c d e f g h : Value) (l : List Value) : ofL (a :: b :: c :: d :: e :: f :: g :: h :: l) 7 = h := rfl
theorem ofL_8 (a b c d e f g h i : Value) (l : List Value) : ofL (a :: b :: c :: d :: e :: f :: g :: h :: i :: l) 8 = i := rfl
/-- A block with one struct; a row of n one-cell elements that does not grow; a list that grows. -/
abbrev blk (g : Nat) (ty : TypeId) (sz : Nat) (F : Nat → Value) : LRow := ⟨some ⟨g, 0, none⟩, ty, sz, 1, 1, F⟩
abbrev arr (g : Nat) (ty : TypeId) (n : Nat) (F : Nat → Value) : LRow := ⟨some ⟨g, 0, none⟩, ty, 1, n, n, F⟩
abbrev lst (A : Option Addr) (ty : TypeId) (n cap : Nat) (F : Nat → Value) : LRow := ⟨A, ty, 1, n, cap, F⟩

structure Lay (w0 w : World) (L : List LRow) : Prop where
  own : ∀ (k : Nat) (r : LRow), L[k]? = some r → Own w w0.heap.size r.ty r.sz r.a r.n r.cap r.F
  ap : ∀ (i j : Nat) (r s : LRow), i ≠ j → L[i]? = some r → L[j]? = some s → ablock r.a = none ∨ ablock r.a ≠ ablock s.a
  bel : Below w0.heap.size w0 w

section
variable {w0 w w' : World} {L : List LRow}
theorem Lay.nil (w : World) : Lay w w [] := ⟨fun k r h => by simp at h, fun i j r s _ h => by simp at h, Below.refl _ _⟩
theorem Lay.size (h : Lay w0 w L) : w0.heap.size ≤ w.heap.size := h.bel.size
theorem Lay.keep (h : Lay w0 w L) (hb : Below w.heap.size w w') : Lay w0 w' L :=
  ⟨fun k r hk => (h.own k r hk).below hb fun b hb2 => ((h.own k r hk).lt b hb2).2, h.ap, h.bel.trans (hb.mono h.size)⟩
theorem Lay.sim (h : Lay w0 w L) (e : Sim w w') : Lay w0 w' L := h.keep (below_sim (Below.refl _ _) e)
theorem Lay.drew (h : Lay w0 w L) : Lay w0 w.drew L := h.sim ⟨rfl, rfl, rfl, rfl⟩
theorem Lay.alloc (h : Lay w0 w L) (o : Obj) : Lay w0 (w.alloc o) L := h.keep ((Below.refl _ _).alloc (Nat.le_refl _) o)
theorem Lay.tail {r : LRow} (h : Lay w0 w (r :: L)) : Lay w0 w L :=
  ⟨fun k s hk => h.own (k + 1) s hk, fun i j s t hij hi hj => h.ap (i + 1) (j + 1) s t (by omega) hi hj, h.bel⟩
theorem Lay.swap {r s : LRow} (h : Lay w0 w (r :: s :: L)) : Lay w0 w (s :: r :: L) := by
  refine ⟨fun k t hk => ?_, fun i j t u hij hi hj => ?_, h.bel⟩
  · rcases k with _ | _ | k
    · exact h.own 1 t hk
    · exact h.own 0 t hk
    · exact h.own (k + 2) t hk
  · have key : ∀ k : Nat, ∃ k', (∀ t, (s :: r :: L)[k]? = some t → (r :: s :: L)[k']? = some t) ∧ (k' = if k = 0 then 1 else if k = 1 then 0 else k) := by
      intro k
      rcases k with _ | _ | k
      · exact ⟨1, fun _ h => h, rfl⟩
      · exact ⟨0, fun _ h => h, rfl⟩
      · exact ⟨k + 2, fun _ h => h, by simp⟩
    obtain ⟨i', hi', ei⟩ := key i
    obtain ⟨j', hj', ej⟩ := key j
    refine h.ap i' j' t u ?_ (hi' t hi) (hj' u hj)
    rw [ei, ej]
    repeat' split
    all_goals omega
/-- Fewer rows, in whatever order: each place k of the new list stands at place f k of the old one. -/
theorem Lay.pick {L' : List LRow} (h : Lay w0 w L) (f : Nat → Nat) (hf : ∀ i j, i < L'.length → j < L'.length → f i = f j → i = j) (hL : ∀ k, k < L'.length → L'[k]? = L[f k]?) : Lay w0 w L' := by
  have lt : ∀ (k : Nat) (r : LRow), L'[k]? = some r → k < L'.length := fun k r hk => (List.getElem?_eq_some_iff.1 hk).1
  exact ⟨fun k r hk => h.own (f k) r (by rw [← hL k (lt k r hk)]; exact hk), fun i j r s hij hi hj => h.ap (f i) (f j) r s (fun e => hij (hf i j (lt _ _ hi) (lt _ _ hj) e)) (by rw [← hL i (lt _ _ hi)]; exact hi) (by rw [← hL j (lt _ _ hj)]; exact hj), h.bel⟩
theorem Lay.lt {k : Nat} {r : LRow} (h : Lay w0 w L) (hk : L[k]? = some r) : ∀ b, ablock r.a = some b → w0.heap.size ≤ b ∧ b < w.heap.size := (h.own k r hk).lt
theorem Lay.at_ (k : Nat) {g : Nat} {ty : TypeId} {sz n cap : Nat} {F : Nat → Value} (h : Lay w0 w L) (hk : L[k]? = some ⟨some ⟨g, 0, none⟩, ty, sz, n, cap, F⟩) : w0.heap.size ≤ g ∧ g < w.heap.size := h.lt hk g rfl
theorem Lay.ne_ (i j : Nat) {g g' : Nat} {ty ty' : TypeId} {sz n cap sz' n' cap' : Nat} {F F' : Nat → Value} (h : Lay w0 w L) (hi : L[i]? = some ⟨some ⟨g, 0, none⟩, ty, sz, n, cap, F⟩) (hj : L[j]? = some ⟨some ⟨g', 0, none⟩, ty', sz', n', cap', F'⟩) (hij : i ≠ j) : g ≠ g' := by
  rcases h.ap i j _ _ hij hi hj with e | e
  · cases e
  · intro he; subst he; exact e rfl
theorem Lay.cell (k : Nat) {g : Nat} {ty : TypeId} {sz n cap : Nat} {F : Nat → Value} (h : Lay w0 w L) (hk : L[k]? = some ⟨some ⟨g, 0, none⟩, ty, sz, n, cap, F⟩) {j : Nat} (hj : j < n * sz) : w.cell? ⟨g, j, none⟩ = some (F j) := by
  refine own_cell (h.own k _ hk) hj ?_
  rcases Nat.eq_zero_or_pos n with h0 | h0
  · simp only [h0, Nat.zero_mul] at hj; omega
  · exact h0
theorem Lay.cell1 (k : Nat) {g : Nat} {ty : TypeId} {n cap : Nat} {F : Nat → Value} (h : Lay w0 w L) (hk : L[k]? = some ⟨some ⟨g, 0, none⟩, ty, 1, n, cap, F⟩) {j : Nat} (hj : j < n) : w.cell? ⟨g, j, none⟩ = some (F j) := h.cell k hk (by omega)
theorem Lay.cellB (k : Nat) {g : Nat} {ty : TypeId} {sz : Nat} {F : Nat → Value} (h : Lay w0 w L) (hk : L[k]? = some (blk g ty sz F)) (j : Nat) (hj : j < sz) : w.cell? ⟨g, j, none⟩ = some (F j) := h.cell k hk (by omega)
theorem Lay.frz (k : Nat) {g : Nat} {ty : TypeId} {sz n cap : Nat} {F : Nat → Value} (h : Lay w0 w L) (hk : L[k]? = some ⟨some ⟨g, 0, none⟩, ty, sz, n, cap, F⟩) (hn : 0 < n) (o : Nat) : w.frozen? ⟨g, o, none⟩ = false := own_frz (h.own k _ hk) hn o
/-- A cell is set. -/
theorem Lay.set (k : Nat) {g : Nat} {ty : TypeId} {sz n cap : Nat} {F : Nat → Value} (F' : Nat → Value) {j : Nat} {u : Value} (h : Lay w0 w L) (hk : L[k]? = some ⟨some ⟨g, 0, none⟩, ty, sz, n, cap, F⟩) (hj : j < n * sz) (hu : F' j = u) (hf : ∀ i, i < n * sz → i ≠ j → F' i = F i) :
    Lay w0 (w.setCell ⟨g, j, none⟩ u) (L.set k ⟨some ⟨g, 0, none⟩, ty, sz, n, cap, F'⟩) := by
  have hl : k < L.length := (List.getElem?_eq_some_iff.1 hk).1
  have key : ∀ (i : Nat) (r : LRow), (L.set k ⟨some ⟨g, 0, none⟩, ty, sz, n, cap, F'⟩)[i]? = some r → (i = k ∧ r = ⟨some ⟨g, 0, none⟩, ty, sz, n, cap, F'⟩) ∨ (i ≠ k ∧ L[i]? = some r) := by
    intro i r hi
    rw [List.getElem?_set] at hi
    by_cases e : k = i
    · subst e
      rw [if_pos rfl, if_pos hl] at hi
      injection hi with hi
      exact .inl ⟨rfl, hi.symm⟩
    · rw [if_neg e] at hi
      exact .inr ⟨fun e' => e e'.symm, hi⟩
  refine ⟨fun i r hi => ?_, fun i i' r s hii hi hi' => ?_, h.bel.setCell (h.lt hk g rfl).1 u⟩
  · rcases key i r hi with ⟨rfl, rfl⟩ | ⟨hne, hi⟩
    · exact (h.own i _ hk).set_ u hj hu hf
    · refine (h.own i r hi).far ?_ u
      rcases h.ap i k r _ hne hi hk with e | e
      · rw [e]; simp
      · exact e
  · rcases key i r hi with ⟨rfl, rfl⟩ | ⟨hne, hi⟩
    · rcases key i' s hi' with ⟨rfl, rfl⟩ | ⟨hne', hi'⟩
      · exact absurd rfl hii
      · exact h.ap i i' ⟨some ⟨g, 0, none⟩, ty, sz, n, cap, F⟩ s hii hk hi'
    · rcases key i' s hi' with ⟨rfl, rfl⟩ | ⟨hne', hi'⟩
      · exact h.ap i i' r ⟨some ⟨g, 0, none⟩, ty, sz, n, cap, F⟩ hii (by assumption) hk
      · exact h.ap i i' r s hii hi hi'
theorem ofL_set {l : List Value} {j : Nat} {u : Value} (hj : j < l.length) : ofL (l.set j u) j = u ∧ ∀ i, i ≠ j → ofL (l.set j u) i = ofL l i := by
  unfold ofL
  constructor
  · rw [List.getElem?_set]; simp [hj]
  · intro i hi
    rw [List.getElem?_set, if_neg (fun e => hi e.symm)]
/-- A struct's field is set. -/
theorem Lay.fld (k : Nat) {g : Nat} {ty : TypeId} {sz : Nat} {l : List Value} (j : Nat) (u : Value) (h : Lay w0 w L) (hk : L[k]? = some (blk g ty sz (ofL l))) (hj : j < sz) (hl : j < l.length) : Lay w0 (w.setCell ⟨g, j, none⟩ u) (L.set k (blk g ty sz (ofL (l.set j u)))) :=
  h.set k _ hk (by omega) (ofL_set hl).1 (fun i _ hi => (ofL_set hl).2 i hi)
/-- An element is set. -/
theorem Lay.upd {α : Type} (k : Nat) {g : Nat} {ty : TypeId} {n cap : Nat} {mk : α → Value} {s : Nat → α} {j : Nat} (x : α) (h : Lay w0 w L) (hk : L[k]? = some ⟨some ⟨g, 0, none⟩, ty, 1, n, cap, fun i => mk (s i)⟩) (hj : j < n) : Lay w0 (w.setCell ⟨g, j, none⟩ (mk x)) (L.set k ⟨some ⟨g, 0, none⟩, ty, 1, n, cap, fun i => mk (upd s j x i)⟩) :=
  h.set k _ hk (by omega) (by rw [upd_same]) (fun i _ hi => by rw [upd_ne _ _ hi])
/-- A row has grown by append. -/
theorem Lay.app (k : Nat) {r : LRow} {A' : Option Addr} {n' cap' : Nat} {F' : Nat → Value} (h : Lay w0 w L) (hk : L[k]? = some r) (ho : Own w' w0.heap.size r.ty r.sz A' n' cap' F') (hg : w.grownBy w' (ablock r.a)) (ha : ablock A' = ablock r.a ∨ ablock A' = some w.heap.size) : Lay w0 w' (L.set k ⟨A', r.ty, r.sz, n', cap', F'⟩) := by
  have hl : k < L.length := (List.getElem?_eq_some_iff.1 hk).1
  have key : ∀ (i : Nat) (s : LRow), (L.set k ⟨A', r.ty, r.sz, n', cap', F'⟩)[i]? = some s → (i = k ∧ s = ⟨A', r.ty, r.sz, n', cap', F'⟩) ∨ (i ≠ k ∧ L[i]? = some s) := by
    intro i s hi
    rw [List.getElem?_set] at hi
    by_cases e : k = i
    · subst e
      rw [if_pos rfl, if_pos hl] at hi
      injection hi with hi
      exact .inl ⟨rfl, hi.symm⟩
    · rw [if_neg e] at hi
      exact .inr ⟨fun e' => e e'.symm, hi⟩
  have far : ∀ (i : Nat) (s : LRow), i ≠ k → L[i]? = some s → ablock s.a = none ∨ ablock s.a ≠ ablock A' := by
    intro i s hi hs
    rcases ha with ha | ha
    · rw [ha]; exact h.ap i k s r hi hs hk
    · refine .inr fun e => ?_
      have := (h.lt hs w.heap.size (e.trans ha)).2
      omega
  refine ⟨fun i s hi => ?_, fun i j s t hij hi hj => ?_, h.bel.grown hg h.size (fun b hb => (h.lt hk b hb).1)⟩
  · rcases key i s hi with ⟨rfl, rfl⟩ | ⟨hne, hi⟩
    · exact ho
    · exact (h.own i s hi).grown hg (h.ap i k s r hne hi hk)
  · rcases key i s hi with ⟨rfl, rfl⟩ | ⟨hne, hi⟩
    · rcases key j t hj with ⟨rfl, rfl⟩ | ⟨hne', hj⟩
      · exact absurd rfl hij
      · rcases far j t hne' hj with e | e
        · cases hA : ablock A'
          · exact .inl rfl
          · refine .inr ?_
            rw [e]; simp
        · exact .inr fun e' => e e'.symm
    · rcases key j t hj with ⟨rfl, rfl⟩ | ⟨hne', hj⟩
      · exact far i s hne (by assumption)
      · exact h.ap i j s t hij hi hj
/-- A new row, of a block that no row has. -/
theorem Lay.cons {r : LRow} (h : Lay w0 w L) (ho : Own w w0.heap.size r.ty r.sz r.a r.n r.cap r.F) (hn : ∀ (i : Nat) (s : LRow), L[i]? = some s → ablock r.a = none ∨ ablock r.a ≠ ablock s.a) : Lay w0 w (r :: L) := by
  refine ⟨fun k s hk => ?_, fun i j s t hij hi hj => ?_, h.bel⟩
  · rcases k with _ | k
    · have : r = s := by simpa using hk
      subst this; exact ho
    · exact h.own k s hk
  · rcases i with _ | i
    · have : r = s := by simpa using hi
      subst this
      rcases j with _ | j
      · exact absurd rfl hij
      · exact hn j t hj
    · rcases j with _ | j
      · have : r = t := by simpa using hj
        subst this
        have hi : L[i]? = some s := hi
        rcases hn i s hi with e | e
        · cases hs : ablock s.a
          · exact .inl rfl
          · refine .inr ?_
            rw [e]; simp
        · exact .inr fun e' => e e'.symm
      · exact h.ap i j s t (by omega) hi hj
/-- A list that is nil. -/
theorem Lay.lnil (h : Lay w0 w L) (ty : TypeId) (sz : Nat) (F : Nat → Value) : Lay w0 w (⟨none, ty, sz, 0, 0, F⟩ :: L) := h.cons (Own.nil_ _ _ _ _ _) (fun _ _ _ => .inl rfl)
/-- A block is made. -/
theorem Lay.new (h : Lay w0 w L) (cs : Array Value) (ty : TypeId) (sz n : Nat) (F : Nat → Value) (g : Nat) (hg : g = w.heap.size) (hs : cs.size = n * sz) (hn : n ≤ maxLen) (hf : ∀ j, j < n * sz → cs[j]? = some (F j)) : Lay w0 (w.alloc (.cells cs ty)) (⟨some ⟨g, 0, none⟩, ty, sz, n, n, F⟩ :: L) := by
  refine (h.alloc _).cons (Own.made w _ ty sz n cs F g hg h.size hs hn hf) fun i s hi => .inr fun e => ?_
  have := (h.lt hi g e.symm).2
  omega
theorem ofL_arr (l : List Value) : ∀ j, j < l.length → l.toArray[j]? = some (ofL l j) := by
  intro j hj
  unfold ofL
  simp [hj]
/-- A struct is put into a new block. -/
theorem Lay.newB (h : Lay w0 w L) (l : List Value) (ty : TypeId) (sz : Nat) (hs : l.length = sz) (g : Nat) (hg : g = w.heap.size) : Lay w0 (w.alloc (.cells l.toArray ty)) (blk g ty sz (ofL l) :: L) :=
  h.new l.toArray ty sz 1 _ g hg (by simp; omega) (by unfold maxLen; omega) (fun j hj => ofL_arr l j (by omega))
/-- make([]T, n). -/
theorem Lay.make (h : Lay w0 w L) (z : Value) (hz : z.cells = #[z]) (n : Nat) (hn : n ≤ maxLen) (ty : TypeId) (F : Nat → Value) (hF : ∀ j, j < n → F j = z) (g : Nat) (hg : g = w.heap.size) : Lay w0 (w.alloc (.cells (madeCells z.cells n) ty)) (arr g ty n F :: L) :=
  h.new _ ty 1 n F g hg (by rw [(made_cells z n hz).1]; omega) hn (fun j hj => by rw [(made_cells z n hz).2 j (by omega), hF j (by omega)])
/-- make([]T, n), T of some cells. -/
theorem Lay.makeN (h : Lay w0 w L) (z : Value) (n size : Nat) (hn : n ≤ maxLen) (ty : TypeId) (F : Nat → Value) (hz : z.cells.size = size) (hF : ∀ j, j < n * size → F j = z.cells[j % size]!) (g : Nat) (hg : g = w.heap.size) : Lay w0 (w.alloc (.cells (madeCells z.cells (n * size)) ty)) (⟨some ⟨g, 0, none⟩, ty, size, n, n, F⟩ :: L) :=
  h.new _ ty size n F g hg (size_madeCells _ _) hn (fun j hj => by subst hz; rw [hF j hj]; simp [madeCells, hj])
/-- A later run's rows, behind those of an earlier one. -/
theorem Lay.join {w1 : World} {L' : List LRow} (h : Lay w0 w L) (h' : Lay w w1 L') : Lay w0 w1 (L' ++ L) := by
  have hb := h.keep h'.bel
  have old : ∀ (k : Nat) (r : LRow), L[k]? = some r → ∀ b, ablock r.a = some b → b < w.heap.size := fun k r hk b hb => (h.lt hk b hb).2
  have new : ∀ (k : Nat) (r : LRow), L'[k]? = some r → ∀ b, ablock r.a = some b → w.heap.size ≤ b := fun k r hk b hb => (h'.lt hk b hb).1
  have key : ∀ (k : Nat) (r : LRow), (L' ++ L)[k]? = some r → (k < L'.length ∧ L'[k]? = some r) ∨ (L'.length ≤ k ∧ L[k - L'.length]? = some r) := by
    intro k r hk
    rcases Nat.lt_or_ge k L'.length with hl | hl
    · rw [List.getElem?_append_left hl] at hk; exact .inl ⟨hl, hk⟩
    · rw [List.getElem?_append_right hl] at hk; exact .inr ⟨hl, hk⟩
  refine ⟨fun k r hk => ?_, fun i j r s hij hi hj => ?_, hb.bel⟩
  · rcases key k r hk with ⟨_, hk⟩ | ⟨_, hk⟩
    · exact (h'.own k r hk).base_le h.size
    · exact hb.own _ r hk
  · have apart : ∀ {r s : LRow} {k l : Nat}, L'[k]? = some r → L[l]? = some s → ablock r.a = none ∨ ablock r.a ≠ ablock s.a := by
      intro r s k l hk hl
      cases hr : ablock r.a with
      | none => exact .inl rfl
      | some b =>
        refine .inr fun e => ?_
        have h1 := new k r hk b hr
        have h2 := old l s hl b e.symm
        omega
    rcases key i r hi with ⟨li, hi⟩ | ⟨li, hi⟩
    · rcases key j s hj with ⟨lj, hj⟩ | ⟨lj, hj⟩
      · exact h'.ap i j r s hij hi hj
      · exact apart hi hj
    · rcases key j s hj with ⟨lj, hj⟩ | ⟨lj, hj⟩
      · rcases apart hj hi with e | e
        · cases hr : ablock r.a with
          | none => exact .inl rfl
          | some b => exact .inr (by rw [e]; simp)
        · exact .inr fun e' => e e'.symm
      · exact h.ap _ _ r s (by omega) hi hj
theorem Lay.rd (k : Nat) {r : LRow} (h : Lay w0 w L) (hk : L[k]? = some r) : Rd w w.heap.size r.a (r.n * r.sz) r.F := (h.own k r hk).rd
theorem Lay.rd1 (k : Nat) {A : Option Addr} {ty : TypeId} {n cap : Nat} {F : Nat → Value} (h : Lay w0 w L) (hk : L[k]? = some ⟨A, ty, 1, n, cap, F⟩) : Rd w w.heap.size A n F := by
  have := h.rd k hk
  simpa using this
/-- A row's function may be another, if it says the same. -/
theorem Lay.congr (k : Nat) {r : LRow} (F' : Nat → Value) (h : Lay w0 w L) (hk : L[k]? = some r) (hf : ∀ j, j < r.n * r.sz → r.F j = F' j) : Lay w0 w (L.set k { r with F := F' }) := by
  have hl : k < L.length := (List.getElem?_eq_some_iff.1 hk).1
  have key : ∀ (i : Nat) (s : LRow), (L.set k { r with F := F' })[i]? = some s → ∃ s', L[i]? = some s' ∧ s'.a = s.a ∧ Own w w0.heap.size s.ty s.sz s.a s.n s.cap s.F := by
    intro i s hi
    rw [List.getElem?_set] at hi
    by_cases e : k = i
    · subst e
      rw [if_pos rfl, if_pos hl] at hi
      injection hi with hi
      subst hi
      exact ⟨r, hk, rfl, (h.own k r hk).congr hf⟩
    · rw [if_neg e] at hi
      exact ⟨s, hi, rfl, h.own i s hi⟩
  refine ⟨fun i s hi => (key i s hi).choose_spec.2.2, fun i j s t hij hi hj => ?_, h.bel⟩
  obtain ⟨s', hs, es, _⟩ := key i s hi
  obtain ⟨t', ht, et, _⟩ := key j t hj
  rw [← es, ← et]
  exact h.ap i j s' t' hij hs ht
/-- The rows in another order, or fewer: row k of the new list is row p[k] of the old one. -/
theorem Lay.perm {L' : List LRow} (h : Lay w0 w L) (p : List Nat) (hnd : p.Nodup) (hL : L'.map some = p.map fun i => L[i]?) : Lay w0 w L' := by
  have hlen : L'.length = p.length := by have := congrArg List.length hL; simpa using this
  have key : ∀ k, (hk : k < p.length) → p.getD k 0 = p[k] := fun k hk => by rw [List.getD_eq_getElem?_getD, List.getElem?_eq_getElem hk]; rfl
  refine h.pick (fun k => p.getD k 0) (fun i j hi hj e => ?_) (fun k hk => ?_)
  · simp only [key i (by omega), key j (by omega)] at e
    exact (List.getElem_inj hnd).1 e
  · have := congrArg (fun l => l[k]?) hL
    simp only [List.getElem?_map] at this
    rw [List.getElem?_eq_getElem hk, List.getElem?_eq_getElem (by omega)] at this
    simp only [Option.map_some, Option.some.injEq] at this
    show L'[k]? = L[p.getD k 0]?
    rw [key k (by omega), List.getElem?_eq_getElem hk]
    exact this
/-- The world under a name of its own. -/
theorem at_lay {F : World → Prop} (h : Lay w0 w L) (hF : ∀ W, Lay w0 W L → F W) : F w := hF w h
section
variable {P : Program}
theorem wpList_mkN {w : World} {ops : Array Oper} {rest : List Oper} {o : Oper} {a : Act} {Q : Exit → Act → World → Prop} (hgd : o.guard = none) (l c : Operand) (t : TypeId) (hop : o.op = Op.makeSlice t l c)
    (e : TypeId) (i : TypeInfo) (z : Value) (size bytes : Nat) (ht : P.underlying t = some (.slice e)) (hi : P.info? e = some i) (hz : i.zero = some z) (hsize : i.size = size) (hby : i.bytes = bytes)
    (kl kc : IntKind) (n : Nat) (hl : a.eval l = .int kl n) (hc : a.eval c = .int kc n) (hb : bytes * n ≤ 281474976710656) (hn : n ≤ maxLen)
    (h : ∀ w', w' = w.alloc (.cells (madeCells z.cells (n * size)) e) → wpList P ops Q rest (a.put o.dst (.slice (some ⟨w.heap.size, 0, none⟩) n n)) w') :
    wpList P ops Q (o :: rest) a w := by
  refine wpList_plain hgd fun K hK => ?_
  have hrun := run_make (P := P) w t e i z ht hi hz kl kc n n (by omega) (by omega) (by rw [hby, ← Int.natCast_mul]; omega) (by unfold maxLen at hn; omega)
  unfold Oper.wp
  simp only [execOp, hop, hl, hc, Sem.run_bind, hrun, Result.andThen_ok, Sem.run_pure]
  refine hK _ _ ?_
  simp only [Int.toNat_natCast, hsize]
  exact h _ rfl
end
end
end Go.Proofs.YtfdgjbanajodfaaDoor
