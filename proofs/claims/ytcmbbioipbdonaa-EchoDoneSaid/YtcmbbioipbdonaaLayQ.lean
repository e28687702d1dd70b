/- A layout with queues: the walk's own rows, its own maps, and a family of queues' slices, no two in one block, none in a row's. -/
import Derived.Test.YtcmbbioipbdonaaQue
import Derived.Test.YtcmbbioipbdonaaLayM
set_option linter.unusedVariables false
set_option linter.unusedSimpArgs false
namespace Go.Proofs.Ytcmbbioipbdonaa
open Go.RowKit Go.Maps Go.MapKept

def qput {α : Type} [DecidableEq α] {β : Type} (q : α → β) (a : α) (x : β) : α → β := fun b => if b = a then x else q b
theorem qput_same {α : Type} [DecidableEq α] {β : Type} (q : α → β) (a : α) (x : β) : qput q a x a = x := by simp [qput]
theorem qput_ne {α : Type} [DecidableEq α] {β : Type} {q : α → β} {a b : α} {x : β} (h : b ≠ a) : qput q a x b = q b := by simp [qput, h]
theorem fput_same {α : Type} [DecidableEq α] (q : α → Value) (a : α) (x : Value) : fput q a x a = x := by simp [fput]
theorem fput_ne {α : Type} [DecidableEq α] {q : α → Value} {a b : α} {x : Value} (h : b ≠ a) : fput q a x b = q b := by simp [fput, h]
theorem own_ab (A : Option Addr) (n cap : Nat) : (Value.slice A n cap).ownBlock = ablock A := by cases A <;> rfl

structure LayQ {α : Type} (w0 w : World) (L : List LRow) (Q : List MRow) (e : α → TypeId) (f : α → Value) (q : α → List Value) : Prop where
  lm : LayM w0 w L Q
  own : ∀ a, QSl w w0.heap.size (e a) (f a) (q a)
  ap : ∀ a c, a ≠ c → (f a).ownBlock = none ∨ (f a).ownBlock ≠ (f c).ownBlock
  row : ∀ a (k : Nat) (r : LRow), L[k]? = some r → (f a).ownBlock = none ∨ (f a).ownBlock ≠ ablock r.a
theorem QSl.has {w : World} {base : Nat} {e : TypeId} {v : Value} {xs : List Value} (h : QSl w base e v xs) {g : Nat} (hg : v.ownBlock = some g) : base ≤ g ∧ g < w.heap.size ∧ ∃ cur, w.heap[g]? = some (.cells cur e (0, 0)) := by
  rcases h with ⟨rfl, _⟩ | ⟨g', off, cap, cur, rfl, h1, h2, _⟩
  · cases hg
  · have : g' = g := by simpa [Value.ownBlock] using hg
    subst this
    exact ⟨h1, (Array.getElem?_eq_some_iff.1 h2).1, cur, h2⟩
section
variable {α : Type} {w0 w w' : World} {L L' : List LRow} {Q Q' : List MRow} {e : α → TypeId} {f : α → Value} {q : α → List Value}
theorem LayQ.lay (h : LayQ w0 w L Q e f q) : Lay w0 w L := h.lm.lay
theorem LayQ.size (h : LayQ w0 w L Q e f q) : w0.heap.size ≤ w.heap.size := h.lm.size
theorem LayQ.notMap (h : LayQ w0 w L Q e f q) {a : α} {g : Nat} (hg : (f a).ownBlock = some g) (i : Nat) (m : MRow) (hi : Q[i]? = some m) : m.b ≠ g := by
  intro e1
  subst e1
  obtain ⟨_, _, cur, hc⟩ := (h.own a).has hg
  obtain ⟨es, c, hm, _⟩ := h.lm.mp i hi
  rw [hm] at hc
  cases hc
theorem LayQ.step (h : LayQ w0 w L Q e f q) (h' : LayM w0 w' L' Q')
    (hk : ∀ g, g < w.heap.size → (∀ (k : Nat) (r : LRow), L[k]? = some r → ablock r.a ≠ some g) → (∀ (i : Nat) (m : MRow), Q[i]? = some m → m.b ≠ g) → w'.heap[g]? = w.heap[g]?)
    (hr : ∀ (k : Nat) (r : LRow), L'[k]? = some r → ∀ g, ablock r.a = some g → w.heap.size ≤ g ∨ ∃ (j : Nat) (s : LRow), L[j]? = some s ∧ ablock s.a = some g) : LayQ w0 w' L' Q' e f q := by
  refine ⟨h', fun a => (h.own a).same fun g hg => ?_, h.ap, fun a k r hkr => ?_⟩
  · obtain ⟨_, hlt, _⟩ := (h.own a).has hg
    refine hk g hlt (fun k r hkr e1 => ?_) (fun i m hi => h.notMap hg i m hi)
    rcases h.row a k r hkr with e2 | e2
    · rw [hg] at e2; cases e2
    · exact e2 (hg.trans e1.symm)
  · cases hf : (f a).ownBlock with
    | none => exact .inl rfl
    | some g =>
      refine .inr fun e1 => ?_
      obtain ⟨_, hlt, _⟩ := (h.own a).has hf
      rcases hr k r hkr g e1.symm with h1 | ⟨j, s, hj, hs⟩
      · omega
      · rcases h.row a j s hj with e2 | e2
        · rw [hf] at e2; cases e2
        · exact e2 (hf.trans hs.symm)
theorem rows_same {r' : LRow} {k : Nat} {r : LRow} (hk : L[k]? = some r) (ha : ablock r'.a = ablock r.a) : ∀ (i : Nat) (s : LRow), (L.set k r')[i]? = some s → ∀ g, ablock s.a = some g → w.heap.size ≤ g ∨ ∃ (j : Nat) (t : LRow), L[j]? = some t ∧ ablock t.a = some g := by
  intro i s hi g hg
  rw [List.getElem?_set] at hi
  by_cases e1 : k = i
  · subst e1
    rw [if_pos rfl, if_pos (List.getElem?_eq_some_iff.1 hk).1] at hi
    injection hi with hi
    subst hi
    exact .inr ⟨k, r, hk, ha ▸ hg⟩
  · rw [if_neg e1] at hi
    exact .inr ⟨i, s, hi, hg⟩
theorem LayQ.keep (h : LayQ w0 w L Q e f q) (hb : Below w.heap.size w w') : LayQ w0 w' L Q e f q :=
  h.step (h.lm.keep hb) (fun g hg _ _ => hb.block g hg) (fun k r hk g hg => .inr ⟨k, r, hk, hg⟩)
theorem LayQ.alloc (h : LayQ w0 w L Q e f q) (o : Obj) : LayQ w0 (w.alloc o) L Q e f q := h.keep ((Below.refl _ _).alloc (Nat.le_refl _) o)
theorem LayQ.sim (h : LayQ w0 w L Q e f q) (s : Sim w w') : LayQ w0 w' L Q e f q := h.keep (below_sim (Below.refl _ _) s)
theorem LayQ.drew (h : LayQ w0 w L Q e f q) : LayQ w0 w.drew L Q e f q := h.sim ⟨rfl, rfl, rfl, rfl⟩
theorem LayQ.onRow (h : LayQ w0 w L Q e f q) (k : Nat) {r r' : LRow} (hk : L[k]? = some r) {g j : Nat} {u : Value} (hr : ablock r.a = some g) (hr' : ablock r'.a = ablock r.a) (h' : LayM w0 (w.setCell ⟨g, j, none⟩ u) (L.set k r') Q) : LayQ w0 (w.setCell ⟨g, j, none⟩ u) (L.set k r') Q e f q :=
  h.step h' (fun b _ hb _ => Below.heap_setCell _ _ _ _ fun e1 => hb k r hk (by rw [hr]; exact congrArg some e1.symm)) (rows_same hk hr')
theorem LayQ.fld (k : Nat) {g : Nat} {ty : TypeId} {sz : Nat} {l : List Value} (j : Nat) (u : Value) (h : LayQ w0 w L Q e f q) (hk : L[k]? = some (blk g ty sz (ofL l))) (hj : j < sz) (hl : j < l.length) : LayQ w0 (w.setCell ⟨g, j, none⟩ u) (L.set k (blk g ty sz (ofL (l.set j u)))) Q e f q :=
  h.onRow k hk rfl rfl (h.lm.fld k j u hk hj hl)
theorem LayQ.upd {β : Type} (k : Nat) {g : Nat} {ty : TypeId} {n cap : Nat} {mk : β → Value} {s : Nat → β} {j : Nat} (x : β) (h : LayQ w0 w L Q e f q) (hk : L[k]? = some ⟨some ⟨g, 0, none⟩, ty, 1, n, cap, fun i => mk (s i)⟩) (hj : j < n) : LayQ w0 (w.setCell ⟨g, j, none⟩ (mk x)) (L.set k ⟨some ⟨g, 0, none⟩, ty, 1, n, cap, fun i => mk (upd s j x i)⟩) Q e f q :=
  h.onRow k hk rfl rfl (h.lm.upd k x hk hj)
theorem LayQ.set (k : Nat) {g : Nat} {ty : TypeId} {sz n cap : Nat} {F : Nat → Value} (F' : Nat → Value) {j : Nat} {u : Value} (h : LayQ w0 w L Q e f q) (hk : L[k]? = some ⟨some ⟨g, 0, none⟩, ty, sz, n, cap, F⟩) (hj : j < n * sz) (hu : F' j = u) (hf : ∀ i, i < n * sz → i ≠ j → F' i = F i) : LayQ w0 (w.setCell ⟨g, j, none⟩ u) (L.set k ⟨some ⟨g, 0, none⟩, ty, sz, n, cap, F'⟩) Q e f q :=
  h.onRow k hk rfl rfl (h.lm.set k F' hk hj hu hf)
theorem LayQ.app (k : Nat) {r : LRow} {A' : Option Addr} {n' cap' : Nat} {F' : Nat → Value} (h : LayQ w0 w L Q e f q) (hk : L[k]? = some r) (ho : Own w' w0.heap.size r.ty r.sz A' n' cap' F') (hg : w.grownBy w' (ablock r.a)) (ha : ablock A' = ablock r.a ∨ ablock A' = some w.heap.size) : LayQ w0 w' (L.set k ⟨A', r.ty, r.sz, n', cap', F'⟩) Q e f q := by
  refine h.step (h.lm.app k hk ho hg ha) (fun b hb hrow _ => hg.block b hb fun e1 => hrow k r hk e1.symm) fun i s hi g hgs => ?_
  rw [List.getElem?_set] at hi
  by_cases e1 : k = i
  · subst e1
    rw [if_pos rfl, if_pos (List.getElem?_eq_some_iff.1 hk).1] at hi
    injection hi with hi
    subst hi
    have hgs : ablock A' = some g := hgs
    rcases ha with ha | ha
    · exact .inr ⟨k, r, hk, by rw [← ha]; exact hgs⟩
    · rw [ha] at hgs
      injection hgs with hgs
      exact .inl (by omega)
  · rw [if_neg e1] at hi
    exact .inr ⟨i, s, hi, hgs⟩
theorem rows_cons {r' : LRow} (ha : ∀ g, ablock r'.a = some g → w.heap.size ≤ g) : ∀ (i : Nat) (s : LRow), (r' :: L)[i]? = some s → ∀ g, ablock s.a = some g → w.heap.size ≤ g ∨ ∃ (j : Nat) (t : LRow), L[j]? = some t ∧ ablock t.a = some g := by
  intro i s hi g hg
  rcases i with _ | i
  · obtain rfl : r' = s := by simpa using hi
    exact .inl (ha g hg)
  · exact .inr ⟨i, s, hi, hg⟩
theorem rows_new {r' : LRow} {g : Nat} (ha : ablock r'.a = some g) (hg : g = w.heap.size) : ∀ (i : Nat) (s : LRow), (r' :: L)[i]? = some s → ∀ g, ablock s.a = some g → w.heap.size ≤ g ∨ ∃ (j : Nat) (t : LRow), L[j]? = some t ∧ ablock t.a = some g :=
  rows_cons fun b hb => by
    rw [ha] at hb
    injection hb with hb
    omega
theorem LayQ.newB (h : LayQ w0 w L Q e f q) (l : List Value) (ty : TypeId) (sz : Nat) (hs : l.length = sz) (g : Nat) (hg : g = w.heap.size) : LayQ w0 (w.alloc (.cells l.toArray ty)) (blk g ty sz (ofL l) :: L) Q e f q :=
  h.step (h.lm.newB l ty sz hs g hg) (fun b hb _ _ => Below.heap_alloc _ _ _ hb) (rows_new rfl hg)
theorem LayQ.make (h : LayQ w0 w L Q e f q) (z : Value) (hz : z.cells = #[z]) (n : Nat) (hn : n ≤ maxLen) (ty : TypeId) (F : Nat → Value) (hF : ∀ j, j < n → F j = z) (g : Nat) (hg : g = w.heap.size) : LayQ w0 (w.alloc (.cells (madeCells z.cells n) ty)) (arr g ty n F :: L) Q e f q :=
  h.step (h.lm.make z hz n hn ty F hF g hg) (fun b hb _ _ => Below.heap_alloc _ _ _ hb) (rows_new rfl hg)
theorem LayQ.lnil (h : LayQ w0 w L Q e f q) (ty : TypeId) (sz : Nat) (F : Nat → Value) : LayQ w0 w (⟨none, ty, sz, 0, 0, F⟩ :: L) Q e f q :=
  h.step (h.lm.lnil ty sz F) (fun b hb _ _ => rfl) (rows_cons fun b hb => by cases hb)
theorem LayQ.perm (h : LayQ w0 w L Q e f q) (p : List Nat) (hnd : p.Nodup) (hL : L'.map some = p.map fun i => L[i]?) : LayQ w0 w L' Q e f q := by
  refine h.step (h.lm.perm p hnd hL) (fun b hb _ _ => rfl) fun k r hk g hg => .inr ?_
  have : some r ∈ L'.map some := List.mem_map.2 ⟨r, List.mem_of_getElem? hk, rfl⟩
  rw [hL, List.mem_map] at this
  obtain ⟨i, _, hi⟩ := this
  exact ⟨i, r, hi, hg⟩
theorem LayQ.congr (k : Nat) {r : LRow} (F' : Nat → Value) (h : LayQ w0 w L Q e f q) (hk : L[k]? = some r) (hf : ∀ j, j < r.n * r.sz → r.F j = F' j) : LayQ w0 w (L.set k { r with F := F' }) Q e f q :=
  h.step (h.lm.congr k F' hk hf) (fun b hb _ _ => rfl) (rows_same hk rfl)
theorem LayQ.setM (h : LayQ w0 w L Q e f q) (i : Nat) {m : MRow} (hi : Q[i]? = some m) (es : Array MapEntry) (c : Nat) (φ : Array MapEntry → Nat → Prop) (hφ : φ es c) : LayQ w0 (ChangeMaps.setBlock w m.b (.map es c)) L (Q.set i ⟨m.b, φ⟩) e f q :=
  h.step (h.lm.setM i hi es c φ hφ) (fun b _ _ hb => by
    show (w.heap.setIfInBounds _ _)[b]? = _
    rw [Array.getElem?_setIfInBounds_ne (hb i m hi)]) (fun k r hk g hg => .inr ⟨k, r, hk, hg⟩)
/-- From a layout without queues: all are nil. -/
theorem LayM.toQ (h : LayM w0 w L Q) (e : α → TypeId) : LayQ w0 w L Q e (fun _ => .slice none 0 0) (fun _ => []) :=
  ⟨h, fun a => QSl.nil _ _ _, fun a c _ => .inl rfl, fun a k r _ => .inl rfl⟩
theorem LayQ.mp (h : LayQ w0 w L Q e f q) (i : Nat) {m : MRow} (hi : Q[i]? = some m) : ∃ es c, w.heap[m.b]? = some (.map es c) ∧ m.φ es c := h.lm.mp i hi
theorem LayQ.len (h : LayQ w0 w L Q e f q) (a : α) : ∃ A cap, f a = .slice A (q a).length cap ∧ (q a).length ≤ cap ∧ cap ≤ maxLen := (h.own a).len
theorem LayQ.sameQ (h : LayQ w0 w L Q e f q) {q' : α → List Value} (hq : ∀ a, q' a = q a) : LayQ w0 w L Q e f q' := by
  obtain rfl : q' = q := funext hq
  exact h
/-- A queue has grown. -/
theorem LayQ.push [DecidableEq α] (h : LayQ w0 w L Q e f q) (a : α) {v' : Value} {xs' : List Value} (ho : QSl w' w0.heap.size (e a) v' xs') (hg : w.grownBy w' (f a).ownBlock) (hb : v'.ownBlock = (f a).ownBlock ∨ v'.ownBlock = some w.heap.size) : LayQ w0 w' L Q e (fput f a v') (qput q a xs') := by
  have hbase : ∀ k, (f a).ownBlock = some k → w0.heap.size ≤ k := fun k hk => ((h.own a).has hk).1
  have hrow : ∀ (k : Nat) (r : LRow), L[k]? = some r → ablock r.a = none ∨ ablock r.a ≠ (f a).ownBlock := by
    intro k r hk
    rcases h.row a k r hk with e1 | e1
    · cases hr : ablock r.a with
      | none => exact .inl rfl
      | some b => exact .inr (by rw [e1]; simp)
    · exact .inr fun e2 => e1 e2.symm
  have hm : LayM w0 w' L Q := by
    refine h.lm.step ⟨fun k r hk => (h.lay.own k r hk).grown hg (hrow k r hk), h.lay.ap, h.lay.bel.grown hg h.size hbase⟩ fun b es c hbm => ?_
    refine (hg.block b (Array.getElem?_eq_some_iff.1 hbm).1 fun e1 => ?_).trans hbm
    obtain ⟨_, _, cur, hc⟩ := (h.own a).has e1.symm
    rw [hbm] at hc
    cases hc
  refine ⟨hm, fun c => ?_, fun c d hcd => ?_, fun c k r hk => ?_⟩
  · by_cases e1 : c = a
    · subst e1; rw [fput_same, qput_same]; exact ho
    · rw [fput_ne e1, qput_ne e1]
      refine (h.own c).same fun g hgc => hg.block g ((h.own c).has hgc).2.1 fun e2 => ?_
      rcases h.ap c a e1 with e3 | e3
      · rw [hgc] at e3; cases e3
      · exact e3 (hgc.trans e2)
  · by_cases e1 : c = a
    · subst e1
      rw [fput_same, fput_ne (fun e2 => hcd e2.symm)]
      cases hv : v'.ownBlock with
      | none => exact .inl rfl
      | some g =>
        refine .inr fun e2 => ?_
        rcases hb with hb | hb
        · rcases h.ap c d hcd with e3 | e3
          · rw [← hb, hv] at e3; cases e3
          · exact e3 (by rw [← hb, hv, e2])
        · have := ((h.own d).has e2.symm).2.1
          rw [hv] at hb
          injection hb with hb
          omega
    · rw [fput_ne e1]
      by_cases e2 : d = a
      · subst e2
        rw [fput_same]
        cases hv : (f c).ownBlock with
        | none => exact .inl rfl
        | some g =>
          refine .inr fun e3 => ?_
          rcases hb with hb | hb
          · rcases h.ap c d hcd with e4 | e4
            · rw [hv] at e4; cases e4
            · exact e4 (by rw [← hb, hv, e3])
          · have := ((h.own c).has hv).2.1
            rw [← e3] at hb
            injection hb with hb
            omega
      · rw [fput_ne e2]; exact h.ap c d hcd
  · by_cases e1 : c = a
    · subst e1
      rw [fput_same]
      cases hv : v'.ownBlock with
      | none => exact .inl rfl
      | some g =>
        refine .inr fun e2 => ?_
        rcases hb with hb | hb
        · rcases h.row c k r hk with e3 | e3
          · rw [← hb, hv] at e3; cases e3
          · exact e3 (by rw [← hb, hv, e2])
        · have := (h.lay.lt hk g e2.symm).2
          rw [hv] at hb
          injection hb with hb
          omega
    · rw [fput_ne e1]; exact h.row c k r hk
/-- A queue has lost its head. -/
theorem LayQ.pop [DecidableEq α] (h : LayQ w0 w L Q e f q) (a : α) {v' : Value} {xs' : List Value} (ho : QSl w w0.heap.size (e a) v' xs') (hb : v'.ownBlock = (f a).ownBlock) : LayQ w0 w L Q e (fput f a v') (qput q a xs') := by
  have key : ∀ c, (fput f a v' c).ownBlock = (f c).ownBlock := by
    intro c
    by_cases e1 : c = a
    · subst e1; rw [fput_same]; exact hb
    · rw [fput_ne e1]
  refine ⟨h.lm, fun c => ?_, fun c d hcd => by rw [key, key]; exact h.ap c d hcd, fun c k r hk => by rw [key]; exact h.row c k r hk⟩
  by_cases e1 : c = a
  · subst e1; rw [fput_same, qput_same]; exact ho
  · rw [fput_ne e1, qput_ne e1]; exact h.own c
theorem QSl.frz {w : World} {base : Nat} {e : TypeId} {g off n cap : Nat} {xs : List Value} (h : QSl w base e (.slice (some ⟨g, off, none⟩) n cap) xs) (o : Nat) : w.frozen? ⟨g, o, none⟩ = false := by
  obtain ⟨_, _, cur, hc⟩ := h.has (g := g) rfl
  simp [World.frozen?, hc]
theorem QSl.poke {w : World} {base : Nat} {e : TypeId} {g off n cap : Nat} {xs : List Value} (h : QSl w base e (.slice (some ⟨g, off, none⟩) n cap) xs) {j : Nat} (u : Value) (hj : j < xs.length) :
    QSl (w.setCell ⟨g, off + j, none⟩ u) base e (.slice (some ⟨g, off, none⟩) n cap) (xs.set j u) := by
  rcases h with ⟨h1, _⟩ | ⟨g', off', cap', cur, h1, h2, h3, h4, h5, h6, h7⟩
  · cases h1
  · injection h1 with a b c
    injection a with a
    injection a with a1 a2
    subst a1 a2 b c
    refine .inr ⟨g, off, cap, cur.setIfInBounds (off + j) u, by rw [List.length_set], h2, by simp [World.setCell, Array.getElem?_modify, h3], by rw [List.length_set]; exact h4, h5, by simpa using h6, ?_⟩
    rw [List.length_set, Array.toList_setIfInBounds]
    have hjl : off + j < cur.toList.length := by simp; omega
    apply List.ext_getElem?
    intro i
    by_cases hi : i < xs.length
    · rw [List.getElem?_take_of_lt hi, List.getElem?_drop, List.getElem?_set, List.getElem?_set]
      have hx : xs[i]? = cur.toList[off + i]? := by
        conv => lhs; rw [← h7]
        rw [List.getElem?_take_of_lt hi, List.getElem?_drop]
      by_cases e1 : j = i
      · subst e1
        rw [if_pos rfl, if_pos rfl, if_pos hjl, if_pos hj]
      · rw [if_neg (by omega), if_neg e1, hx]
    · rw [List.getElem?_eq_none (by simp; omega), List.getElem?_eq_none (by simp; omega)]
/-- An element of a queue is set. -/
theorem LayQ.poke [DecidableEq α] (h : LayQ w0 w L Q e f q) (a : α) {g off n cap j : Nat} (u : Value) (hf : f a = .slice (some ⟨g, off, none⟩) n cap) (hj : j < (q a).length) : LayQ w0 (w.setCell ⟨g, off + j, none⟩ u) L Q e f (qput q a ((q a).set j u)) := by
  have hob : (f a).ownBlock = some g := by rw [hf]; rfl
  have hg := (h.own a).has hob
  have hfar : ∀ b, b ≠ g → (w.setCell ⟨g, off + j, none⟩ u).heap[b]? = w.heap[b]? := fun b hb => Below.heap_setCell _ _ _ _ hb
  have hm : LayM w0 (w.setCell ⟨g, off + j, none⟩ u) L Q := by
    refine h.lm.step ⟨fun k r hk => (h.lay.own k r hk).same fun b hb => hfar b fun e1 => ?_, h.lay.ap, h.lay.bel.setCell hg.1 u⟩ (.setCell _ _ _)
    subst e1
    rcases h.row a k r hk with e2 | e2
    · rw [hob] at e2; cases e2
    · exact e2 (hob.trans hb.symm)
  refine ⟨hm, fun c => ?_, h.ap, h.row⟩
  by_cases e1 : c = a
  · subst e1
    rw [qput_same, hf]
    have := h.own c
    rw [hf] at this
    exact this.poke u hj
  · rw [qput_ne e1]
    refine (h.own c).same fun b hb => hfar b fun e2 => ?_
    subst e2
    rcases h.ap c a e1 with e3 | e3
    · rw [hb] at e3; cases e3
    · exact e3 (hb.trans hob.symm)
theorem LayQ.pick (h : LayQ w0 w L Q e f q) (p : Nat → Nat) (hp : ∀ i j, i < L'.length → j < L'.length → p i = p j → i = j) (hL : ∀ k, k < L'.length → L'[k]? = L[p k]?) : LayQ w0 w L' Q e f q :=
  h.step (h.lm.step (h.lay.pick p hp hL) (.refl _)) (fun b hb _ _ => rfl) fun k r hk g hg => .inr ⟨p k, r, by rw [← hL k (List.getElem?_eq_some_iff.1 hk).1]; exact hk, hg⟩
/-- The head goes behind the next five; the sixth is dropped. -/
theorem LayQ.rot5 {r a1 a2 a3 a4 a5 : LRow} {R : List LRow} (h : LayQ w0 w (r :: a1 :: a2 :: a3 :: a4 :: a5 :: R) Q e f q) : LayQ w0 w (a1 :: a2 :: a3 :: a4 :: a5 :: r :: R) Q e f q := by
  refine h.pick (fun k => if k < 5 then k + 1 else if k = 5 then 0 else k) (fun i j _ _ hij => ?_) fun k _ => ?_
  · split at hij <;> split at hij <;> (try split at hij) <;> (try split at hij) <;> omega
  · match k with
    | 0 | 1 | 2 | 3 | 4 | 5 => rfl
    | k + 6 =>
      rw [if_neg (by omega), if_neg (by omega)]; rfl
theorem LayQ.drop5 {r a1 a2 a3 a4 a5 : LRow} {R : List LRow} (h : LayQ w0 w (a1 :: a2 :: a3 :: a4 :: a5 :: r :: R) Q e f q) : LayQ w0 w (a1 :: a2 :: a3 :: a4 :: a5 :: R) Q e f q := by
  refine h.pick (fun k => if k < 5 then k else k + 1) (fun i j _ _ hij => ?_) fun k _ => ?_
  · split at hij <;> split at hij <;> omega
  · match k with
    | 0 | 1 | 2 | 3 | 4 => rfl
    | k + 5 =>
      rw [if_neg (by omega)]; rfl
/-- The head goes behind the next two; the third is dropped. -/
theorem LayQ.rot2 {r a1 a2 : LRow} {R : List LRow} (h : LayQ w0 w (r :: a1 :: a2 :: R) Q e f q) : LayQ w0 w (a1 :: a2 :: r :: R) Q e f q := by
  refine h.pick (fun k => if k < 2 then k + 1 else if k = 2 then 0 else k) (fun i j _ _ hij => ?_) fun k _ => ?_
  · split at hij <;> split at hij <;> (try split at hij) <;> (try split at hij) <;> omega
  · match k with
    | 0 | 1 | 2 => rfl
    | k + 3 =>
      rw [if_neg (by omega), if_neg (by omega)]; rfl
theorem LayQ.drop2 {r a1 a2 : LRow} {R : List LRow} (h : LayQ w0 w (a1 :: a2 :: r :: R) Q e f q) : LayQ w0 w (a1 :: a2 :: R) Q e f q := by
  refine h.pick (fun k => if k < 2 then k else k + 1) (fun i j _ _ hij => ?_) fun k _ => ?_
  · split at hij <;> split at hij <;> omega
  · match k with
    | 0 | 1 => rfl
    | k + 2 =>
      rw [if_neg (by omega)]; rfl
/-- The head goes behind the next three; the fourth is dropped. -/
theorem LayQ.rot3 {r a1 a2 a3 : LRow} {R : List LRow} (h : LayQ w0 w (r :: a1 :: a2 :: a3 :: R) Q e f q) : LayQ w0 w (a1 :: a2 :: a3 :: r :: R) Q e f q := by
  refine h.pick (fun k => if k < 3 then k + 1 else if k = 3 then 0 else k) (fun i j _ _ hij => ?_) fun k _ => ?_
  · split at hij <;> split at hij <;> (try split at hij) <;> (try split at hij) <;> omega
  · match k with
    | 0 | 1 | 2 | 3 => rfl
    | k + 4 =>
      rw [if_neg (by omega), if_neg (by omega)]; rfl
theorem LayQ.drop3 {r a1 a2 a3 : LRow} {R : List LRow} (h : LayQ w0 w (a1 :: a2 :: a3 :: r :: R) Q e f q) : LayQ w0 w (a1 :: a2 :: a3 :: R) Q e f q := by
  refine h.pick (fun k => if k < 3 then k else k + 1) (fun i j _ _ hij => ?_) fun k _ => ?_
  · split at hij <;> split at hij <;> omega
  · match k with
    | 0 | 1 | 2 => rfl
    | k + 3 =>
      rw [if_neg (by omega)]; rfl
theorem at_layQ {F : World → Prop} (h : LayQ w0 w L Q e f q) (hF : ∀ W, LayQ w0 W L Q e f q → F W) : F w := hF w h
/-- A queue is given a slice whose block is new. -/
theorem LayQ.fresh [DecidableEq α] (h : LayQ w0 w L Q e f q) (a : α) {v' : Value} {xs' : List Value} (hb : Below w.heap.size w w') (ho : QSl w' w0.heap.size (e a) v' xs') (hv : ∀ g, v'.ownBlock = some g → w.heap.size ≤ g) : LayQ w0 w' L Q e (fput f a v') (qput q a xs') := by
  have hk := h.keep hb
  refine ⟨hk.lm, fun c => ?_, fun c d hcd => ?_, fun c k r hkr => ?_⟩
  · by_cases e1 : c = a
    · subst e1; rw [fput_same, qput_same]; exact ho
    · rw [fput_ne e1, qput_ne e1]; exact hk.own c
  · by_cases e1 : c = a
    · subst e1
      rw [fput_same, fput_ne (fun e2 => hcd e2.symm)]
      cases hg : v'.ownBlock with
      | none => exact .inl rfl
      | some g =>
        refine .inr fun e2 => ?_
        have h1 := ((h.own d).has e2.symm).2.1
        have h2 := hv g hg
        omega
    · rw [fput_ne e1]
      by_cases e2 : d = a
      · subst e2
        rw [fput_same]
        cases hg : (f c).ownBlock with
        | none => exact .inl rfl
        | some g =>
          refine .inr fun e3 => ?_
          have h1 := ((h.own c).has hg).2.1
          have h2 := hv g e3.symm
          omega
      · rw [fput_ne e2]; exact h.ap c d hcd
  · by_cases e1 : c = a
    · subst e1
      rw [fput_same]
      cases hg : v'.ownBlock with
      | none => exact .inl rfl
      | some g =>
        refine .inr fun e2 => ?_
        have h1 := (h.lay.lt hkr g e2.symm).2
        have h2 := hv g hg
        omega
    · rw [fput_ne e1]; exact h.row c k r hkr
/-- An array of the walk's own, as a queue. -/
theorem own_qsl {w : World} {base : Nat} {ty : TypeId} {g n cap : Nat} {F : Nat → Value} {xs : List Value} (h : Own w base ty 1 (some ⟨g, 0, none⟩) n cap F) (hl : xs.length = n) (hx : ∀ j, j < n → xs[j]? = some (F j)) : QSl w base ty (.slice (some ⟨g, 0, none⟩) n cap) xs := by
  rcases h with ⟨h1, _⟩ | ⟨g', cur, h1, h2, h3, h4, h5, h6, h7⟩
  · cases h1
  · injection h1 with h1
    injection h1 with h1
    subst h1
    refine .inr ⟨g, 0, cap, cur, by rw [hl], h2, h3, by rw [hl]; exact h4, h5, by omega, ?_⟩
    rw [List.drop_zero, hl]
    apply List.ext_getElem?
    intro i
    by_cases hi : i < n
    · rw [List.getElem?_take_of_lt hi, hx i hi, Array.getElem?_toList]
      exact h7 i (by omega)
    · rw [List.getElem?_eq_none (by simp; omega), List.getElem?_eq_none (by omega)]
end
end Go.Proofs.Ytcmbbioipbdonaa
