/- A region that draws its order, makes blocks and calls: whatever order is picked, what is said of each yield stays true, and the blocks are new and differ. -/
import Derived.Test.YtfdgjbanajodfaaDoorNew
import Derived.Test.YtfdgjbanajodfaaDoorLayM
set_option linter.unusedVariables false
set_option linter.unusedSimpArgs false
namespace Go.Proofs.YtfdgjbanajodfaaDoor
open Go.RowKit

structure NF (w0 : World) (H : List Nat) (nw : Nat → Bool) (F : Nat → Value → Nat → World → Prop) (γ : Nat → Nat) (L : Nat → Bool) (y : Nat → Value) (w : World) : Prop where
  bel : Below w0.heap.size w0 w
  fact : ∀ i ∈ H, L i = true → F i (y i) (γ i) w ∧ (nw i = true → w0.heap.size ≤ γ i ∧ γ i < w.heap.size)
  apart : ∀ i ∈ H, ∀ j ∈ H, i ≠ j → L i = true → L j = true → nw i = true → nw j = true → γ i ≠ γ j

theorem wp_newF {P : Program} {Q : Exit → Act → World → Prop} {id : Nat} {a0 : Act} {w : World} {l : List Oper} (H D T : List Nat) (n : Nat) (nw : Nat → Bool) (F : Nat → Value → Nat → World → Prop)
    (hm : P.follows .mixedOrders = true) (hB : freeB .any l.toArray H T = true) (hD : H.map (dstOf l.toArray) = D) (hnd : D.Nodup) (hsz : (D.all fun d => decide (d < a0.tmps.size)) = true) (hT : T.map (l.toArray[·]?) = (l.drop n).map some)
    (hkeep : ∀ i v g (w1 w2 : World), F i v g w1 → Below w1.heap.size w1 w2 → F i v g w2)
    (hext : ∀ i ∈ H, ∀ o, l.toArray[i]? = some o → ∀ (a : Act) w1, Below w.heap.size w w1 → (∀ k, k ∉ D → a.tmps[k]?.getD undef = a0.tmps[k]?.getD undef) →
      (∀ j d, waitB o j = true → dstOf l.toArray j = d → ∃ g, F j (a.tmps[d]?.getD undef) g w1) → Does P o a w1 fun v w2 => Below w1.heap.size w1 w2 ∧ ∃ g, F i v g w2 ∧ (nw i = true → w1.heap.size ≤ g ∧ g < w2.heap.size))
    (hend : ∀ (y : Nat → Value) (γ : Nat → Nat) (w' : World), Below w.heap.size w w' → (∀ i ∈ H, F i (y i) (γ i) w') → (∀ i ∈ H, nw i = true → w.heap.size ≤ γ i ∧ γ i < w'.heap.size) → (∀ i ∈ H, ∀ j ∈ H, i ≠ j → nw i = true → nw j = true → γ i ≠ γ j) →
      wpList P l.toArray Q (l.drop n) ((H.zip D).foldl (fun b p => b.put (some p.2) (y p.1)) a0) w') :
    (Code.region id l.toArray true).wp P Q a0 w := by
  refine wp_region_any hm ?_
  have hcnt : ∀ n, cntN (fun k => (Array.replicate l.toArray.size false).getD k false) n = n := by
    intro n
    induction n with
    | zero => rfl
    | succ n ih => rw [cntN, ih, getD_replicate_false]; rfl
  have hmaskT : ∀ i ∈ H, (maskOf l.toArray.size H).getD i false = true := by
    intro i hi
    have hlt : i < l.toArray.size := by
      simp only [freeB, Bool.and_eq_true, List.all_eq_true] at hB
      obtain ⟨_, _, hlt, _⟩ := headB_spec (hB.2.1 i hi)
      exact hlt
    have hlt' : i < l.length := by simpa using hlt
    simp [maskOf, List.getElem?_range hlt', hi]
  have hnd' : (H.map (dstOf l.toArray)).Nodup := by rw [hD]; exact hnd
  refine free_any H T (l.drop n) a0 (fun L y w' => ∃ γ, NF w H nw F γ L y w') (fun L y y' w' hy ⟨γ, h⟩ => ⟨γ, h.bel, fun i hi hL => by rw [← hy i hi]; exact h.fact i hi hL, h.apart⟩) hB hnd'
    (fun i hi => by simpa using List.all_eq_true.1 hsz _ (by rw [← hD]; exact List.mem_map.2 ⟨i, hi, rfl⟩)) hT ?_
    (fun y w' ⟨γ, hy⟩ => by
      rw [zip_fold, hD]
      exact hend y γ w' hy.bel (fun i hi => (hy.fact i hi (hmaskT i hi)).1) (fun i hi => (hy.fact i hi (hmaskT i hi)).2) (fun i hi j hj hne h1 h2 => hy.apart i hi j hj hne (hmaskT i hi) (hmaskT j hj) h1 h2))
    l.toArray.size _ _ _ (by simp) (hcnt _) (fun t _ => getD_replicate_false _ _)
    (fun i o _ h => (by rw [getD_replicate_false] at h; cases h)) ⟨rfl, rfl, fun _ _ => rfl, fun _ => 0, ⟨rfl, rfl, rfl, Nat.le_refl _, fun _ _ => rfl⟩, fun i _ h => (by rw [getD_replicate_false] at h; cases h), fun i _ j _ _ h => (by rw [getD_replicate_false] at h; cases h)⟩
  intro i hi o ho L a w1 hLi hpre hI
  obtain ⟨γ, hN⟩ := hI.fact
  have hold : ∀ k, k ∉ D → a.tmps[k]?.getD undef = a0.tmps[k]?.getD undef := by
    intro k hk
    rw [hI.old k fun j hj e => hk (by rw [← hD, ← e]; exact List.mem_map.2 ⟨j, hj, rfl⟩)]
  have hfact : ∀ j d, waitB o j = true → dstOf l.toArray j = d → ∃ g, F j (a.tmps[d]?.getD undef) g w1 := by
    intro j d hj hd
    obtain ⟨e, he, hb, hon⟩ := waitB_spec hj
    obtain ⟨h1, h2⟩ := hpre e he hb
    rw [hon] at h1 h2
    refine ⟨γ j, ?_⟩
    rw [← hd, ← Array.getD_eq_getD_getElem?]
    exact (hN.fact j h2 h1).1
  refine (hext i hi o ho a w1 hN.bel hold hfact).mono fun v w2 ⟨hb2, g, hF, hnew⟩ => ?_
  have hsz2 := hb2.size
  refine ⟨fun j => if j = i then g else γ j, hN.bel.trans (hb2.mono hN.bel.size), fun j hj hLj => ?_, fun j hj k hk hne h1 h2 n1 n2 => ?_⟩
  · unfold yset
    by_cases e : j = i
    · subst e
      simp only [if_true]
      exact ⟨hF, fun hn => by have := hnew hn; have := hN.bel.size; omega⟩
    · simp only [if_neg e]
      obtain ⟨q1, q2⟩ := hN.fact j hj (by simpa [lset, e] using hLj)
      exact ⟨hkeep _ _ _ _ _ q1 hb2, fun hn => by have := q2 hn; omega⟩
  · by_cases e1 : j = i
    · subst e1
      have e2 : k ≠ j := Ne.symm hne
      simp only [if_true, if_neg e2]
      have q1 := (hN.fact k hk (by simpa [lset, e2] using h2)).2 n2
      have q2 := hnew n1
      omega
    · by_cases e2 : k = i
      · subst e2
        simp only [if_true, if_neg e1]
        have q1 := (hN.fact j hj (by simpa [lset, e1] using h1)).2 n1
        have q2 := hnew n2
        omega
      · simp only [if_neg e1, if_neg e2]
        exact hN.apart j hj k hk hne (by simpa [lset, e1] using h1) (by simpa [lset, e2] using h2) n1 n2

/-- A value that stays. -/
def isV (u : Value) : Value → Nat → World → Prop := fun v _ _ => v = u
/-- A new block's value. -/
def isNewV (f : Nat → Value) (ob : Obj) : Value → Nat → World → Prop := fun v g w => v = f g ∧ w.heap[g]? = some ob
/-- A row that a call has made. -/
def isRow (s : Nat) (ty : TypeId) (sz n : Nat) (Fv : Nat → Value) : Value → Nat → World → Prop := fun v g w => ∃ cp, v = .slice (some ⟨g, 0, none⟩) n cp ∧ Own w s ty sz (some ⟨g, 0, none⟩) n cp Fv
theorem isV_keep {u : Value} {v : Value} {g : Nat} {w1 w2 : World} (h : isV u v g w1) : isV u v g w2 := h
theorem isNewV_keep {f : Nat → Value} {ob : Obj} {v : Value} {g : Nat} {w1 w2 : World} (h : isNewV f ob v g w1) (hb : Below w1.heap.size w1 w2) : isNewV f ob v g w2 :=
  ⟨h.1, (hb.block g (Array.getElem?_eq_some_iff.1 h.2).1).trans h.2⟩
theorem isRow_keep {s : Nat} {ty : TypeId} {sz n : Nat} {Fv : Nat → Value} {v : Value} {g : Nat} {w1 w2 : World} (h : isRow s ty sz n Fv v g w1) (hb : Below w1.heap.size w1 w2) : isRow s ty sz n Fv v g w2 := by
  obtain ⟨cp, h1, h2⟩ := h
  exact ⟨cp, h1, h2.below hb fun k hk => (h2.lt k hk).2⟩
theorem does_move {P : Program} {o : Oper} {a : Act} {w : World} (x : Operand) {v : Value} (ho : o.op = .move x) (hx : a.eval x = v) : Does P o a w fun u w2 => Below w.heap.size w w2 ∧ ∃ g, isV v u g w2 ∧ (false = true → w.heap.size ≤ g ∧ g < w2.heap.size) := by
  refine does_run (w' := w) (v := v) ?_ ⟨Below.refl _ _, 0, rfl, fun h => by cases h⟩
  unfold execOp
  simp only [ho, hx]
  rfl
theorem does_new {P : Program} {o : Oper} {a : Act} {w : World} {f : Nat → Value} {ob : Obj} (h : (execOp a.eval o).run P w = .ok (.value (f w.heap.size)) (w.alloc ob)) (b : Bool) : Does P o a w fun u w2 => Below w.heap.size w w2 ∧ ∃ g, isNewV f ob u g w2 ∧ (b = true → w.heap.size ≤ g ∧ g < w2.heap.size) :=
  does_run h ⟨(Below.refl _ _).alloc (Nat.le_refl _) _, _, ⟨rfl, heap_alloc_new w _⟩, fun _ => ⟨Nat.le_refl _, by simp⟩⟩
/-- A map that stands already. -/
theorem LayM.oldM {w0 w : World} {L : List LRow} {Q : List MRow} (h : LayM w0 w L Q) (φ : Array MapEntry → Nat → Prop) (hφ : φ #[] 0) (b : Nat) (hb0 : w0.heap.size ≤ b) (hb : w.heap[b]? = some (.map #[] 0)) (hn : ∀ (i : Nat) (q : MRow), Q[i]? = some q → q.b ≠ b) : LayM w0 w L (⟨b, φ⟩ :: Q) := by
  refine ⟨h.lay, fun i q hi => ?_, fun i j q r hij hi hj => ?_⟩
  · rcases i with _ | i
    · obtain rfl : _ = q := by simpa using hi
      exact ⟨hb0, #[], 0, hb, hφ⟩
    · exact h.map i q hi
  · rcases i with _ | i
    · obtain rfl : _ = q := by simpa using hi
      rcases j with _ | j
      · exact absurd rfl hij
      · exact fun e => hn j r hj e.symm
    · rcases j with _ | j
      · obtain rfl : _ = r := by simpa using hj
        exact hn i q hi
      · exact h.ap i j q r (by omega) hi hj
end Go.Proofs.YtfdgjbanajodfaaDoor
