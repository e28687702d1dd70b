/- A region that draws its order and makes blocks: whatever order is picked, the blocks are new and differ; the other operations of its head yield what they always yield. -/
import Derived.Test.YtfdgjbanajodfaaDoorFree
import Derived.Test.YtfdgjbanajodfaaDoorLay
set_option linter.unusedVariables false
set_option linter.unusedSimpArgs false
namespace Go.Proofs.YtfdgjbanajodfaaDoor
open Go.RowKit

/-- What an operation yields: that value; or (a function of) a new block that holds an object. -/
inductive NSpec where
  | val (v : Value)
  | new (f : Nat → Value) (ob : Obj)
def NSpec.isNew : NSpec → Bool
  | .val _ => false
  | .new _ _ => true
def NSpec.Holds (s : Nat) (v : Value) (g : Nat) (w : World) : NSpec → Prop
  | .val u => v = u
  | .new f ob => v = f g ∧ s ≤ g ∧ w.heap[g]? = some ob
def NSpec.Run (P : Program) (o : Oper) (a : Act) (w : World) : NSpec → Prop
  | .val u => (execOp a.eval o).run P w = .ok (.value u) w
  | .new f ob => (execOp a.eval o).run P w = .ok (.value (f w.heap.size)) (w.alloc ob)
structure NG (w0 : World) (H : List Nat) (sp : Nat → NSpec) (γ : Nat → Nat) (L : Nat → Bool) (y : Nat → Value) (w : World) : Prop where
  bel : Below w0.heap.size w0 w
  fact : ∀ i ∈ H, L i = true → (sp i).Holds w0.heap.size (y i) (γ i) w
  apart : ∀ i ∈ H, ∀ j ∈ H, i ≠ j → L i = true → L j = true → (sp i).isNew = true → (sp j).isNew = true → γ i ≠ γ j
theorem nspec_lt {s : Nat} {v : Value} {g : Nat} {w : World} {sp : NSpec} (h : sp.Holds s v g w) (hn : sp.isNew = true) : g < w.heap.size := by
  cases sp with
  | val u => cases hn
  | new f ob => exact (Array.getElem?_eq_some_iff.1 h.2.2).1

theorem wp_news {P : Program} {Q : Exit → Act → World → Prop} {id : Nat} {a0 : Act} {w : World} {l : List Oper} (H D T : List Nat) (n : Nat) (sp : Nat → NSpec)
    (hm : P.follows .mixedOrders = true) (hB : freeB .any l.toArray H T = true) (hD : H.map (dstOf l.toArray) = D) (hnd : D.Nodup) (hsz : (D.all fun d => decide (d < a0.tmps.size)) = true) (hT : T.map (l.toArray[·]?) = (l.drop n).map some)
    (hext : ∀ i ∈ H, ∀ o, l.toArray[i]? = some o → ∀ (a : Act) w1, Below w.heap.size w w1 → (∀ k, k ∉ D → a.tmps[k]?.getD undef = a0.tmps[k]?.getD undef) →
      (∀ j d v, waitB o j = true → dstOf l.toArray j = d → sp j = .val v → a.tmps[d]?.getD undef = v) → (sp i).Run P o a w1)
    (hend : ∀ (y : Nat → Value) (γ : Nat → Nat) (w' : World), Below w.heap.size w w' → (∀ i ∈ H, (sp i).Holds w.heap.size (y i) (γ i) w') → (∀ i ∈ H, ∀ j ∈ H, i ≠ j → (sp i).isNew = true → (sp j).isNew = true → γ i ≠ γ j) →
      wpList P l.toArray Q (l.drop n) ((H.zip D).foldl (fun b p => b.put (some p.2) (y p.1)) a0) w') :
    (Code.region id l.toArray true).wp P Q a0 w := by
  refine wp_region_any hm ?_
  have hcnt : ∀ n, cntN (fun k => (Array.replicate l.toArray.size false).getD k false) n = n := by
    intro n
    induction n with
    | zero => rfl
    | succ n ih => rw [cntN, ih, getD_replicate_false]; rfl
  have hmaskT : ∀ i ∈ H, (maskOf l.toArray.size H).getD i false = true := by
    intro i hi
    have hlt : i < l.toArray.size := by
      simp only [freeB, Bool.and_eq_true, List.all_eq_true] at hB
      obtain ⟨_, _, hlt, _⟩ := headB_spec (hB.2.1 i hi)
      exact hlt
    have hlt' : i < l.length := by simpa using hlt
    simp [maskOf, List.getElem?_range hlt', hi]
  have hnd' : (H.map (dstOf l.toArray)).Nodup := by rw [hD]; exact hnd
  refine free_any H T (l.drop n) a0 (fun L y w' => ∃ γ, NG w H sp γ L y w') (fun L y y' w' hy ⟨γ, h⟩ => ⟨γ, h.bel, fun i hi hL => by rw [← hy i hi]; exact h.fact i hi hL, h.apart⟩) hB hnd'
    (fun i hi => by simpa using List.all_eq_true.1 hsz _ (by rw [← hD]; exact List.mem_map.2 ⟨i, hi, rfl⟩)) hT ?_
    (fun y w' ⟨γ, hy⟩ => by
      rw [zip_fold, hD]
      exact hend y γ w' hy.bel (fun i hi => hy.fact i hi (hmaskT i hi)) (fun i hi j hj hne h1 h2 => hy.apart i hi j hj hne (hmaskT i hi) (hmaskT j hj) h1 h2))
    l.toArray.size _ _ _ (by simp) (hcnt _) (fun t _ => getD_replicate_false _ _)
    (fun i o _ h => (by rw [getD_replicate_false] at h; cases h)) ⟨rfl, rfl, fun _ _ => rfl, fun _ => 0, ⟨rfl, rfl, rfl, Nat.le_refl _, fun _ _ => rfl⟩, fun i _ h => (by rw [getD_replicate_false] at h; cases h), fun i _ j _ _ h => (by rw [getD_replicate_false] at h; cases h)⟩
  intro i hi o ho L a w1 hLi hpre hI
  obtain ⟨γ, hN⟩ := hI.fact
  have hold : ∀ k, k ∉ D → a.tmps[k]?.getD undef = a0.tmps[k]?.getD undef := by
    intro k hk
    rw [hI.old k fun j hj e => hk (by rw [← hD, ← e]; exact List.mem_map.2 ⟨j, hj, rfl⟩)]
  have hfact : ∀ j d v, waitB o j = true → dstOf l.toArray j = d → sp j = .val v → a.tmps[d]?.getD undef = v := by
    intro j d v hj hd hv
    obtain ⟨e, he, hb, hon⟩ := waitB_spec hj
    obtain ⟨h1, h2⟩ := hpre e he hb
    rw [hon] at h1 h2
    have := hN.fact j h2 h1
    rw [hv] at this
    rw [← hd, ← Array.getD_eq_getD_getElem?]
    exact this
  have hrun := hext i hi o ho a w1 hN.bel hold hfact
  have ylt : ∀ j, j ∈ H → L j = true → (sp j).isNew = true → γ j < w1.heap.size := fun j hj hLj hn => nspec_lt (hN.fact j hj hLj) hn
  cases hs : sp i with
  | val v =>
    rw [hs] at hrun
    refine does_run hrun ⟨γ, hN.bel, fun j hj hLj => ?_, fun j hj k hk hne h1 h2 n1 n2 => ?_⟩
    · unfold yset
      by_cases e : j = i
      · subst e
        rw [if_pos rfl, hs]
        rfl
      · rw [if_neg e]
        exact hN.fact j hj (by simpa [lset, e] using hLj)
    · have e1 : j ≠ i := fun e => by rw [e, hs] at n1; cases n1
      have e2 : k ≠ i := fun e => by rw [e, hs] at n2; cases n2
      exact hN.apart j hj k hk hne (by simpa [lset, e1] using h1) (by simpa [lset, e2] using h2) n1 n2
  | new f ob =>
    rw [hs] at hrun
    refine does_run hrun ⟨fun j => if j = i then w1.heap.size else γ j, hN.bel.alloc hN.bel.size _, fun j hj hLj => ?_, fun j hj k hk hne h1 h2 n1 n2 => ?_⟩
    · unfold yset
      by_cases e : j = i
      · subst e
        simp only [if_true]
        rw [hs]
        exact ⟨rfl, hN.bel.size, heap_alloc_new w1 _⟩
      · simp only [if_neg e]
        have := hN.fact j hj (by simpa [lset, e] using hLj)
        revert this
        cases sp j with
        | val u => exact fun h => h
        | new f' ob' => exact fun ⟨h1, h2, h3⟩ => ⟨h1, h2, (Below.heap_alloc _ _ _ (Array.getElem?_eq_some_iff.1 h3).1).trans h3⟩
    · by_cases e1 : j = i
      · subst e1
        have e2 : k ≠ j := Ne.symm hne
        simp only [if_true, if_neg e2]
        have := ylt k hk (by simpa [lset, e2] using h2) n2
        omega
      · by_cases e2 : k = i
        · subst e2
          simp only [if_true, if_neg e1]
          have := ylt j hj (by simpa [lset, e1] using h1) n1
          omega
        · simp only [if_neg e1, if_neg e2]
          exact hN.apart j hj k hk hne (by simpa [lset, e1] using h1) (by simpa [lset, e2] using h2) n1 n2

/-- New rows, told by their blocks. -/
theorem Lay.row_at {w0 w w' : World} {L : List LRow} (h : Lay w0 w L) {g : Nat} {cs : Array Value} {ty : TypeId} {sz n : Nat} {F : Nat → Value} (hg : w.heap.size ≤ g) (ho : w'.heap[g]? = some (.cells cs ty (0, 0))) (hs : cs.size = n * sz) (hn : n ≤ maxLen) (hf : ∀ j, j < n * sz → cs[j]? = some (F j)) :
    Own w' w0.heap.size ty sz (some ⟨g, 0, none⟩) n n F := .inr ⟨g, cs, rfl, Nat.le_trans h.size hg, ho, Nat.le_refl _, hn, hs, hf⟩
theorem Lay.arr_at {w0 w w' : World} {L : List LRow} (h : Lay w0 w L) {g : Nat} {z : Value} (hz : z.cells = #[z]) {ty : TypeId} {n : Nat} {F : Nat → Value} (hg : w.heap.size ≤ g) (ho : w'.heap[g]? = some (.cells (madeCells z.cells n) ty (0, 0))) (hn : n ≤ maxLen) (hF : ∀ j, j < n → F j = z) :
    Own w' w0.heap.size ty 1 (some ⟨g, 0, none⟩) n n F := h.row_at hg ho (by rw [(made_cells z n hz).1]; omega) hn (fun j hj => by rw [(made_cells z n hz).2 j (by omega), hF j (by omega)])
/-- Some new rows. -/
theorem Lay.rows {w0 w w' : World} {L : List LRow} (h : Lay w0 w L) (hb : Below w.heap.size w w') : ∀ (rows : List LRow), (∀ r ∈ rows, Own w' w0.heap.size r.ty r.sz r.a r.n r.cap r.F ∧ ∃ g, ablock r.a = some g ∧ w.heap.size ≤ g) → (rows.map fun r => ablock r.a).Nodup → Lay w0 w' (rows ++ L)
  | [], _, _ => h.keep hb
  | r :: rows, hr, hn => by
    rw [List.map_cons, List.nodup_cons] at hn
    obtain ⟨ho, g, hg, hl⟩ := hr r (List.mem_cons_self ..)
    refine (h.rows hb rows (fun s hs => hr s (List.mem_cons_of_mem _ hs)) hn.2).cons ho fun i s hs => .inr fun e => ?_
    rcases List.mem_append.1 (List.mem_of_getElem? hs) with h1 | h1
    · exact hn.1 (List.mem_map.2 ⟨s, h1, e.symm⟩)
    · obtain ⟨k, hk⟩ := List.getElem?_of_mem h1
      have := (h.lt hk g (by rw [← e]; exact hg)).2
      omega
theorem eval_tmp {a : Act} {k : Nat} {v : Value} (h : a.tmps[k]?.getD undef = v) : a.eval (.tmp k) = v := by
  show a.tmps.getD k undef = v
  rw [Array.getD_eq_getD_getElem?]; exact h
theorem nspec_move {P : Program} {o : Oper} {a : Act} {w : World} (x : Operand) {v : Value} (ho : o.op = .move x) (hx : a.eval x = v) : (NSpec.val v).Run P o a w := by
  show (execOp a.eval o).run P w = _
  unfold execOp
  simp only [ho, hx]
  rfl
theorem nspec_mk {P : Program} {o : Oper} {a : Act} {w : World} (t : TypeId) (x : Operand) (ho : o.op = .makeSlice t x x) (e : TypeId) (i : TypeInfo) (z : Value) (bytes : Nat) (ht : P.underlying t = some (.slice e)) (hi : P.info? e = some i) (hz : i.zero = some z) (hs : i.size = 1) (hby : i.bytes = bytes)
    {n : Nat} (hx : a.eval x = .int .i64 n) (hn : n ≤ 1000) (hb : bytes ≤ 1000) : (NSpec.new (fun g => .slice (some ⟨g, 0, none⟩) n n) (.cells (madeCells z.cells n) e)).Run P o a w := by
  have hrun := run_make (P := P) w t e i z ht hi hz .i64 .i64 n n (by omega) (by omega) (by rw [hby, ← Int.natCast_mul]; have := Nat.mul_le_mul hb hn; omega) (by omega)
  show (execOp a.eval o).run P w = _
  simp only [execOp, ho, hx, Sem.run_bind, hrun, Result.andThen_ok, Sem.run_pure]
  simp only [Int.toNat_natCast, hs, Nat.mul_one]
end Go.Proofs.YtfdgjbanajodfaaDoor
