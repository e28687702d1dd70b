/- Rows that grow by one element each in one statement ('a, b = append(a, x), append(b, y)'), whatever order is picked. -/
import Derived.Test.YtoakgoigamigjaaFree
set_option linter.unusedVariables false
set_option linter.unusedSimpArgs false
namespace Go.Proofs.Ytoakgoigamigjaa
open Go.RowKit

/-- A row that grows: its append, the operations that yield the row and the element's box; the row; what is true of the element. -/
structure LaneR where
  ja : Nat
  jl : Nat
  jb : Nat
  T : TypeId
  e : TypeId
  bytes : Nat
  A : Option Addr
  n : Nat
  c : Nat
  f : Nat → Value
  src : Value → World → Prop

def LX (ls : List LaneR) : Nat → Prop := fun k => ∃ r ∈ ls, ablock r.A = some k
def NewRow (s base : Nat) (r : LaneR) (v : Value) (w : World) : Prop := ∃ kv A' cap', v = .slice A' (r.n + 1) cap' ∧ r.src kv w ∧ Own w base r.e 1 A' (r.n + 1) cap' (fun i => if i < r.n then r.f i else kv) ∧ (ablock A' = ablock r.A ∨ ∃ k, ablock A' = some k ∧ s ≤ k)
def BoxOf (s : Nat) (e : TypeId) (src : Value → World → Prop) (v : Value) (w : World) : Prop := ∃ g kv, v = .slice (some ⟨g, 0, none⟩) 1 1 ∧ s ≤ g ∧ w.heap[g]? = some (.cells #[kv] e (0, 0)) ∧ kv.oneCell' = true ∧ src kv w
def LJ (w0 : World) (base : Nat) (ls : List LaneR) (L : Nat → Bool) (w : World) : Prop := Kept (LX ls) w0 w ∧ ∀ r ∈ ls, L r.ja = false → Own w base r.e 1 r.A r.n r.c r.f
def isLane (ls : List LaneR) (i : Nat) : Option LaneR := ls.find? fun r => r.ja == i
def LR (s base : Nat) (ls : List LaneR) (E : Nat → Value → World → Prop) (i : Nat) (v : Value) (w : World) : Prop :=
  match isLane ls i with
  | some r => NewRow s base r v w
  | none => E i v w
/-- The rows' blocks differ. -/
def LDis (ls : List LaneR) (L : Nat → Bool) (y : Nat → Value) : Prop := ∀ r ∈ ls, ∀ r' ∈ ls, r.ja ≠ r'.ja → L r.ja = true → L r'.ja = true → ∀ A n c A' n' c', y r.ja = .slice A n c → y r'.ja = .slice A' n' c' → ablock A = none ∨ ablock A ≠ ablock A'
structure LG (w0 : World) (H : List Nat) (s base : Nat) (ls : List LaneR) (E : Nat → Value → World → Prop) (L : Nat → Bool) (y : Nat → Value) (w : World) : Prop where
  inv : LJ w0 base ls L w
  fact : ∀ i ∈ H, L i = true → LR s base ls E i (y i) w
  dis : LDis ls L y
structure LaneOk (P : Program) (ops : Array Oper) (H : List Nat) (ls : List LaneR) (s : Nat) (E : Nat → Value → World → Prop) (r : LaneR) : Prop where
  inH : r.ja ∈ H
  op : (match ops[r.ja]? with | some o => waitB o r.jl && waitB o r.jb | none => false) = true
  call : ∀ o, ops[r.ja]? = some o → o.op = .call { callee := .builtin .append, args := #[.tmp (dstOf ops r.jl), .tmp (dstOf ops r.jb)], argTypes := #[r.T, r.T] }
  nl : isLane ls r.jl = none
  nb : isLane ls r.jb = none
  T : P.underlying r.T = some (.slice r.e)
  info : ∃ i z, P.info? r.e = some i ∧ i.zero = some z ∧ i.size = 1 ∧ i.bytes = r.bytes ∧ z.cells.size = 1
  h63 : r.n + 1 ≤ maxLen
  hby : (r.n + 1) * r.bytes ≤ 140737488355328
  row : ∀ v w, E r.jl v w → v = .slice r.A r.n r.c
  box : ∀ v w, E r.jb v w → BoxOf s r.e r.src v w

theorem isLane_spec {ls : List LaneR} {i : Nat} {r : LaneR} (h : isLane ls i = some r) : r ∈ ls ∧ r.ja = i := by
  unfold isLane at h
  exact ⟨List.mem_of_find?_eq_some h, by have := List.find?_some h; simpa using this⟩
theorem wp_lanes0 {P : Program} {Q : Exit → Act → World → Prop} {id : Nat} {a0 : Act} {w : World} {l : List Oper} (H T : List Nat) (lT : List Oper) (ls : List LaneR) (E : Nat → Value → World → Prop) (base : Nat)
    (hm : P.follows .mixedOrders = true) (hB : freeB .any l.toArray H T = true) (hnd : (H.map (dstOf l.toArray)).Nodup) (hsz : (H.all fun i => decide (dstOf l.toArray i < a0.tmps.size)) = true) (hT : T.map (l.toArray[·]?) = lT.map some)
    (hbase : base ≤ w.heap.size) (hown : ∀ r ∈ ls, Own w base r.e 1 r.A r.n r.c r.f)
    (hne : ∀ r ∈ ls, ∀ r' ∈ ls, r.ja ≠ r'.ja → ablock r.A = none ∨ ablock r.A ≠ ablock r'.A)
    (hinj : ∀ r ∈ ls, isLane ls r.ja = some r)
    (hok : ∀ r ∈ ls, LaneOk P l.toArray H ls w.heap.size E r)
    (hE : ∀ i ∈ H, isLane ls i = none → ∀ v w1 w2, E i v w1 → w.heap.size ≤ w1.heap.size → Kept (LX ls) w1 w2 → E i v w2)
    (hsrc : ∀ r ∈ ls, ∀ v w1 w2, r.src v w1 → w.heap.size ≤ w1.heap.size → Kept (LX ls) w1 w2 → r.src v w2)
    (hext : ∀ i ∈ H, isLane ls i = none → ∀ o, l.toArray[i]? = some o → ∀ (a : Act) w1, w.heap.size ≤ w1.heap.size → Kept (LX ls) w w1 → (∀ k, (H.all fun j => dstOf l.toArray j != k) = true → a.tmps.getD k undef = a0.tmps.getD k undef) →
      (∀ j, waitB o j = true → isLane ls j = none → E j (a.tmps.getD (dstOf l.toArray j) undef) w1) → Does P o a w1 fun v w2 => Below w1.heap.size w1 w2 ∧ E i v w2)
    (hend : ∀ (y : Nat → Value) (w' : World), (∀ i ∈ H, LR w.heap.size base ls E i (y i) w') → Kept (LX ls) w w' → LDis ls (fun _ => true) y → wpList P l.toArray Q lT (H.foldl (fun b i => b.put (some (dstOf l.toArray i)) (y i)) a0) w') :
    (Code.region id l.toArray true).wp P Q a0 w := by
  have hltA : ∀ r ∈ ls, ∀ k, ablock r.A = some k → k < w.heap.size := fun r hr k hk => ((hown r hr).lt k hk).2
  refine wp_region_any hm ?_
  have hcnt : ∀ n, cntN (fun k => (Array.replicate l.toArray.size false).getD k false) n = n := by
    intro n
    induction n with
    | zero => rfl
    | succ n ih => rw [cntN, ih, getD_replicate_false]; rfl
  have hmaskT : ∀ i ∈ H, (maskOf l.toArray.size H).getD i false = true := by
    intro i hi
    have hlt : i < l.toArray.size := by
      simp only [freeB, Bool.and_eq_true, List.all_eq_true] at hB
      obtain ⟨_, _, hlt, _⟩ := headB_spec (hB.2.1 i hi)
      exact hlt
    have hlt' : i < l.length := by simpa using hlt
    simp [maskOf, List.getElem?_range hlt', hi]
  refine free_any H T lT a0 (LG w H w.heap.size base ls E) (fun L y y' w hy h => ⟨h.inv, fun i hi hL => by rw [← hy i hi]; exact h.fact i hi hL, fun r hr r' hr' hne h1 h2 A n c A' n' c' e1 e2 => h.dis r hr r' hr' hne h1 h2 A n c A' n' c' (by rw [hy _ (hok r hr).inH]; exact e1) (by rw [hy _ (hok r' hr').inH]; exact e2)⟩) hB hnd (fun i hi => by simpa using List.all_eq_true.1 hsz i hi) hT ?_ (fun y w' hy => hend y w' (fun i hi => hy.fact i hi (hmaskT i hi)) hy.inv.1 (fun r hr r' hr' hne _ _ => hy.dis r hr r' hr' hne (hmaskT _ (hok r hr).inH) (hmaskT _ (hok r' hr').inH))) l.toArray.size _ _ _ (by simp) (hcnt _) (fun t _ => getD_replicate_false _ _)
    (fun i o _ h => (by rw [getD_replicate_false] at h; cases h)) ⟨rfl, rfl, fun _ _ => rfl, ⟨⟨rfl, rfl, rfl, Nat.le_refl _, fun _ _ _ => rfl⟩, fun r hr _ => (hown r hr).drew⟩, fun i _ h => (by rw [getD_replicate_false] at h; cases h), fun r _ r' _ _ h => (by rw [getD_replicate_false] at h; cases h)⟩
  intro i hi o ho L a w1 hLi hpre hI
  have hK := hI.fact.inv.1
  have hs := hK.size
  have hold : ∀ k, (H.all fun j => dstOf l.toArray j != k) = true → a.tmps.getD k undef = a0.tmps.getD k undef := by
    intro k hk
    rw [Array.getD_eq_getD_getElem?, Array.getD_eq_getD_getElem?, hI.old k fun j hj => by simpa using List.all_eq_true.1 hk j hj]
  have hfact : ∀ j, waitB o j = true → isLane ls j = none → E j (a.tmps.getD (dstOf l.toArray j) undef) w1 := by
    intro j hj hn
    obtain ⟨e, he, hb, hon⟩ := waitB_spec hj
    obtain ⟨h1, h2⟩ := hpre e he hb
    rw [hon] at h1 h2
    have := hI.fact.fact j h2 h1
    unfold LR at this
    rw [hn] at this
    exact this
  cases hl : isLane ls i with
  | none =>
    refine (hext i hi hl o ho a w1 hs hK hold hfact).mono fun v w2 ⟨hb, hv⟩ => ?_
    have hk2 : Kept (LX ls) w1 w2 := Kept.of_below hb
    refine ⟨⟨hK.trans hk2, fun r hr hLr => ?_⟩, fun j hj hLj => ?_, fun r hr r' hr' hne2 h1 h2 A n c A' n' c' e1 e2 => ?_⟩
    · have hri : r.ja ≠ i := by
        intro e
        have := hinj r hr
        rw [e, hl] at this
        cases this
      have : L r.ja = false := by simpa [lset, hri] using hLr
      have ho1 := hI.fact.inv.2 r hr this
      exact ho1.below hb fun k hk => (ho1.lt k hk).2
    · unfold yset
      by_cases hji : j = i
      · subst hji
        rw [if_pos rfl]
        unfold LR
        rw [hl]
        exact hv
      · rw [if_neg hji]
        have hLj' : L j = true := by simpa [lset, hji] using hLj
        have hu := hI.fact.fact j hj hLj'
        unfold LR at hu ⊢
        cases hlj : isLane ls j with
        | none =>
          rw [hlj] at hu
          exact hE j hj hlj _ w1 w2 hu hs hk2
        | some r =>
          rw [hlj] at hu
          obtain ⟨kv, A', cap', e, h1, h2, h3⟩ := hu
          exact ⟨kv, A', cap', e, hsrc r (isLane_spec hlj).1 kv w1 w2 h1 hs hk2, h2.below hb fun k hk => (h2.lt k hk).2, h3⟩
    · have hri : ∀ q ∈ ls, q.ja ≠ i := by
        intro q hq e
        have := hinj q hq
        rw [e, hl] at this
        cases this
      have n1 := hri r hr
      have n2 := hri r' hr'
      unfold yset at e1 e2
      rw [if_neg n1] at e1
      rw [if_neg n2] at e2
      exact hI.fact.dis r hr r' hr' hne2 (by simpa [lset, n1] using h1) (by simpa [lset, n2] using h2) A n c A' n' c' e1 e2
  | some r =>
    obtain ⟨hr, hri⟩ := isLane_spec hl
    have hO := hok r hr
    have hcall := hO.call o (by rw [hri]; exact ho)
    have hop := hO.op
    rw [hri, ho] at hop
    simp only [Bool.and_eq_true] at hop
    have f1 := hO.row _ _ (hfact r.jl hop.1 hO.nl)
    obtain ⟨g, kv, f2, hg, hgc, hone, hsv⟩ := hO.box _ _ (hfact r.jb hop.2 hO.nb)
    have hown1 := hI.fact.inv.2 r hr (by rw [hri]; exact hLi)
    obtain ⟨inf, z, hi1, hi2, hi3, hi4, hi5⟩ := hO.info
    have hrd : Rd w1 w1.heap.size (some ⟨g, 0, none⟩) (1 * 1) (fun _ => kv) := by
      intro _
      refine ⟨_, rfl, (Array.getElem?_eq_some_iff.1 hgc).1, fun j hj => ?_⟩
      obtain rfl : j = 0 := by omega
      show w1.cell? ⟨g, 0, none⟩ = _
      rw [cell_of_row _ _ _ _ _ _ hgc]
      rfl
    obtain ⟨A', cap', w2, hrun, h2, h3, h4⟩ := run_ap (P := P) w1 r.T o.type r.e inf z 1 r.bytes hO.T hi1 hi2 hi3 hi4 hi5 (by omega) base hown1 hrd (fun _ _ => hone) (fun i => if i < r.n then r.f i else kv)
      (fun j hj => by rw [Nat.mul_one] at hj; rw [if_pos hj]) (fun j hj => by obtain rfl : j = 0 := by omega
                                                                              rw [Nat.mul_one, if_neg (by omega)]) hO.h63 hO.hby (by omega) (c := 1)
    have hk2 : Kept (LX ls) w1 w2 := (Kept.refl _ _).grown h3 fun k hk => .inl ⟨r, hr, hk⟩
    refine does_run (v := .slice A' (r.n + 1) cap') (w' := w2) ?_ ⟨⟨hK.trans hk2, fun r' hr' hLr => ?_⟩, fun j hj hLj => ?_, fun q hq q' hq' hne2 h5 h6 B n c B' n' c' e1 e2 => ?_⟩
    · unfold execOp
      have e1 : a.eval (.tmp (dstOf l.toArray r.jl)) = .slice r.A r.n r.c := f1
      have e2 : a.eval (.tmp (dstOf l.toArray r.jb)) = .slice (some ⟨g, 0, none⟩) 1 1 := f2
      simp only [hcall, resolve, invoke, builtin, Sem.run_bind, Sem.run_pure, Result.andThen_ok, List.map_toArray, List.map_cons, List.map_nil, e1, e2, hrun]
    · have hne2 : r'.ja ≠ i := by
        intro e
        rw [e] at hLr
        simp [lset] at hLr
      have h5 : L r'.ja = false := by simpa [lset, hne2] using hLr
      exact (hI.fact.inv.2 r' hr' h5).grown h3 (hne r' hr' r hr (by rw [hri]; exact hne2))
    · unfold yset
      by_cases hji : j = i
      · subst hji
        rw [if_pos rfl]
        unfold LR
        rw [hl]
        exact ⟨kv, A', cap', rfl, hsrc r hr kv w1 w2 hsv hs hk2, h2, h4.imp_right fun h => ⟨_, h, hs⟩⟩
      · rw [if_neg hji]
        have hLj' : L j = true := by simpa [lset, hji] using hLj
        have hu := hI.fact.fact j hj hLj'
        unfold LR at hu ⊢
        cases hlj : isLane ls j with
        | none =>
          rw [hlj] at hu
          exact hE j hj hlj _ w1 w2 hu hs hk2
        | some r' =>
          rw [hlj] at hu
          obtain ⟨hr', hrj⟩ := isLane_spec hlj
          obtain ⟨kv', A2, cap2, e, h5, h6, h7⟩ := hu
          refine ⟨kv', A2, cap2, e, hsrc r' hr' kv' w1 w2 h5 hs hk2, h6.grown h3 ?_, h7⟩
          rcases h7 with h7 | ⟨k, h7, h8⟩
          · rw [h7]; exact hne r' hr' r hr (by rw [hri, hrj]; exact hji)
          · refine .inr fun he => ?_
            rw [h7] at he
            have := hltA r hr k he.symm
            omega
    · have other : ∀ p ∈ ls, p.ja ≠ i → L p.ja = true → ∀ B n c, a.tmps.getD (dstOf l.toArray p.ja) undef = .slice B n c → (ablock B = ablock p.A ∨ ∃ k, ablock B = some k ∧ w.heap.size ≤ k) ∧ ∀ k, ablock B = some k → k < w1.heap.size := by
        intro p hp _ hLp B n c e
        have hu := hI.fact.fact p.ja (hok p hp).inH hLp
        unfold LR at hu
        rw [hinj p hp] at hu
        obtain ⟨kv', A2, cap2, e', h5, h6, h7⟩ := hu
        rw [e'] at e
        injection e with e3 e4 e5
        subst e3
        exact ⟨h7, fun k hk => (h6.lt k hk).2⟩
      have mine : ∀ p ∈ ls, p.ja ≠ i → L p.ja = true → ∀ B n c, a.tmps.getD (dstOf l.toArray p.ja) undef = .slice B n c → ablock A' = none ∨ ablock A' ≠ ablock B := by
        intro p hp hpi hLp B n c e
        obtain ⟨hx, hy⟩ := other p hp hpi hLp B n c e
        rcases h4 with h4 | h4
        · rcases hx with hx | ⟨k, hx, hk⟩
          · rw [h4, hx]; exact hne r hr p hp (by rw [hri]; exact Ne.symm hpi)
          · cases hA : ablock r.A
            · exact .inl (by rw [h4, hA])
            · rename_i q0
              refine .inr fun he => ?_
              have := hltA r hr q0 hA
              rw [h4, hA, hx] at he
              injection he with he
              omega
        · refine .inr fun he => ?_
          have := hy w1.heap.size (by rw [← he]; exact h4)
          omega
      unfold yset at e1 e2
      by_cases hqi : q.ja = i
      · rw [if_pos hqi] at e1
        have hqi' : q'.ja ≠ i := fun e => hne2 (by rw [hqi, e])
        rw [if_neg hqi'] at e2
        injection e1 with e1 _ _
        subst e1
        exact mine q' hq' hqi' (by simpa [lset, hqi'] using h6) B' n' c' e2
      · rw [if_neg hqi] at e1
        by_cases hqi' : q'.ja = i
        · rw [if_pos hqi'] at e2
          injection e2 with e2 _ _
          subst e2
          rcases mine q hq hqi (by simpa [lset, hqi] using h5) B n c e1 with h8 | h8
          · cases hB : ablock B
            · exact .inl rfl
            · exact .inr (by rw [h8]; simp)
          · exact .inr (Ne.symm h8)
        · rw [if_neg hqi'] at e2
          exact hI.fact.dis q hq q' hq' hne2 (by simpa [lset, hqi] using h5) (by simpa [lset, hqi'] using h6) B n c B' n' c' e1 e2
/-- The same, with the slots told; the tail stands behind the head. -/
theorem wp_lanes {P : Program} {Q : Exit → Act → World → Prop} {id : Nat} {a0 : Act} {w : World} {l : List Oper} (H D T : List Nat) (n : Nat) (ls : List LaneR) (E : Nat → Value → World → Prop) (base : Nat)
    (hm : P.follows .mixedOrders = true) (hB : freeB .any l.toArray H T = true) (hD : H.map (dstOf l.toArray) = D) (hnd : D.Nodup) (hsz : (D.all fun d => decide (d < a0.tmps.size)) = true) (hT : T.map (l.toArray[·]?) = (l.drop n).map some)
    (hbase : base ≤ w.heap.size) (hown : ∀ r ∈ ls, Own w base r.e 1 r.A r.n r.c r.f)
    (hne : ∀ r ∈ ls, ∀ r' ∈ ls, r.ja ≠ r'.ja → ablock r.A = none ∨ ablock r.A ≠ ablock r'.A)
    (hinj : ∀ r ∈ ls, isLane ls r.ja = some r)
    (hok : ∀ r ∈ ls, LaneOk P l.toArray H ls w.heap.size E r)
    (hE : ∀ i ∈ H, isLane ls i = none → ∀ v w1 w2, E i v w1 → w.heap.size ≤ w1.heap.size → Kept (LX ls) w1 w2 → E i v w2)
    (hsrc : ∀ r ∈ ls, ∀ v w1 w2, r.src v w1 → w.heap.size ≤ w1.heap.size → Kept (LX ls) w1 w2 → r.src v w2)
    (hext : ∀ i ∈ H, isLane ls i = none → ∀ o, l.toArray[i]? = some o → ∀ (a : Act) w1, w.heap.size ≤ w1.heap.size → Kept (LX ls) w w1 → (∀ k, k ∉ D → a.tmps[k]?.getD undef = a0.tmps[k]?.getD undef) →
      (∀ j d, waitB o j = true → isLane ls j = none → dstOf l.toArray j = d → E j (a.tmps[d]?.getD undef) w1) → Does P o a w1 fun v w2 => Below w1.heap.size w1 w2 ∧ E i v w2)
    (hend : ∀ (y : Nat → Value) (w' : World), (∀ i ∈ H, LR w.heap.size base ls E i (y i) w') → Kept (LX ls) w w' → LDis ls (fun _ => true) y → wpList P l.toArray Q (l.drop n) ((H.zip D).foldl (fun b p => b.put (some p.2) (y p.1)) a0) w') :
    (Code.region id l.toArray true).wp P Q a0 w := by
  refine wp_lanes0 H T (l.drop n) ls E base hm hB (by rw [hD]; exact hnd) ?_ hT hbase hown hne hinj hok hE hsrc ?_ ?_
  · rw [List.all_eq_true]
    intro i hi
    exact List.all_eq_true.1 hsz _ (by rw [← hD]; exact List.mem_map.2 ⟨i, hi, rfl⟩)
  · intro i hi hn o ho a w1 hs hk hold hfact
    refine hext i hi hn o ho a w1 hs hk (fun k hkD => ?_) (fun j d hj hnj hd => by rw [← hd, ← Array.getD_eq_getD_getElem?]; exact hfact j hj hnj)
    rw [← Array.getD_eq_getD_getElem?, ← Array.getD_eq_getD_getElem?]
    refine hold k ?_
    rw [List.all_eq_true]
    intro j hj
    have : dstOf l.toArray j ≠ k := fun e => hkD (by rw [← hD, ← e]; exact List.mem_map.2 ⟨j, hj, rfl⟩)
    simpa using this
  · intro y w' hy hk hd
    rw [zip_fold, hD]
    exact hend y w' hy hk hd

/-- The lanes' blocks are old. -/
theorem LX.lt {ls : List LaneR} {w : World} {base : Nat} (hown : ∀ r ∈ ls, Own w base r.e 1 r.A r.n r.c r.f) {k : Nat} (h : LX ls k) : k < w.heap.size := by
  obtain ⟨r, hr, hk⟩ := h
  exact ((hown r hr).lt k hk).2
theorem BoxOf.kept {s : Nat} {e : TypeId} {src : Value → World → Prop} {v : Value} {w1 w2 : World} {X : Nat → Prop} (h : BoxOf s e src v w1) (hk : Kept X w1 w2) (hX : ∀ k, X k → k < s) (hs : ∀ u, src u w1 → src u w2) : BoxOf s e src v w2 := by
  obtain ⟨g, kv, e1, h1, h2, h3, h4⟩ := h
  exact ⟨g, kv, e1, h1, (hk.block g (Array.getElem?_eq_some_iff.1 h2).1 (fun hx => by have := hX g hx; omega)).trans h2, h3, hs kv h4⟩
theorem BoxOf.made {s : Nat} {e : TypeId} {src : Value → World → Prop} {w : World} {kv : Value} (hs : s ≤ w.heap.size) (h1 : kv.oneCell' = true) (h2 : src kv (w.alloc (.cells #[kv] e))) : BoxOf s e src (.slice (some ⟨w.heap.size, 0, none⟩) 1 1) (w.alloc (.cells #[kv] e)) :=
  ⟨w.heap.size, kv, rfl, hs, heap_alloc_new w _, h1, h2⟩
end Go.Proofs.Ytoakgoigamigjaa
