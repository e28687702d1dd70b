/- Queues: slices that grow at the end and are cut at the head. -/
import Derived.Test.YtcmbbioipbdonaaOwn
set_option linter.unusedVariables false
set_option linter.unusedSimpArgs false
namespace Go.Proofs.Ytcmbbioipbdonaa
open Go.RowKit

/-- A queue's slice: its block is the call's own, from some place on it holds xs. -/
def QSl (w : World) (base : Nat) (e : TypeId) (v : Value) (xs : List Value) : Prop :=
  (v = .slice none 0 0 ∧ xs = []) ∨
  ∃ g off cap cur, v = .slice (some ⟨g, off, none⟩) xs.length cap ∧ base ≤ g ∧ w.heap[g]? = some (.cells cur e (0, 0)) ∧ xs.length ≤ cap ∧ cap ≤ maxLen ∧ off + cap ≤ cur.size ∧ (cur.toList.drop off).take xs.length = xs
section
variable {w w' : World} {base : Nat} {e : TypeId} {v : Value} {xs : List Value}
theorem QSl.nil (w : World) (base : Nat) (e : TypeId) : QSl w base e (.slice none 0 0) [] := .inl ⟨rfl, rfl⟩
theorem QSl.same (h : QSl w base e v xs) (hk : ∀ g, v.ownBlock = some g → w'.heap[g]? = w.heap[g]?) : QSl w' base e v xs := by
  rcases h with h | ⟨g, off, cap, cur, rfl, h1, h2, h3⟩
  · exact .inl h
  · exact .inr ⟨g, off, cap, cur, rfl, h1, (hk g rfl).trans h2, h3⟩
theorem QSl.len (h : QSl w base e v xs) : ∃ A cap, v = .slice A xs.length cap ∧ xs.length ≤ cap ∧ cap ≤ maxLen := by
  rcases h with ⟨rfl, rfl⟩ | ⟨g, off, cap, cur, rfl, _, _, h3, h4, _⟩
  · exact ⟨none, 0, rfl, Nat.le_refl _, Nat.zero_le _⟩
  · exact ⟨_, cap, rfl, h3, h4⟩
theorem QSl.alloc (h : QSl w base e v xs) (o : Obj) : QSl (w.alloc o) base e v xs := by
  rcases h with h | ⟨g, off, cap, cur, h1, h2, h3, h4⟩
  · exact .inl h
  · exact .inr ⟨g, off, cap, cur, h1, h2, (heap_alloc_old w o (Array.getElem?_eq_some_iff.1 h3).1).trans h3, h4⟩
theorem QSl.sim (h : QSl w base e v xs) (hs : Sim w w') : QSl w' base e v xs := h.same fun g _ => by rw [hs.1]
theorem QSl.blk {A : Option Addr} {n cap : Nat} (h : QSl w base e (.slice A n cap) xs) : ∀ k, ablock A = some k → base ≤ k := by
  intro k hk
  rcases h with ⟨h1, _⟩ | ⟨g, off, cap', cur, h1, h2, _⟩
  · injection h1 with h1
    subst h1
    cases hk
  · injection h1 with h1
    subst h1
    have hk' : g = k := Option.some.inj hk
    omega
/-- What the cells hold. -/
theorem QSl.cell {A : Option Addr} {n cap : Nat} (h : QSl w base e (.slice A n cap) xs) {j : Nat} {x : Value} (hj : xs[j]? = some x) : ∃ g off, A = some ⟨g, off, none⟩ ∧ base ≤ g ∧ w.cell? ⟨g, off + j, none⟩ = some x := by
  rcases h with ⟨h1, rfl⟩ | ⟨g, off, cap', cur, h1, h2, h3, h4, h5, h6, h7⟩
  · simp at hj
  · injection h1 with a b c
    refine ⟨g, off, a, h2, ?_⟩
    have hlt : j < xs.length := (List.getElem?_eq_some_iff.1 hj).1
    have hc : cur.toList[off + j]? = some x := by
      rw [← hj]
      conv => rhs; rw [← h7]
      rw [List.getElem?_take_of_lt hlt, List.getElem?_drop]
    have hc2 : cur[off + j]? = some x := by simpa using hc
    simp [World.cell?, h3, hc2]
/-- '[1:]'. -/
theorem QSl.pop {g off n cap : Nat} {x : Value} (h : QSl w base e (.slice (some ⟨g, off, none⟩) n cap) (x :: xs)) : QSl w base e (.slice (some ⟨g, if cap - 1 = 0 then off else off + 1, none⟩) (n - 1) (cap - 1)) xs := by
  rcases h with ⟨h1, h2⟩ | ⟨g', off', cap', cur, h1, h2, h3, h4, h5, h6, h7⟩
  · cases h2
  · injection h1 with a b c
    injection a with a
    injection a with a1 a2
    subst a1 a2 c
    simp only [List.length_cons] at b h4 h7
    have hn : n - 1 = xs.length := by omega
    rw [hn]
    have ht : (cur.toList.drop (off + 1)).take xs.length = xs := by
      have := congrArg List.tail h7
      rw [List.tail_cons] at this
      conv => rhs; rw [← this]
      rw [← List.drop_drop, ← List.drop_one]
      rw [List.drop_take]
      simp
    by_cases hc : cap - 1 = 0
    · rw [if_pos hc]
      have hx : xs = [] := List.eq_nil_of_length_eq_zero (by omega)
      subst hx
      exact .inr ⟨g, off, cap - 1, cur, rfl, h2, h3, by simp, by omega, by omega, by simp⟩
    · rw [if_neg hc]
      exact .inr ⟨g, off + 1, cap - 1, cur, rfl, h2, h3, by omega, by omega, by omega, ht⟩
/-- '[1:]' as the walk spells it. -/
theorem QSl.popS {A : Option Addr} {n cap m : Nat} {x : Value} (h : QSl w base e (.slice A n cap) (x :: xs)) (hc : ¬ cap = 1) (hm : n = m + 1) : QSl w base e (.slice (A.map fun x => { block := x.block, off := x.off + 1 }) m (cap - 1)) xs := by
  obtain ⟨g, off, rfl, _, _⟩ := h.cell (j := 0) (x := x) rfl
  have h2 := h.pop
  obtain ⟨A', c', h3, h4, _⟩ := h.len
  injection h3 with _ h5 h6
  simp only [List.length_cons] at h5 h4
  rw [if_neg (by omega), show n - 1 = m by omega] at h2
  exact h2
theorem QSl.pop0 {A : Option Addr} {n cap m : Nat} {x : Value} (h : QSl w base e (.slice A n cap) (x :: xs)) (hc : cap = 1) (hm : n = m + 1) : QSl w base e (.slice A m 0) xs := by
  obtain ⟨g, off, rfl, _, _⟩ := h.cell (j := 0) (x := x) rfl
  have h2 := h.pop
  subst hc
  rw [if_pos (by omega), show n - 1 = m by omega] at h2
  exact h2
/-- 'append' of one. -/
theorem QSl.push {P : Program} {t ty : TypeId} {i : TypeInfo} {z : Value} {bytes : Nat} (h : QSl w base e v xs) (ht : P.underlying t = some (.slice e)) (hi : P.info? e = some i) (hz : i.zero = some z) (hsize : i.size = 1) (hby : i.bytes = bytes) (hzs : z.cells.size = 1)
    (a : Addr) (c : Nat) (x : Value) (hx : w.cell? a = some x) (h1 : x.oneCell' = true) (h63 : xs.length + 1 ≤ maxLen) (hbytes : (xs.length + 1) * bytes ≤ 140737488355328) (hbase : base ≤ w.heap.size) :
    ∃ v' w', (Builtin.append_ #[t, t] ty #[v, .slice (some a) 1 c]).run P w = .ok v' w' ∧ QSl w' base e v' (xs ++ [x]) ∧ w.grownBy w' v.ownBlock ∧ (v'.ownBlock = v.ownBlock ∨ v'.ownBlock = some w.heap.size) := by
  have hnews : ∀ j u, [x][j]? = some u → w.cell? (a.add j) = some u := by
    intro j u hj
    match j, hj with
    | 0, hj =>
      simp at hj
      subst hj
      simpa [Addr.add] using hx
  have hsmall : xs.length + 1 ≤ 9223372036854775807 := by simp only [maxLen] at h63; omega
  have grown : ∀ (old : Nat), old < xs.length + 1 → ∀ (row : Option Nat),
      QSl (w.drew.alloc (.cells (xs.toArray ++ [x].toArray ++ Builtin.zeroCells z.cells (grownCap w (xs.length + 1) old e - (xs.length + 1))) e)) base e (.slice (some ⟨w.heap.size, 0, none⟩) (xs.length + 1) (grownCap w (xs.length + 1) old e)) (xs ++ [x]) ∧
      w.grownBy (w.drew.alloc (.cells (xs.toArray ++ [x].toArray ++ Builtin.zeroCells z.cells (grownCap w (xs.length + 1) old e - (xs.length + 1))) e)) row := by
    intro old ho row
    have hge := grownCap_ge w (xs.length + 1) old e
    have hcm : grownCap w (xs.length + 1) old e ≤ maxLen := grownCap_le_maxLen w (xs.length + 1) old e h63
    refine ⟨.inr ⟨w.heap.size, 0, _, _, by rw [List.length_append]; rfl, hbase, heap_alloc_new w.drew _, by rw [List.length_append]; exact hge, hcm, ?_, ?_⟩, ⟨rfl, rfl, rfl, by simp, fun k hk _ => heap_alloc_old w.drew _ hk⟩⟩
    · simp only [Array.size_append, List.size_toArray, size_zeroCells, hzs, List.length_singleton]
      omega
    · simp only [Array.toList_append, List.append_assoc, List.drop_zero]
      rw [← List.append_assoc]
      exact List.take_left
  rcases h with ⟨rfl, rfl⟩ | ⟨g, off, cap, cur, rfl, h2, h3, h4, h5, h6, h7⟩
  · have hr := run_append_nil (P := P) w t ty e i z ht hi hz a 1 c [x] (by simp [hsize]) hnews (by omega) (by omega) (by rw [hby]; simp at hbytes; omega)
    have hgr := grown 0 (by omega) (Value.ownBlock (.slice none 0 0))
    simp only [List.length_nil, Nat.zero_add, List.nil_append, Array.empty_append] at hgr ⊢
    exact ⟨_, _, hr, hgr.1, hgr.2, .inr rfl⟩
  · by_cases hroom : xs.length + 1 ≤ cap
    · have hf := run_firstCells_some (P := P) w i.size 1 a 1 c [x] (by simp [hsize]) hnews
      rw [hsize] at hf
      have hst := run_storeCells_at P g (off + xs.length) e [x] 0 cur w h3 (by simp; omega) (by simpa using h1)
      simp only [Nat.add_zero] at hst
      have ea : (⟨g, off, none⟩ : Addr).add xs.length = ⟨g, off + xs.length, none⟩ := by by_cases hx0 : xs.length = 0 <;> simp [Addr.add, hx0]
      have hr : (Builtin.append_ #[t, t] ty #[.slice (some ⟨g, off, none⟩) xs.length cap, .slice (some a) 1 c]).run P w = .ok (.slice (some ⟨g, off, none⟩) (xs.length + 1) cap) (w.setRow g (cur.toList.take (off + xs.length) ++ [x] ++ cur.toList.drop (off + xs.length + [x].length)).toArray) := by
        simp [Builtin.append_, run_underlying ht, sizeOf, typeInfo, hi, hsize, Builtin.lenOf, hroom, hf, ea, hst]
      refine ⟨_, _, hr, .inr ⟨g, off, cap, _, by rw [List.length_append]; rfl, h2, setRow_heap w g cur _ e _ h3, by rw [List.length_append]; exact hroom, h5, ?_, ?_⟩, ⟨rfl, rfl, rfl, by simp, fun k _ hk => setRow_other w g k _ (fun e => hk (by simp [Value.ownBlock, e]))⟩, .inl rfl⟩
      · simp
        omega
      · have hl : (cur.toList.take (off + xs.length)).length = off + xs.length := by
          have hcl : cur.toList.length = cur.size := Array.length_toList
          rw [List.length_take, Nat.min_eq_left (by omega)]
        rw [List.append_assoc, List.drop_append_of_le_length (by rw [hl]; omega), List.drop_take, show off + xs.length - off = xs.length by omega, h7, ← List.append_assoc]
        exact List.take_left
    · have holds : ∀ j u, xs[j]? = some u → w.cell? ((⟨g, off, none⟩ : Addr).add j) = some u := by
        intro j u hj
        obtain ⟨g', off', e1, _, e3⟩ := QSl.cell (w := w) (base := base) (e := e) (.inr ⟨g, off, cap, cur, rfl, h2, h3, h4, h5, h6, h7⟩ : QSl w base e (.slice (some ⟨g, off, none⟩) xs.length cap) xs) hj
        injection e1 with e1
        injection e1 with e1 e2
        subst e1 e2
        by_cases hj0 : j = 0
        · subst hj0; simpa [Addr.add] using e3
        · simpa [Addr.add, hj0] using e3
      have hr := run_append_grow (P := P) w t ty e i z ht hi hz ⟨g, off, none⟩ xs.length cap xs (by rw [hsize, Nat.mul_one]) holds a 1 c [x] (by simp [hsize]) hnews (by omega) (by omega) (growslice_fits (by omega) (by rw [hby]; exact hbytes))
      have hgr := grown cap (by omega) (Value.ownBlock (.slice (some ⟨g, off, none⟩) xs.length cap))
      exact ⟨_, _, hr, hgr.1, hgr.2, .inr rfl⟩
end
variable {P : Program}
theorem cell_one (w : World) (v : Value) (t : TypeId) : (w.alloc (.cells #[v] t)).cell? ⟨w.heap.size, 0, none⟩ = some v := by
  have h := heap_alloc_new w (.cells #[v] t)
  show (match (w.alloc (.cells #[v] t)).heap[w.heap.size]? with
    | some (Obj.cells c _ _) => c[0]?
    | _ => none) = some v
  rw [h]
  rfl
/-- 'append' of one to a queue, as a step of a walk. -/
theorem wpList_apQ {w : World} {ops : Array Oper} {rest : List Oper} {o : Oper} {a : Act} {Q : Exit → Act → World → Prop} (hgd : o.guard = none) (s x : Operand) (t : TypeId)
    (ho : o.op = .call { callee := .builtin .append, args := #[s, x], argTypes := #[t, t] })
    (e : TypeId) (i : TypeInfo) (z : Value) (bytes : Nat) (ht : P.underlying t = some (.slice e)) (hi : P.info? e = some i) (hz : i.zero = some z)
    (hsize : i.size = 1) (hby : i.bytes = bytes) (hzs : z.cells.size = 1) (base : Nat)
    {A : Option Addr} {n cap : Nat} {xs : List Value} (hs : a.eval s = .slice A n cap) (hown : QSl w base e (.slice A n cap) xs)
    {X : Addr} {c : Nat} {u : Value} (hx : a.eval x = .slice (some X) 1 c) (hr : w.cell? X = some u) (h1 : u.oneCell' = true)
    (k : Nat) (hk : xs.length + 1 = k) (h63 : xs.length + 1 ≤ maxLen) (hbytes : (xs.length + 1) * bytes ≤ 140737488355328) (hbase : base ≤ w.heap.size)
    (h : ∀ A' cap' w', QSl w' base e (.slice A' k cap') (xs ++ [u]) → w.grownBy w' (ablock A) → (ablock A' = ablock A ∨ ablock A' = some w.heap.size) → wpList P ops Q rest (a.put o.dst (.slice A' k cap')) w') :
    wpList P ops Q (o :: rest) a w := by
  refine wpList_plain hgd fun K hK => ?_
  obtain ⟨v', w', hrun, hq, hg, hb⟩ := hown.push (P := P) (t := t) (ty := o.type) ht hi hz hsize hby hzs X c u hr h1 h63 hbytes hbase
  obtain ⟨A', cap', rfl, _, _⟩ := hq.len
  have hob : ∀ (A : Option Addr) (n cap : Nat), (Value.slice A n cap).ownBlock = ablock A := by
    intro A n cap
    cases A <;> rfl
  rw [hob] at hg
  rw [hob, hob] at hb
  rw [List.length_append, List.length_singleton, hk] at hq hrun
  unfold Oper.wp execOp
  simp only [ho, resolve, invoke, builtin, Sem.run_bind, Sem.run_pure, Result.andThen_ok, List.map_toArray, List.map_cons, List.map_nil, hs, hx, hrun]
  exact hK _ _ (h A' cap' w' hq hg hb)
end Go.Proofs.Ytcmbbioipbdonaa
