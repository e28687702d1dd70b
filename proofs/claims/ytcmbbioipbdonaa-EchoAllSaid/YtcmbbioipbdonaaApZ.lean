/- 'append(s, make([]T, k)...)' on a slice of the walk's own. -/
import Derived.Test.YtcmbbioipbdonaaOwn
import Derived.Lib.AppendZerosOnto
set_option linter.unusedVariables false
set_option linter.unusedSimpArgs false
namespace Go.Proofs.Ytcmbbioipbdonaa
open Go.RowKit
section
variable {P : Program}
theorem zeroCells_at {z : Value} {z0 : Value} (hz : z.cells = #[z0]) (n : Nat) : (Builtin.zeroCells z.cells n).toList = List.replicate n z0 := by
  rw [hz]
  show ((Array.range (n * 1)).map fun i : Nat => (#[z0] : Array Value)[i % 1]!).toList = _
  have hc : (fun i : Nat => (#[z0] : Array Value)[i % 1]!) = fun _ => z0 := by
    funext j
    rw [Nat.mod_one]; rfl
  rw [hc, Nat.mul_one]
  simp only [Array.toList_map, Array.toList_range]
  rw [List.map_const', List.length_range]
theorem run_apZ (w : World) (t tn ty e : TypeId) (i : TypeInfo) (z z0 : Value) (kq kn : IntKind) (bytes : Nat) (ht : P.underlying t = some (.slice e)) (htn : P.underlying tn = some (.int kn)) (hi : P.info? e = some i) (hz : i.zero = some z) (hsize : i.size = 1) (hby : i.bytes = bytes) (hb8 : bytes ≤ 1000)
    (hz0 : z.cells = #[z0]) (h1 : z0.oneCell' = true) {base : Nat} {A : Option Addr} {q cap : Nat} {f : Nat → Value} (hown : Own w base e 1 A q cap f) (k : Nat) (h0 : 0 < k) (hk : k ≤ 1000) (hq : q ≤ 1000) (f' : Nat → Value) (hf1 : ∀ j, j < q → f' j = f j) (hf2 : ∀ j, j < k → f' (q + j) = z0) (hbase : base ≤ w.heap.size) :
    ∃ A' cap' w', (Builtin.append_ #[t, tn] ty #[.slice A q cap, .int kq k]).run P w = .ok (.slice A' (q + k) cap') w' ∧ Own w' base e 1 A' (q + k) cap' f' ∧ w.grownBy w' (ablock A) ∧ (ablock A' = ablock A ∨ ablock A' = some w.heap.size) := by
  have hzs : z.cells.size = 1 := by rw [hz0]; rfl
  have hzc := zeroCells_at hz0
  -- behind a new row
  have newRow : ∀ (olds : List Value) (old : Nat), olds.length = q → (∀ j, j < q → olds[j]? = some (f j)) → old < q + k → ∀ row,
      Own (w.drew.alloc (.cells (olds.toArray ++ Builtin.zeroCells z.cells k ++ Builtin.zeroCells z.cells (grownCap w (q + k) old e - (q + k))) e)) base e 1 (some ⟨w.heap.size, 0, none⟩) (q + k) (grownCap w (q + k) old e) f' ∧
      w.grownBy (w.drew.alloc (.cells (olds.toArray ++ Builtin.zeroCells z.cells k ++ Builtin.zeroCells z.cells (grownCap w (q + k) old e - (q + k))) e)) row := by
    intro olds old hol hof ho row
    have hge := grownCap_ge w (q + k) old e
    have hcm : grownCap w (q + k) old e ≤ maxLen := grownCap_le_maxLen w (q + k) old e (by unfold maxLen; omega)
    refine ⟨.inr ⟨w.heap.size, _, rfl, hbase, heap_alloc_new w.drew _, hge, hcm, ?_, fun j hj => ?_⟩, ⟨rfl, rfl, rfl, by simp, fun x hx _ => heap_alloc_old w.drew _ hx⟩⟩
    · simp only [Array.size_append, List.size_toArray, size_zeroCells, hzs, hol]
      omega
    · rw [Nat.mul_one] at hj
      rw [← Array.getElem?_toList, Array.toList_append, Array.toList_append, hzc, hzc, List.append_assoc]
      by_cases hj1 : j < q
      · rw [List.getElem?_append_left (by simpa [hol] using hj1)]
        rw [hf1 j hj1]; exact hof j hj1
      · rw [List.getElem?_append_right (by simp [hol]; omega), List.getElem?_append_left (by simp [hol]; omega), List.getElem?_replicate, if_pos (by simp [hol]; omega)]
        have := hf2 (j - q) (by omega)
        rw [show q + (j - q) = j by omega] at this
        rw [this]
  rcases hown with ⟨rfl, rfl, rfl⟩ | ⟨g, cur, rfl, hbg, hg, hnc, hcm, hcs, hf⟩
  · have hr := Lib.run_append_nil_zeros (P := P) w t tn ty e i z kq kn ht htn hi hz k h0 (by omega) (by omega) (by rw [hby]; have := Nat.mul_le_mul hk hb8; omega)
    have hn := newRow [] 0 rfl (fun j hj => by omega) (by omega) none
    simp only [Nat.zero_add, Array.empty_append] at hn ⊢
    refine ⟨_, _, _, hr, by simpa using hn.1, ?_, .inr rfl⟩
    have h2 := hn.2
    first | exact h2 | (simp at h2; exact h2)
  · rw [Nat.mul_one] at hcs hf
    by_cases hroom : q + k ≤ cap
    · have hw : IntKind.i64.wrap (k : Int) = k := by rw [IntKind.wrap_i64]; omega
      have hneg : ¬ ((k : Int) < 0) := by omega
      have hns : ¬ (k * i.size = 0) := by rw [hsize]; omega
      have h48i : ¬ (281474976710656 < (k : Int) * (i.bytes : Int)) := by
        rw [← Int.natCast_mul, hby]
        have := Nat.mul_le_mul hk hb8
        omega
      have hst := run_storeCells_at P g q e (List.replicate k z0) 0 cur w hg (by simp; omega) (by intro v hv; rw [List.eq_of_mem_replicate hv]; exact h1)
      simp only [Nat.add_zero, List.length_replicate] at hst
      refine ⟨some ⟨g, 0, none⟩, cap, w.setRow g (cur.toList.take q ++ List.replicate k z0 ++ cur.toList.drop (q + k)).toArray, ?_, .inr ⟨g, _, rfl, hbg, setRow_heap w g cur _ e _ hg, hroom, hcm, ?_, fun j hj => ?_⟩, ⟨rfl, rfl, rfl, by simp, fun x _ hx => setRow_other w g x _ (fun e => hx (by simp [ablock, e]))⟩, .inl rfl⟩
      · simp [Builtin.append_, run_underlying ht, run_underlying htn, sizeOf, typeInfo, zeroValue, hi, hz, asInt, asIntOf, hw, hneg, hns, hsize, hroom, h48i, Addr.add_lit, hzc, hst, show ¬ k = 0 by omega]
      · simp; omega
      · rw [Nat.mul_one] at hj
        show (List.toArray _)[j]? = _
        have htl : (cur.toList.take q).length = q := by rw [List.length_take, Array.length_toList]; omega
        rw [List.getElem?_toArray, List.append_assoc]
        by_cases hj1 : j < q
        · rw [List.getElem?_append_left (by omega), List.getElem?_take_of_lt hj1, Array.getElem?_toList, hf1 j hj1]
          exact hf j hj1
        · rw [List.getElem?_append_right (by omega), htl, List.getElem?_append_left (by simp; omega), List.getElem?_replicate, if_pos (by omega)]
          have := hf2 (j - q) (by omega)
          rw [show q + (j - q) = j by omega] at this
          rw [this]
    · have hnx : Builtin.nextslicecap (q + k) cap * i.bytes ≤ 281474976710656 := by
        have h2 : Builtin.nextslicecap (q + k) cap ≤ 4000000 := by
          unfold Builtin.nextslicecap
          split
          · omega
          · split
            · omega
            · simp only [Builtin.growBy]
              repeat' split
              all_goals omega
        rw [hby]
        have := Nat.mul_le_mul h2 hb8
        omega
      have hold : (Builtin.firstCells i.size q (.slice (some ⟨g, 0, none⟩) q cap)).run P w.drew = .ok (cur.toList.take q).toArray w.drew := by
        refine run_firstCells_some (P := P) w.drew i.size q ⟨g, 0, none⟩ q cap (cur.toList.take q) (by rw [List.length_take, Array.length_toList, hsize]; omega) fun j v hj => ?_
        have hjq : j < q := by
          have := (List.getElem?_eq_some_iff.1 hj).1
          rw [List.length_take] at this; omega
        rw [List.getElem?_take_of_lt hjq, Array.getElem?_toList] at hj
        have he : (⟨g, 0, none⟩ : Addr).add j = ⟨g, j, none⟩ := by unfold Addr.add; split <;> simp_all
        rw [he]
        show w.cell? ⟨g, j, none⟩ = some v
        rw [cell_of_row w g j cur e (0, 0) hg]; exact hj
      have hr := Lib.run_append_grow_zeros (P := P) w t tn ty e i z kq kn ht htn hi hz (some ⟨g, 0, none⟩) q cap (cur.toList.take q) hold k h0 (by omega) (by omega) (by omega) (by rw [hby]; have := Nat.mul_le_mul hk hb8; omega) hnx
      have hn := newRow (cur.toList.take q) cap (by rw [List.length_take, Array.length_toList]; omega) (fun j hj => by rw [List.getElem?_take_of_lt hj, Array.getElem?_toList]; exact hf j hj) (by omega) (some g)
      exact ⟨_, _, _, hr, hn.1, hn.2, .inr rfl⟩
theorem wpList_apZ {w : World} {ops : Array Oper} {rest : List Oper} {o : Oper} {a : Act} {Q : Exit → Act → World → Prop} (hgd : o.guard = none) (s x : Operand) (t tn : TypeId) (ho : o.op = .call { callee := .builtin .append, args := #[s, x], argTypes := #[t, tn] })
    (e : TypeId) (i : TypeInfo) (z z0 : Value) (kq kn : IntKind) (bytes : Nat) (ht : P.underlying t = some (.slice e)) (htn : P.underlying tn = some (.int kn)) (hi : P.info? e = some i) (hz : i.zero = some z) (hsize : i.size = 1) (hby : i.bytes = bytes) (hb8 : bytes ≤ 1000)
    (hz0 : z.cells = #[z0]) (h1 : z0.oneCell' = true) {base : Nat} {A : Option Addr} {q cap : Nat} {f : Nat → Value} (k : Nat) (hs : a.eval s = .slice A q cap) (hx : a.eval x = .int kq k) (hown : Own w base e 1 A q cap f) (h0 : 0 < k) (hk : k ≤ 1000) (hq : q ≤ 1000) (f' : Nat → Value) (hf1 : ∀ j, j < q → f' j = f j) (hf2 : ∀ j, j < k → f' (q + j) = z0) (hbase : base ≤ w.heap.size) (n : Nat) (hn : q + k = n)
    (h : ∀ A' cap' w', Own w' base e 1 A' n cap' f' → w.grownBy w' (ablock A) → (ablock A' = ablock A ∨ ablock A' = some w.heap.size) → wpList P ops Q rest (a.put o.dst (.slice A' n cap')) w') : wpList P ops Q (o :: rest) a w := by
  subst hn
  obtain ⟨A', cap', w', hrun, h2, h3, h4⟩ := run_apZ (P := P) w t tn o.type e i z z0 kq kn bytes ht htn hi hz hsize hby hb8 hz0 h1 hown k h0 hk hq f' hf1 hf2 hbase
  exact Lib.wpList_append_run w hgd s x t tn ho _ _ hs hx _ _ hrun (h A' cap' w' h2 h3 h4)
end
end Go.Proofs.Ytcmbbioipbdonaa
