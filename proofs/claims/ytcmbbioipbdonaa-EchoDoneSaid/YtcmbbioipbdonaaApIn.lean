/- 'append(s[:k], x...)' in place: the whole row of s stays at hand. -/
import Derived.Test.YtcmbbioipbdonaaOwn
import Derived.Laws.OwnMore
set_option linter.unusedVariables false
set_option linter.unusedSimpArgs false
namespace Go.Proofs.Ytcmbbioipbdonaa
open Go.RowKit
section
variable {P : Program}
theorem Own.shorter {w : World} {base : Nat} {e : TypeId} {size : Nat} {A : Option Addr} {n n' cap : Nat} {f : Nat → Value} (h : Own w base e size A n cap f) (hn : n' ≤ n) : Own w base e size A n' cap f := by
  rcases h with ⟨rfl, h0, h1⟩ | ⟨g, cur, rfl, hb, hg, h1, h2, h3, hf⟩
  · exact .inl ⟨rfl, by omega, h1⟩
  · exact .inr ⟨g, cur, rfl, hb, hg, by omega, h2, h3, fun j hj => hf j (Nat.lt_of_lt_of_le hj (Nat.mul_le_mul_right _ hn))⟩
theorem run_apIn (w : World) (t ty e : TypeId) (i : TypeInfo) (size : Nat) (ht : P.underlying t = some (.slice e)) (hi : P.info? e = some i) (hsize : i.size = size) {base g N cap : Nat} {F : Nat → Value}
    (hown : Own w base e size (some ⟨g, 0, none⟩) N cap F) (k m : Nat) (a : Addr) (c : Nat) (G : Nat → Value) (hr : ∀ j, j < m * size → w.cell? (a.add j) = some (G j)) (h1 : ∀ j, j < m * size → (G j).oneCell' = true) (hroom : k + m ≤ N) :
    ∃ w', (Builtin.append_ #[t, t] ty #[.slice (some ⟨g, 0, none⟩) k cap, .slice (some a) m c]).run P w = .ok (.slice (some ⟨g, 0, none⟩) (k + m) cap) w' ∧
      Own w' base e size (some ⟨g, 0, none⟩) N cap (fun j => if k * size ≤ j ∧ j < (k + m) * size then G (j - k * size) else F j) ∧ w.grownBy w' (some g) := by
  subst hsize
  rcases hown with ⟨h0, _⟩ | ⟨g', cur, hv, hbg, hg, hnc, hcm, hcs, hf⟩
  · cases h0
  · cases hv
    have hl : ((List.range (m * i.size)).map G).length = m * i.size := by simp
    have hnews : ∀ j u, ((List.range (m * i.size)).map G)[j]? = some u → w.cell? (a.add j) = some u := by
      intro j u hu
      rcases Nat.lt_or_ge j (m * i.size) with hj | hj
      · rw [List.getElem?_map, List.getElem?_range hj] at hu
        rw [hr j hj]; exact hu
      · rw [List.getElem?_eq_none (by simpa using hj)] at hu; cases hu
    have hNc : N * i.size ≤ cap * i.size := Nat.mul_le_mul_right _ hnc
    have hkN : (k + m) * i.size ≤ N * i.size := Nat.mul_le_mul_right _ hroom
    have hkm : (k + m) * i.size = k * i.size + m * i.size := Nat.add_mul ..
    have hfit : k * i.size + ((List.range (m * i.size)).map G).length ≤ cur.size := by rw [hl, hcs]; omega
    have hrun := run_append_room (P := P) w t ty e i ht hi g k cap cur hg a m c _ hl hnews (by intro u hu; obtain ⟨j, hj, rfl⟩ := List.mem_map.1 hu; exact h1 j (List.mem_range.1 hj)) (by omega) hfit
    refine ⟨_, hrun, .inr ⟨g, _, rfl, hbg, setRow_heap w g cur _ e _ hg, hnc, hcm, ?_, fun j hj => ?_⟩, ⟨rfl, rfl, rfl, by simp, fun q _ hq => setRow_other w g q _ (fun e => hq (by simp [e]))⟩⟩
    · simp only [List.size_toArray, List.length_append, List.length_take, List.length_drop, Array.length_toList]
      omega
    · have ht : (cur.toList.take (k * i.size)).length = k * i.size := by rw [List.length_take, Array.length_toList, hcs]; omega
      show (List.toArray _)[j]? = some (if k * i.size ≤ j ∧ j < (k + m) * i.size then G (j - k * i.size) else F j)
      rw [List.getElem?_toArray, List.append_assoc]
      by_cases hj1 : j < k * i.size
      · rw [List.getElem?_append_left (by omega), List.getElem?_take_of_lt hj1, Array.getElem?_toList, hf j hj, if_neg (by omega)]
      · rw [List.getElem?_append_right (by omega), ht]
        by_cases hj2 : j < (k + m) * i.size
        · rw [if_pos ⟨by omega, hj2⟩, List.getElem?_append_left (by omega), List.getElem?_map, List.getElem?_range (by omega)]; rfl
        · rw [if_neg (fun h => hj2 h.2), List.getElem?_append_right (by omega), hl, List.getElem?_drop, Array.getElem?_toList, show k * i.size + m * i.size + (j - k * i.size - m * i.size) = j by omega]
          exact hf j hj
theorem wpList_apIn {w : World} {ops : Array Oper} {rest : List Oper} {o : Oper} {a : Act} {Q : Exit → Act → World → Prop} (hgd : o.guard = none) (s x : Operand) (t : TypeId)
    (ho : o.op = .call { callee := .builtin .append, args := #[s, x], argTypes := #[t, t] }) (e : TypeId) (i : TypeInfo) (size : Nat) (ht : P.underlying t = some (.slice e)) (hi : P.info? e = some i) (hsize : i.size = size)
    {base g N cap : Nat} {F : Nat → Value} (k m : Nat) (ad : Addr) (c : Nat) (G : Nat → Value) (hs : a.eval s = .slice (some ⟨g, 0, none⟩) k cap) (hx : a.eval x = .slice (some ad) m c)
    (hown : Own w base e size (some ⟨g, 0, none⟩) N cap F) (hr : ∀ j, j < m * size → w.cell? (ad.add j) = some (G j)) (h1 : ∀ j, j < m * size → (G j).oneCell' = true) (hroom : k + m ≤ N) (km : Nat) (hkm : k + m = km)
    (h : ∀ w', Own w' base e size (some ⟨g, 0, none⟩) N cap (fun j => if k * size ≤ j ∧ j < (k + m) * size then G (j - k * size) else F j) → w.grownBy w' (some g) → wpList P ops Q rest (a.put o.dst (.slice (some ⟨g, 0, none⟩) km cap)) w') :
    wpList P ops Q (o :: rest) a w := by
  subst hkm
  refine wpList_plain hgd fun K hK => ?_
  obtain ⟨w', hrun, h2, h3⟩ := run_apIn (P := P) w t o.type e i size ht hi hsize hown k m ad c G hr h1 hroom
  unfold Oper.wp execOp
  simp only [ho, resolve, invoke, builtin, Sem.run_bind, Sem.run_pure, Result.andThen_ok, List.map_toArray, List.map_cons, List.map_nil, hs, hx, hrun]
  exact hK _ _ (h w' h2 h3)
end
end Go.Proofs.Ytcmbbioipbdonaa
