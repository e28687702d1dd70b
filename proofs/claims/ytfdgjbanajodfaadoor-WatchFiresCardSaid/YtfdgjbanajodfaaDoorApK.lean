/- append(nothing, x...) on an empty block: what stood stays; a head of a region that makes a slice anew (empty, copied, and more appended). -/
import Derived.Test.YtfdgjbanajodfaaDoorNewK
import Derived.Test.YtfdgjbanajodfaaDoorLay
set_option linter.unusedVariables false
set_option linter.unusedSimpArgs false
namespace Go.Proofs.YtfdgjbanajodfaaDoor
open Go.RowKit

section
variable {P : Program}
theorem run_ap0 (w : World) (t ty e : TypeId) (i : TypeInfo) (z : Value) (size bytes : Nat) (ht : P.underlying t = some (.slice e)) (hi : P.info? e = some i) (hz : i.zero = some z)
    (hsize : i.size = size) (hby : i.bytes = bytes) (hzs : z.cells.size = size) (hsz : 0 < size) (base b : Nat) (hb : w.heap[b]? = some (.cells #[] e (0, 0))) (hbase : base ≤ b) (hbw : base ≤ w.heap.size)
    {B : Nat} {X : Option Addr} {m c : Nat} {g : Nat → Value} (hr : Rd w B X (m * size) g) (h1 : ∀ j, j < m * size → (g j).oneCell' = true) (h63 : m ≤ maxLen) (hbytes : m * bytes ≤ 140737488355328) :
    ∃ A' cap' w', (Builtin.append_ #[t, t] ty #[.slice (some ⟨b, 0, none⟩) 0 0, .slice X m c]).run P w = .ok (.slice A' m cap') w' ∧ Own w' base e size A' m cap' g ∧ Below w.heap.size w w' := by
  rcases Nat.eq_zero_or_pos m with hm | hm
  · subst hm
    refine ⟨some ⟨b, 0, none⟩, 0, w, ?_, .inr ⟨b, #[], rfl, hbase, hb, Nat.le_refl _, by unfold maxLen; omega, by simp, fun j hj => absurd hj (by omega)⟩, Below.refl _ _⟩
    rcases X with _ | ad <;> simp [Builtin.append_, run_underlying ht, sizeOf, typeInfo, hi, Builtin.lenOf, Builtin.firstCells, storeCells, loadCells, loadCellsFrom]
  · obtain ⟨ad, rfl, _, hc⟩ := hr (Nat.mul_pos hm hsz)
    have hnews : ∀ j u, ((List.range (m * size)).map g)[j]? = some u → w.cell? (ad.add j) = some u := by
      intro j u hu
      rcases Nat.lt_or_ge j (m * size) with hj | hj
      · rw [List.getElem?_map, List.getElem?_range hj] at hu
        rw [hc j hj]; exact hu
      · rw [List.getElem?_eq_none (by simpa using hj)] at hu; cases hu
    obtain ⟨v', w', hrun, h2, h3⟩ := run_append_arg_grows (P := P) w t ty e i z size bytes ht hi hz hsize hby hzs hsz ⟨b, 0, none⟩ 0 0 [] (by simp) (by intro j u hu; simp at hu) ad m c _ (by simp) hnews (by omega) (by omega) (by rw [Nat.zero_add]; exact hbytes)
    rw [Nat.zero_add, List.nil_append] at h2
    obtain ⟨A', cap', rfl, h6⟩ := Own.ofRow h2
    obtain ⟨q1, q2, q3, q4, q5⟩ := h3
    exact ⟨A', cap', w', hrun, h6.base_le hbw, ⟨q1, q2, q3, q4, fun k hk => q5 k hk (by simp)⟩⟩
theorem does_ap0 {w : World} {o : Oper} {a : Act} (s x : Operand) (t : TypeId) (ho : o.op = .call { callee := .builtin .append, args := #[s, x], argTypes := #[t, t] })
    (e : TypeId) (i : TypeInfo) (z : Value) (size bytes : Nat) (ht : P.underlying t = some (.slice e)) (hi : P.info? e = some i) (hz : i.zero = some z)
    (hsize : i.size = size) (hby : i.bytes = bytes) (hzs : z.cells.size = size) (hsz : 0 < size) (base b : Nat) (hb : w.heap[b]? = some (.cells #[] e (0, 0))) (hbase : base ≤ b) (hbw : base ≤ w.heap.size)
    (hs : a.eval s = .slice (some ⟨b, 0, none⟩) 0 0) {B : Nat} {X : Option Addr} {m c : Nat} {g : Nat → Value} (hx : a.eval x = .slice X m c) (hr : Rd w B X (m * size) g) (h1 : ∀ j, j < m * size → (g j).oneCell' = true) (h63 : m ≤ maxLen) (hbytes : m * bytes ≤ 140737488355328) :
    Does P o a w fun v w2 => Below w.heap.size w w2 ∧ ∃ A' c', v = .slice A' m c' ∧ Own w2 base e size A' m c' g := by
  obtain ⟨A', cap', w', hrun, h2, h3⟩ := run_ap0 (P := P) w t o.type e i z size bytes ht hi hz hsize hby hzs hsz base b hb hbase hbw hr h1 h63 hbytes (c := c)
  refine does_run (v := .slice A' m cap') (w' := w') ?_ ⟨h3, A', cap', rfl, h2⟩
  unfold execOp
  simp only [ho, resolve, invoke, builtin, Sem.run_bind, Sem.run_pure, Result.andThen_ok, List.map_toArray, List.map_cons, List.map_nil, hs, hx, hrun]
end
/-- It yields this, the world stays. -/
theorem doesK {P : Program} {o : Oper} {a : Act} {w : World} {Φ : Value → Nat → World → Prop} (v : Value) (h : (execOp a.eval o).run P w = .ok (.value v) w) (hΦ : Φ v 0 w) :
    Does P o a w fun u w2 => Below w.heap.size w w2 ∧ ∃ g, Φ u g w2 ∧ (false = true → w.heap.size ≤ g ∧ g < w2.heap.size) := does_run h ⟨Below.refl _ _, 0, hΦ, fun h => by cases h⟩
theorem doesN {P : Program} {o : Oper} {a : Act} {w : World} {Φ : Value → Nat → World → Prop} (v : Value) (ob : Obj) (h : (execOp a.eval o).run P w = .ok (.value v) (w.alloc ob)) (hΦ : Φ v w.heap.size (w.alloc ob)) :
    Does P o a w fun u w2 => Below w.heap.size w w2 ∧ ∃ g, Φ u g w2 ∧ (false = true → w.heap.size ≤ g ∧ g < w2.heap.size) := does_run h ⟨(Below.refl _ _).alloc (Nat.le_refl _) _, _, hΦ, fun h => by cases h⟩
theorem doesO {P : Program} {o : Oper} {a : Act} {w : World} {Φ : Value → World → Prop} (h : Does P o a w fun v w2 => Below w.heap.size w w2 ∧ Φ v w2) :
    Does P o a w fun u w2 => Below w.heap.size w w2 ∧ ∃ _g : Nat, Φ u w2 ∧ (false = true → w.heap.size ≤ _g ∧ _g < w2.heap.size) := h.mono fun v w' ⟨h1, h2⟩ => ⟨h1, 0, h2, fun h => by cases h⟩
/-- What is said of the yields. -/
def isEmp (base : Nat) (e : TypeId) : Value → Nat → World → Prop := fun v g w => v = .slice (some ⟨g, 0, none⟩) 0 0 ∧ base ≤ g ∧ w.heap[g]? = some (.cells #[] e (0, 0))
def isOwn (base : Nat) (e : TypeId) (size n : Nat) (f : Nat → Value) : Value → Nat → World → Prop := fun v _ w => ∃ A c, v = .slice A n c ∧ Own w base e size A n c f
def isRd (n cells : Nat) (f : Nat → Value) : Value → Nat → World → Prop := fun v g w => v = .slice (some ⟨g, 0, none⟩) n n ∧ g < w.heap.size ∧ Rd w (g + 1) (some ⟨g, 0, none⟩) cells f
theorem isEmp_keep {base : Nat} {e : TypeId} {v : Value} {g : Nat} {w1 w2 : World} (h : isEmp base e v g w1) (hb : Below w1.heap.size w1 w2) : isEmp base e v g w2 :=
  ⟨h.1, h.2.1, (hb.block g (Array.getElem?_eq_some_iff.1 h.2.2).1).trans h.2.2⟩
theorem isOwn_keep {base : Nat} {e : TypeId} {size n : Nat} {f : Nat → Value} {v : Value} {g : Nat} {w1 w2 : World} (h : isOwn base e size n f v g w1) (hb : Below w1.heap.size w1 w2) : isOwn base e size n f v g w2 := by
  obtain ⟨A, c, h1, h2⟩ := h
  exact ⟨A, c, h1, h2.below hb fun k hk => (h2.lt k hk).2⟩
theorem isRd_keep {n cells : Nat} {f : Nat → Value} {v : Value} {g : Nat} {w1 w2 : World} (h : isRd n cells f v g w1) (hb : Below w1.heap.size w1 w2) : isRd n cells f v g w2 :=
  ⟨h.1, Nat.lt_of_lt_of_le h.2.1 hb.size, h.2.2.below (hb.mono (by have := h.2.1; omega))⟩
end Go.Proofs.YtfdgjbanajodfaaDoor
