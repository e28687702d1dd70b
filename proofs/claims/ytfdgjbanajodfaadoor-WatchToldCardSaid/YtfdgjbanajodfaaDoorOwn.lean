/- Slices of the call's own, told by a function of the place: 'Own'; append's and make's laws in its words. -/
import Derived.Test.YtfdgjbanajodfaaDoorWords
import Derived.Maps.AppendAt
import Derived.OwnWalk
import Derived.RegionTactic
import Derived.Deep.AppendLies
set_option linter.unusedVariables false
set_option linter.unusedSimpArgs false
namespace Go.Proofs.YtfdgjbanajodfaaDoor
open Go.RowKit

/-- The slice at A, of n elements of type e ('size' cells each), is nil or lies at the head of a block from 'base' on, which is not frozen; its cells are f 0, f 1, .. -/
def Own (w : World) (base : Nat) (e : TypeId) (size : Nat) (A : Option Addr) (n cap : Nat) (f : Nat → Value) : Prop :=
  (A = none ∧ n = 0 ∧ cap = 0) ∨
  ∃ (g : Nat) (cur : Array Value), A = some ⟨g, 0, none⟩ ∧ base ≤ g ∧ w.heap[g]? = some (.cells cur e (0, 0)) ∧ n ≤ cap ∧ cap ≤ maxLen ∧ cur.size = cap * size ∧ ∀ j, j < n * size → cur[j]? = some (f j)

def ablock (A : Option Addr) : Option Nat := A.map (·.block)

section
variable {w w' : World} {base : Nat} {e : TypeId} {size : Nat} {A : Option Addr} {n cap : Nat} {f : Nat → Value}

theorem Own.nil_ (w : World) (base : Nat) (e : TypeId) (size : Nat) (f : Nat → Value) : Own w base e size none 0 0 f := .inl ⟨rfl, rfl, rfl⟩

theorem Own.lt (h : Own w base e size A n cap f) : ∀ k, ablock A = some k → base ≤ k ∧ k < w.heap.size := by
  intro k hk
  rcases h with ⟨rfl, _⟩ | ⟨g, cur, rfl, hb, hg, _⟩
  · simp [ablock] at hk
  · simp [ablock] at hk
    subst hk
    exact ⟨hb, (Array.getElem?_eq_some_iff.1 hg).1⟩

theorem Own.pos (h : Own w base e size A n cap f) (hn : 0 < n) : ∃ g, A = some ⟨g, 0, none⟩ ∧ base ≤ g ∧ g < w.heap.size ∧ (∀ j, j < n * size → w.cell? ⟨g, j, none⟩ = some (f j)) ∧ ∀ j, w.frozen? ⟨g, j, none⟩ = false := by
  rcases h with ⟨_, h0, _⟩ | ⟨g, cur, rfl, hb, hg, _, _, _, hf⟩
  · omega
  · refine ⟨g, rfl, hb, (Array.getElem?_eq_some_iff.1 hg).1, fun j hj => ?_, fun j => ?_⟩
    · rw [cell_of_row w g j cur e (0, 0) hg, hf j hj]
    · simp [World.frozen?, hg]

theorem Own.base_le {base' : Nat} (h : Own w base e size A n cap f) (hb : base' ≤ base) : Own w base' e size A n cap f := by
  rcases h with h | ⟨g, cur, hA, hg, rest⟩
  · exact .inl h
  · exact .inr ⟨g, cur, hA, by omega, rest⟩

theorem Own.le (h : Own w base e size A n cap f) : n ≤ cap ∧ cap ≤ maxLen := by
  rcases h with ⟨_, h0, h1⟩ | ⟨g, cur, _, _, _, h0, h1, _⟩
  · subst h0 h1; exact ⟨Nat.le_refl _, by unfold maxLen; omega⟩
  · exact ⟨h0, h1⟩

theorem Own.rd (h : Own w base e size A n cap f) : Rd w w.heap.size A (n * size) f := by
  intro hn
  rcases Nat.eq_zero_or_pos n with h0 | h0
  · subst h0; simp at hn
  · obtain ⟨g, rfl, _, hlt, hc, _⟩ := h.pos h0
    refine ⟨_, rfl, hlt, fun j hj => ?_⟩
    have : (⟨g, 0, none⟩ : Addr).add j = ⟨g, j, none⟩ := by unfold Addr.add; split <;> simp_all
    rw [this]; exact hc j hj

theorem Own.congr {f' : Nat → Value} (h : Own w base e size A n cap f) (hf : ∀ j, j < n * size → f j = f' j) : Own w base e size A n cap f' := by
  rcases h with h | ⟨g, cur, hA, hb, hg, h1, h2, h3, h4⟩
  · exact .inl h
  · exact .inr ⟨g, cur, hA, hb, hg, h1, h2, h3, fun j hj => by rw [h4 j hj, hf j hj]⟩

theorem Own.same (h : Own w base e size A n cap f) (hk : ∀ k, ablock A = some k → w'.heap[k]? = w.heap[k]?) : Own w' base e size A n cap f := by
  rcases h with h | ⟨g, cur, rfl, hb, hg, rest⟩
  · exact .inl h
  · exact .inr ⟨g, cur, rfl, hb, by rw [hk g (by simp [ablock])]; exact hg, rest⟩

theorem Own.alloc (h : Own w base e size A n cap f) (o : Obj) : Own (w.alloc o) base e size A n cap f := h.same fun k hk => Below.heap_alloc _ _ _ (h.lt k hk).2
theorem Own.drew (h : Own w base e size A n cap f) : Own w.drew base e size A n cap f := h
theorem Own.drewN (h : Own w base e size A n cap f) (k : Nat) : Own (w.drewN k) base e size A n cap f := h
theorem Own.below {B : Nat} (h : Own w base e size A n cap f) (hb : Below B w w') (hA : ∀ k, ablock A = some k → k < B) : Own w' base e size A n cap f := h.same fun k hk => hb.block k (hA k hk)
theorem Own.grown {row : Option Nat} (h : Own w base e size A n cap f) (hg : w.grownBy w' row) (hne : ablock A = none ∨ ablock A ≠ row) : Own w' base e size A n cap f :=
  h.same fun k hk => hg.block k (h.lt k hk).2 (fun e => by rcases hne with h1 | h1 <;> simp [hk, ← e] at h1)
theorem Own.far (h : Own w base e size A n cap f) {p : Addr} (hp : ablock A ≠ some p.block) (u : Value) : Own (w.setCell p u) base e size A n cap f :=
  h.same fun k hk => Below.heap_setCell _ _ _ _ (fun e => hp (by rw [hk, e]))

/-- Two rows whose elements' types differ lie in two blocks. -/
theorem Own.ne_ {base' : Nat} {e' : TypeId} {size' : Nat} {A' : Option Addr} {n' cap' : Nat} {f' : Nat → Value} (h : Own w base e size A n cap f) (h' : Own w base' e' size' A' n' cap' f') (hne : e ≠ e') :
    ablock A = none ∨ ablock A ≠ ablock A' := by
  rcases h with ⟨rfl, _⟩ | ⟨g, cur, rfl, _, hg, _⟩
  · exact .inl rfl
  · refine .inr fun he => ?_
    rcases h' with ⟨rfl, _⟩ | ⟨g', cur', rfl, _, hg', _⟩
    · simp [ablock] at he
    · simp [ablock] at he
      subst he
      rw [hg] at hg'
      injection hg' with hg'
      injection hg' with _ ht
      exact hne ht

theorem Own.set_ {g j : Nat} {f' : Nat → Value} (h : Own w base e size (some ⟨g, 0, none⟩) n cap f) (u : Value) (hj : j < n * size) (hu : f' j = u) (hf : ∀ i, i < n * size → i ≠ j → f' i = f i) :
    Own (w.setCell ⟨g, j, none⟩ u) base e size (some ⟨g, 0, none⟩) n cap f' := by
  rcases h with ⟨h, _⟩ | ⟨g', cur, hA, hb, hg, h1, h2, h3, h4⟩
  · cases h
  · injection hA with hA
    injection hA with hA
    subst hA
    refine .inr ⟨g, cur.setIfInBounds j u, rfl, hb, by simp [World.setCell, Array.getElem?_modify, hg], h1, h2, by simpa using h3, fun i hi => ?_⟩
    rw [Array.getElem?_setIfInBounds]
    by_cases e : j = i
    · subst e
      have hjs : j < cur.size := by rw [h3]; exact Nat.lt_of_lt_of_le hj (Nat.mul_le_mul_right _ h1)
      simp [hjs, hu]
    · rw [if_neg e, h4 i hi, hf i hi (fun h => e h.symm)]

theorem Own.toRow (h : Own w base e size A n cap f) : w.ownsRow base e size (.slice A n cap) n ((List.range (n * size)).map f) := by
  refine ⟨by simp, ?_⟩
  rcases h with ⟨rfl, rfl, rfl⟩ | ⟨g, cur, rfl, hb, hg, h1, h2, h3, h4⟩
  · exact .inl ⟨rfl, rfl⟩
  · refine .inr ⟨g, cap, cur, rfl, hb, hg, h1, h2, h3, ?_⟩
    have hle : n * size ≤ cur.size := by rw [h3]; exact Nat.mul_le_mul_right _ h1
    apply List.ext_getElem
    · rw [List.length_take, List.length_map, List.length_range, Array.length_toList]; omega
    · intro i hi1 hi2
      simp only [List.length_map, List.length_range] at hi2
      have := h4 i hi2
      rw [Array.getElem?_eq_getElem (by omega)] at this
      injection this with this
      simpa using this

theorem Own.ofRow {v : Value} (h : w.ownsRow base e size v n ((List.range (n * size)).map f)) : ∃ A cap, v = .slice A n cap ∧ Own w base e size A n cap f := by
  obtain ⟨_, h⟩ := h
  rcases h with ⟨rfl, rfl⟩ | ⟨g, cap, cur, rfl, hb, hg, h1, h2, h3, h4⟩
  · exact ⟨none, 0, rfl, Own.nil_ _ _ _ _ _⟩
  · refine ⟨_, cap, rfl, .inr ⟨g, cur, rfl, hb, hg, h1, h2, h3, fun j hj => ?_⟩⟩
    have hle : n * size ≤ cur.size := by rw [h3]; exact Nat.mul_le_mul_right _ h1
    have := congrArg (fun l => l[j]?) h4
    simp only [List.getElem?_take, hj, if_true, List.getElem?_map, List.getElem?_range hj, Option.map_some] at this
    simpa using this

theorem Own.made (w : World) (base : Nat) (e : TypeId) (size n : Nat) (cs : Array Value) (f : Nat → Value) (g : Nat) (hg : g = w.heap.size) (hb : base ≤ w.heap.size) (hs : cs.size = n * size) (hn : n ≤ maxLen) (hf : ∀ j, j < n * size → cs[j]? = some (f j)) :
    Own (w.alloc (.cells cs e)) base e size (some ⟨g, 0, none⟩) n n f := by
  subst hg
  exact .inr ⟨w.heap.size, cs, rfl, hb, heap_alloc_new w _, Nat.le_refl _, hn, hs, hf⟩
theorem Own.empty (w : World) (base : Nat) (e : TypeId) (size : Nat) (f : Nat → Value) (g : Nat) (hg : g = w.heap.size) (hb : base ≤ w.heap.size) : Own (w.alloc (.cells #[] e)) base e size (some ⟨g, 0, none⟩) 0 0 f :=
  Own.made w base e size 0 #[] f g hg hb (by simp) (by unfold maxLen; omega) (fun j hj => absurd hj (by simp))

theorem Own.pos1 (h : Own w base e 1 A n cap f) (hn : 0 < n) : ∃ g, A = some ⟨g, 0, none⟩ ∧ base ≤ g ∧ g < w.heap.size ∧ (∀ j, j < n → w.cell? ⟨g, j, none⟩ = some (f j)) ∧ ∀ j, w.frozen? ⟨g, j, none⟩ = false := by
  have := h.pos hn
  rwa [Nat.mul_one] at this
theorem Own.rd1 (h : Own w base e 1 A n cap f) : Rd w w.heap.size A n f := by have := h.rd; rwa [Nat.mul_one] at this
theorem Own.congr1 {f' : Nat → Value} (h : Own w base e 1 A n cap f) (hf : ∀ j, j < n → f j = f' j) : Own w base e 1 A n cap f' := h.congr (by rw [Nat.mul_one]; exact hf)
theorem Own.set1 {g j : Nat} {f' : Nat → Value} (h : Own w base e 1 (some ⟨g, 0, none⟩) n cap f) (u : Value) (hj : j < n) (hu : f' j = u) (hf : ∀ i, i < n → i ≠ j → f' i = f i) :
    Own (w.setCell ⟨g, j, none⟩ u) base e 1 (some ⟨g, 0, none⟩) n cap f' := h.set_ u (by rw [Nat.mul_one]; exact hj) hu (by rw [Nat.mul_one]; exact hf)
end
/-- Worlds that differ in their draws alone. -/
def Sim (a b : World) : Prop := b.heap = a.heap ∧ b.os = a.os ∧ b.tape = a.tape ∧ b.output = a.output
theorem below_sim {B : Nat} {w a b : World} (h : Below B w a) (e : Sim a b) : Below B w b := by
  obtain ⟨h1, h2, h3, h4⟩ := e
  exact ⟨h2.trans h.os, h3.trans h.tape, h4.trans h.output, by rw [h1]; exact h.size, fun k hk => by rw [h1]; exact h.block k hk⟩
theorem Own.sim {a b : World} {base : Nat} {e : TypeId} {size : Nat} {A : Option Addr} {n cap : Nat} {f : Nat → Value} (h : Own a base e size A n cap f) (s : Sim a b) : Own b base e size A n cap f := h.same fun k _ => by rw [s.1]
theorem cell_sim {a b : World} (s : Sim a b) (p : Addr) : b.cell? p = a.cell? p := by unfold World.cell?; rw [s.1]
/-- The world at hand under a name of its own. -/
theorem at_world {F : World → Prop} {W : World} (Φ : World → Prop) (hΦ : Φ W) (h : ∀ W', Φ W' → F W') : F W := h W hΦ
theorem own_cell {w : World} {base : Nat} {e : TypeId} {size k c : Nat} {F : Nat → Value} {q : Nat} (ho : Own w base e size (some ⟨q, 0, none⟩) k c F) {j : Nat} (hj : j < k * size) (hk : 0 < k) : w.cell? ⟨q, j, none⟩ = some (F j) := by
  obtain ⟨g', e, _, _, hc, _⟩ := ho.pos hk
  injection e with e; injection e with e; subst e
  exact hc j hj
theorem own_cell1 {w : World} {base : Nat} {e : TypeId} {k c : Nat} {F : Nat → Value} {q : Nat} (ho : Own w base e 1 (some ⟨q, 0, none⟩) k c F) {j : Nat} (hj : j < k) : w.cell? ⟨q, j, none⟩ = some (F j) := own_cell ho (by omega) (by omega)
theorem own_frz {w : World} {base : Nat} {e : TypeId} {size k c : Nat} {F : Nat → Value} {q : Nat} (ho : Own w base e size (some ⟨q, 0, none⟩) k c F) (hk : 0 < k) (o : Nat) : w.frozen? ⟨q, o, none⟩ = false := by
  obtain ⟨g', e, _, _, _, hf⟩ := ho.pos hk
  injection e with e; injection e with e; subst e
  exact hf o
theorem Rd.alloc {w : World} {B n : Nat} {A : Option Addr} {f : Nat → Value} (h : Rd w B A n f) (hB : B ≤ w.heap.size) (o : Obj) : Rd (w.alloc o) B A n f := h.keep fun p hp => World.cell?_alloc_lt w o p (by omega)
theorem Rd.setCell {w : World} {B n : Nat} {A : Option Addr} {f : Nat → Value} (h : Rd w B A n f) {p : Addr} (hB : B ≤ p.block) (u : Value) : Rd (w.setCell p u) B A n f :=
  h.keep fun q hq => World.cell?_setCell_other w p q u (fun e => by subst e; omega)
theorem Rd.grown {w w' : World} {B n : Nat} {A : Option Addr} {f : Nat → Value} (h : Rd w B A n f) {row : Option Nat} (hg : w.grownBy w' row) (hB : B ≤ w.heap.size) (hr : ∀ g, row = some g → B ≤ g) : Rd w' B A n f :=
  h.keep fun p hp => World.cell?_of_block (hg.block p.block (by omega) (fun e => by have := hr _ e.symm; omega))
theorem Rd.drewN {w : World} {B n : Nat} {A : Option Addr} {f : Nat → Value} (h : Rd w B A n f) (k : Nat) : Rd (w.drewN k) B A n f := h

theorem cell_new (w : World) (cs : Array Value) (t : TypeId) {n : Nat} (f : Nat → Value) (g : Nat) (hg : g = w.heap.size) (hf : ∀ j, j < n → cs[j]? = some (f j)) : Rd (w.alloc (.cells cs t)) (g + 1) (some ⟨g, 0, none⟩) n f := by
  subst hg
  intro _
  refine ⟨_, rfl, by simp, fun j hj => ?_⟩
  have : (⟨w.heap.size, 0, none⟩ : Addr).add j = ⟨w.heap.size, j, none⟩ := by unfold Addr.add; split <;> simp_all
  rw [this, World.cell?_alloc_new, hf j hj]

theorem one_cell (v : Value) : ∀ j, j < 1 → (#[v])[j]? = some v := by
  intro j hj
  obtain rfl : j = 0 := by omega
  rfl

section
variable {P : Program}
theorem append_of_nil (w : World) (base : Nat) (t ty e : TypeId) (i : TypeInfo) (size : Nat) (ht : P.underlying t = some (.slice e)) (hi : P.info? e = some i)
    (v : Value) (n : Nat) (xs : List Value) (hown : w.ownsRow base e size v n xs) (c : Nat) : (Builtin.append_ #[t, t] ty #[v, .slice none 0 c]).run P w = .ok v w := by
  rcases hown.2 with ⟨rfl, rfl⟩ | ⟨g, cap, cur, rfl, _, _, hnc, _⟩
  · simp [Builtin.append_, run_underlying ht, sizeOf, typeInfo, hi, Builtin.lenOf, Builtin.firstCells]
  · simp [Builtin.append_, run_underlying ht, sizeOf, typeInfo, hi, Builtin.lenOf, Builtin.firstCells, hnc, storeCells]

/-- append(s, x...): s of the call's own (or nil), x whatever slice that reads as g. -/
theorem run_ap (w : World) (t ty e : TypeId) (i : TypeInfo) (z : Value) (size bytes : Nat) (ht : P.underlying t = some (.slice e)) (hi : P.info? e = some i) (hz : i.zero = some z)
    (hsize : i.size = size) (hby : i.bytes = bytes) (hzs : z.cells.size = size) (hsz : 0 < size) (base : Nat)
    {A : Option Addr} {n cap : Nat} {f : Nat → Value} (hown : Own w base e size A n cap f)
    {B : Nat} {X : Option Addr} {m c : Nat} {g : Nat → Value} (hr : Rd w B X (m * size) g) (h1 : ∀ j, j < m * size → (g j).oneCell' = true)
    (f' : Nat → Value) (hf1 : ∀ j, j < n * size → f' j = f j) (hf2 : ∀ j, j < m * size → f' (n * size + j) = g j)
    (h63 : n + m ≤ maxLen) (hbytes : (n + m) * bytes ≤ 140737488355328) (hbase : base ≤ w.heap.size) :
    ∃ A' cap' w', (Builtin.append_ #[t, t] ty #[.slice A n cap, .slice X m c]).run P w = .ok (.slice A' (n + m) cap') w' ∧ Own w' base e size A' (n + m) cap' f' ∧ w.grownBy w' (ablock A) ∧ (ablock A' = ablock A ∨ ablock A' = some w.heap.size) := by
  have hob : ∀ A n cap, (Value.slice A n cap).ownBlock = ablock A := by intro A n cap; cases A <;> rfl
  have hrow := hown.toRow
  have hjoin : ((List.range (n * size)).map f ++ (List.range (m * size)).map g) = (List.range ((n + m) * size)).map f' := by
    rw [Nat.add_mul, List.range_add, List.map_append, List.map_map]
    congr 1
    · exact List.map_congr_left fun j hj => (hf1 j (List.mem_range.1 hj)).symm
    · exact List.map_congr_left fun j hj => (hf2 j (List.mem_range.1 hj)).symm
  rcases Nat.eq_zero_or_pos m with hm | hm
  · rcases X with _ | ad
    · subst hm
      refine ⟨A, cap, w, append_of_nil w base t ty e i size ht hi _ n _ hrow c, by simpa using hown.congr fun j hj => (hf1 j hj).symm, World.grownBy.refl w _, .inl rfl⟩
    · subst hm
      have hnews : ∀ j u, (([] : List Value))[j]? = some u → w.cell? (ad.add j) = some u := by intro j u hu; simp at hu
      obtain ⟨v', w', hrun, h2, h3, _, h5⟩ := run_append_own_at (P := P) w base t ty e i z size bytes ht hi hz hsize hby hzs hsz _ n _ hrow ad 0 c [] (by simp) hnews (by simp) h63 hbytes hbase
      have h2' : w'.ownsRow base e size v' (n + 0) ((List.range ((n + 0) * size)).map f') := by
        rw [← hjoin]; simpa using h2
      obtain ⟨A', cap', rfl, h6⟩ := Own.ofRow h2'
      exact ⟨A', cap', w', hrun, h6, by rw [hob] at h3; exact h3, by rw [hob, hob] at h5; exact h5⟩
  · have hpos : 0 < m * size := Nat.mul_pos hm hsz
    obtain ⟨ad, rfl, _, hc⟩ := hr hpos
    have hnews : ∀ j u, ((List.range (m * size)).map g)[j]? = some u → w.cell? (ad.add j) = some u := by
      intro j u hu
      rcases Nat.lt_or_ge j (m * size) with hj | hj
      · rw [List.getElem?_map, List.getElem?_range hj] at hu
        rw [hc j hj]; exact hu
      · rw [List.getElem?_eq_none (by simpa using hj)] at hu; cases hu
    obtain ⟨v', w', hrun, h2, h3, _, h5⟩ := run_append_own_at (P := P) w base t ty e i z size bytes ht hi hz hsize hby hzs hsz _ n _ hrow ad m c _ (by simp) hnews
      (by intro u hu; obtain ⟨j, hj, rfl⟩ := List.mem_map.1 hu; exact h1 j (List.mem_range.1 hj)) h63 hbytes hbase
    have h2' : w'.ownsRow base e size v' (n + m) ((List.range ((n + m) * size)).map f') := by rw [← hjoin]; exact h2
    obtain ⟨A', cap', rfl, h6⟩ := Own.ofRow h2'
    exact ⟨A', cap', w', hrun, h6, by rw [hob] at h3; exact h3, by rw [hob, hob] at h5; exact h5⟩

theorem wpList_ap {w : World} {ops : Array Oper} {rest : List Oper} {o : Oper} {a : Act} {Q : Exit → Act → World → Prop} (hgd : o.guard = none) (s x : Operand) (t : TypeId)
    (ho : o.op = .call { callee := .builtin .append, args := #[s, x], argTypes := #[t, t] })
    (e : TypeId) (i : TypeInfo) (z : Value) (size bytes : Nat) (ht : P.underlying t = some (.slice e)) (hi : P.info? e = some i) (hz : i.zero = some z)
    (hsize : i.size = size) (hby : i.bytes = bytes) (hzs : z.cells.size = size) (hsz : 0 < size) (base : Nat)
    {A : Option Addr} {n cap : Nat} {f : Nat → Value} (hs : a.eval s = .slice A n cap) (hown : Own w base e size A n cap f)
    {B : Nat} {X : Option Addr} {m c : Nat} {g : Nat → Value} (hx : a.eval x = .slice X m c) (hr : Rd w B X (m * size) g) (h1 : ∀ j, j < m * size → (g j).oneCell' = true)
    (f' : Nat → Value) (hf1 : ∀ j, j < n * size → f' j = f j) (hf2 : ∀ j, j < m * size → f' (n * size + j) = g j)
    (k : Nat) (hk : n + m = k) (h63 : n + m ≤ maxLen) (hbytes : (n + m) * bytes ≤ 140737488355328) (hbase : base ≤ w.heap.size)
    (h : ∀ A' cap' w', Own w' base e size A' k cap' f' → w.grownBy w' (ablock A) → (ablock A' = ablock A ∨ ablock A' = some w.heap.size) → wpList P ops Q rest (a.put o.dst (.slice A' k cap')) w') :
    wpList P ops Q (o :: rest) a w := by
  subst hk
  refine wpList_plain hgd fun K hK => ?_
  obtain ⟨A', cap', w', hrun, h2, h3, h4⟩ := run_ap (P := P) w t o.type e i z size bytes ht hi hz hsize hby hzs hsz base hown hr h1 f' hf1 hf2 h63 hbytes hbase (c := c)
  unfold Oper.wp execOp
  simp only [ho, resolve, invoke, builtin, Sem.run_bind, Sem.run_pure, Result.andThen_ok, List.map_toArray, List.map_cons, List.map_nil, hs, hx, hrun]
  exact hK _ _ (h A' cap' w' h2 h3 h4)

theorem wpList_ap1 {w : World} {ops : Array Oper} {rest : List Oper} {o : Oper} {a : Act} {Q : Exit → Act → World → Prop} (hgd : o.guard = none) (s x : Operand) (t : TypeId)
    (ho : o.op = .call { callee := .builtin .append, args := #[s, x], argTypes := #[t, t] })
    (e : TypeId) (i : TypeInfo) (z : Value) (bytes : Nat) (ht : P.underlying t = some (.slice e)) (hi : P.info? e = some i) (hz : i.zero = some z)
    (hsize : i.size = 1) (hby : i.bytes = bytes) (hzs : z.cells.size = 1) (base : Nat)
    {A : Option Addr} {n cap : Nat} {f : Nat → Value} (hs : a.eval s = .slice A n cap) (hown : Own w base e 1 A n cap f)
    {B : Nat} {X : Option Addr} {m c : Nat} {g : Nat → Value} (hx : a.eval x = .slice X m c) (hr : Rd w B X m g) (h1 : ∀ j, j < m → (g j).oneCell' = true)
    (f' : Nat → Value) (hf1 : ∀ j, j < n → f' j = f j) (hf2 : ∀ j, j < m → f' (n + j) = g j)
    (k : Nat) (hk : n + m = k) (h63 : n + m ≤ maxLen) (hbytes : (n + m) * bytes ≤ 140737488355328) (hbase : base ≤ w.heap.size)
    (h : ∀ A' cap' w', Own w' base e 1 A' k cap' f' → w.grownBy w' (ablock A) → (ablock A' = ablock A ∨ ablock A' = some w.heap.size) → wpList P ops Q rest (a.put o.dst (.slice A' k cap')) w') :
    wpList P ops Q (o :: rest) a w :=
  wpList_ap hgd s x t ho e i z 1 bytes ht hi hz hsize hby hzs (by omega) base hs hown hx (by rw [Nat.mul_one]; exact hr) (by rw [Nat.mul_one]; exact h1) f' (by rw [Nat.mul_one]; exact hf1) (by rw [Nat.mul_one, Nat.mul_one]; exact hf2) k hk h63 hbytes hbase h

theorem made_cells (z : Value) (n : Nat) (hz : z.cells = #[z]) : (madeCells z.cells n).size = n ∧ ∀ j, j < n → (madeCells z.cells n)[j]? = some z := by
  refine ⟨size_madeCells _ _, fun j hj => ?_⟩
  rw [hz]
  have := toList_madeCells_one z n
  rw [← Array.getElem?_toList, this, List.getElem?_replicate, if_pos hj]

/-- make([]T, n), T of one cell. -/
theorem wpList_mk1 {w : World} {ops : Array Oper} {rest : List Oper} {o : Oper} {a : Act} {Q : Exit → Act → World → Prop} (hgd : o.guard = none) (l c : Operand) (t : TypeId) (hop : o.op = Op.makeSlice t l c)
    (e : TypeId) (i : TypeInfo) (z : Value) (bytes : Nat) (ht : P.underlying t = some (.slice e)) (hi : P.info? e = some i) (hz : i.zero = some z) (hsize : i.size = 1) (hby : i.bytes = bytes) (hzs : z.cells = #[z])
    (kl kc : IntKind) (n : Nat) (hl : a.eval l = .int kl n) (hc : a.eval c = .int kc n) (hb : bytes * n ≤ 281474976710656) (hn : n ≤ maxLen)
    (base g : Nat) (hg : w.heap.size = g) (hbase : base ≤ g)
    (h : ∀ w', Own w' base e 1 (some ⟨g, 0, none⟩) n n (fun _ => z) → w' = w.alloc (.cells (madeCells z.cells n) e) → wpList P ops Q rest (a.put o.dst (.slice (some ⟨g, 0, none⟩) n n)) w') :
    wpList P ops Q (o :: rest) a w := by
  subst hg
  refine wpList_plain hgd fun K hK => ?_
  have hrun := run_make (P := P) w t e i z ht hi hz kl kc n n (by omega) (by omega) (by rw [hby, ← Int.natCast_mul]; omega) (by unfold maxLen at hn; omega)
  have hm := made_cells z n hzs
  unfold Oper.wp
  simp only [execOp, hop, hl, hc, Sem.run_bind, hrun, Result.andThen_ok, Sem.run_pure]
  refine hK _ _ ?_
  simp only [Int.toNat_natCast, hsize, Nat.mul_one]
  exact h _ (Own.made w base e 1 n _ _ w.heap.size rfl hbase (by rw [hm.1, Nat.mul_one]) hn (by rw [Nat.mul_one]; exact hm.2)) rfl
end
end Go.Proofs.YtfdgjbanajodfaaDoor
