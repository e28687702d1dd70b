/- The walk of suspect.Play. -/
import Derived.Test.YtcipdjdbafngkaaSusMath
import Derived.Test.YtcipdjdbafngkaaRepI
import Derived.Test.YtcipdjdbafngkaaShr
import Derived.Test.YtcipdjdbafngkaaText
import Derived.Deep.CutRange
import Derived.Deep.CutBlock
set_option linter.unusedVariables false
set_option linter.unusedSimpArgs false
namespace Go.Proofs.Ytcipdjdbafngkaa
open Go.RowKit

theorem infoErrno2 : (Try.prog.info? 28).map (fun i => (i.zero, i.size, i.bytes)) = some (some (.int .i64 0), 1, 8) := by kernel_rfl
def suF (s : SS) (C W : Value) (j : Nat) : Value := if j = 0 then C else if j = 1 then .int .u32 (s.set : Nat) else if j = 2 then .int .i64 (s.wrong : Nat) else W
/-- The state in memory: the struct's block g, rows gh and gw. -/
structure SuSt (w : World) (base g n : Nat) (s : SS) (gh gw : Nat) (C : Value) : Prop where
  own : Own w base 41 4 (some ⟨g, 0, none⟩) 1 1 (suF s C (.slice (some ⟨gw, 0, none⟩) n n))
  oh : Own w base 3 1 (some ⟨gh, 0, none⟩) n n (fun i => .int .i64 (s.heard i : Nat))
  ow : Own w base 3 1 (some ⟨gw, 0, none⟩) n n (fun i => .int .i64 (s.waits i : Nat))
  ne : gh ≠ gw
section
variable {w w' : World} {base g n : Nat} {s : SS} {gh gw : Nat} {C : Value}
theorem SuSt.sim (h : SuSt w base g n s gh gw C) (e : Sim w w') : SuSt w' base g n s gh gw C := ⟨h.own.sim e, h.oh.sim e, h.ow.sim e, h.ne⟩
theorem SuSt.lt (h : SuSt w base g n s gh gw C) : (base ≤ g ∧ base ≤ gh ∧ base ≤ gw) ∧ g < w.heap.size ∧ gh < w.heap.size ∧ gw < w.heap.size :=
  ⟨⟨(h.own.lt g rfl).1, (h.oh.lt gh rfl).1, (h.ow.lt gw rfl).1⟩, (h.own.lt g rfl).2, (h.oh.lt gh rfl).2, (h.ow.lt gw rfl).2⟩
theorem SuSt.keep (h : SuSt w base g n s gh gw C) (hb : Below w.heap.size w w') : SuSt w' base g n s gh gw C :=
  ⟨h.own.below hb (fun k hk => (h.own.lt k hk).2), h.oh.below hb (fun k hk => (h.oh.lt k hk).2), h.ow.below hb (fun k hk => (h.ow.lt k hk).2), h.ne⟩
theorem SuSt.neg (h : SuSt w base g n s gh gw C) : g ≠ gh ∧ g ≠ gw := by
  have key : ∀ {q : Nat} {F : Nat → Value}, Own w base 3 1 (some ⟨q, 0, none⟩) n n F → g ≠ q := by
    intro q F ho e
    subst e
    rcases h.own.ne_ ho (by decide) with h1 | h1
    · cases h1
    · exact h1 rfl
  exact ⟨key h.oh, key h.ow⟩
theorem SuSt.heads (h : SuSt w base g n s gh gw C) : w.cell? ⟨g, 0, none⟩ = some C ∧ w.cell? ⟨g, 1, none⟩ = some (.int .u32 (s.set : Nat)) ∧ w.cell? ⟨g, 2, none⟩ = some (.int .i64 (s.wrong : Nat)) ∧ w.cell? ⟨g, 3, none⟩ = some (.slice (some ⟨gw, 0, none⟩) n n) := by
  have := fun j hj => own_cell h.own (j := j) hj (by omega)
  exact ⟨this 0 (by omega), this 1 (by omega), this 2 (by omega), this 3 (by omega)⟩
theorem SuSt.frz (h : SuSt w base g n s gh gw C) (hn : 0 < n) (o : Nat) : w.frozen? ⟨g, o, none⟩ = false ∧ w.frozen? ⟨gh, o, none⟩ = false ∧ w.frozen? ⟨gw, o, none⟩ = false :=
  ⟨own_frz h.own (by omega) o, own_frz h.oh hn o, own_frz h.ow hn o⟩
theorem SuSt.rows (h : SuSt w base g n s gh gw C) {i : Nat} (hi : i < n) : w.cell? ⟨gh, i, none⟩ = some (.int .i64 (s.heard i : Nat)) ∧ w.cell? ⟨gw, i, none⟩ = some (.int .i64 (s.waits i : Nat)) :=
  ⟨own_cell h.oh (by omega) (by omega), own_cell h.ow (by omega) (by omega)⟩
theorem SuSt.setG (h : SuSt w base g n s gh gw C) {j : Nat} (hj : j < 4) (s' : SS) (C' u : Value) (hH : s'.heard = s.heard) (hW : s'.waits = s.waits)
    (hu : suF s' C' (.slice (some ⟨gw, 0, none⟩) n n) j = u) (hf : ∀ i, i ≠ j → suF s' C' (.slice (some ⟨gw, 0, none⟩) n n) i = suF s C (.slice (some ⟨gw, 0, none⟩) n n) i) : SuSt (w.setCell ⟨g, j, none⟩ u) base g n s' gh gw C' := by
  obtain ⟨n1, n2⟩ := h.neg
  refine ⟨h.own.set_ u (by omega) hu (fun i _ hi => hf i hi), ?_, ?_, h.ne⟩
  · rw [hH]; exact h.oh.far (by simp [ablock]; omega) u
  · rw [hW]; exact h.ow.far (by simp [ablock]; omega) u
theorem SuSt.set_ (h : SuSt w base g n s gh gw C) (x : Nat) : SuSt (w.setCell ⟨g, 1, none⟩ (.int .u32 (x : Nat))) base g n { s with set := x } gh gw C :=
  h.setG (by omega) _ C _ rfl rfl rfl (fun i hi => by unfold suF; simp [hi])
theorem SuSt.wrong_ (h : SuSt w base g n s gh gw C) (x : Nat) : SuSt (w.setCell ⟨g, 2, none⟩ (.int .i64 (x : Nat))) base g n { s with wrong := x } gh gw C :=
  h.setG (by omega) _ C _ rfl rfl rfl (fun i hi => by unfold suF; simp [hi])
theorem SuSt.codes_ (h : SuSt w base g n s gh gw C) (C' : Value) : SuSt (w.setCell ⟨g, 0, none⟩ C') base g n s gh gw C' :=
  h.setG (by omega) _ C' _ rfl rfl rfl (fun i hi => by unfold suF; simp [hi])
theorem SuSt.heard_ (h : SuSt w base g n s gh gw C) {i : Nat} (hi : i < n) (x : Nat) : SuSt (w.setCell ⟨gh, i, none⟩ (.int .i64 (x : Nat))) base g n { s with heard := upd s.heard i x } gh gw C := by
  obtain ⟨n1, n2⟩ := h.neg
  have m := h.ne
  exact ⟨h.own.far (by simp [ablock]; omega) _, h.oh.set1 _ hi (by show Value.int .i64 (upd s.heard i x i : Nat) = _; rw [upd_same]) (fun j _ hj => by show Value.int .i64 (upd s.heard i x j : Nat) = _; rw [upd_ne _ _ hj]), h.ow.far (by simp [ablock]; omega) _, h.ne⟩
theorem SuSt.waits_ (h : SuSt w base g n s gh gw C) {i : Nat} (hi : i < n) (x : Nat) : SuSt (w.setCell ⟨gw, i, none⟩ (.int .i64 (x : Nat))) base g n { s with waits := upd s.waits i x } gh gw C := by
  obtain ⟨n1, n2⟩ := h.neg
  have m := h.ne
  exact ⟨h.own.far (by simp [ablock]; omega) _, h.oh.far (by simp [ablock]; omega) _, h.ow.set1 _ hi (by show Value.int .i64 (upd s.waits i x i : Nat) = _; rw [upd_same]) (fun j _ hj => by show Value.int .i64 (upd s.waits i x j : Nat) = _; rw [upd_ne _ _ hj]), h.ne⟩
theorem SuSt.now_ (h : SuSt w base g n s gh gw C) (x : Nat) : SuSt w base g n { s with now := x } gh gw C := ⟨h.own, h.oh, h.ow, h.ne⟩
end
/-- Between the rounds of Play. -/
structure SuP (w wr : World) (g n : Nat) (s : SS) (gh gw : Nat) (j : Nat) (A : Option Addr) (cap : Nat) (fc : Nat → Int) : Prop where
  st : SuSt wr (w.heap.size + 1) g n s gh gw (.slice A j cap)
  cod : Own wr (w.heap.size + 1) 28 1 A j cap (fun i => .int .i64 (fc i))
  rv : wr.heap[w.heap.size]? = some (.cells #[.slice none 0 0, .int .u32 0, .int .i64 0, .slice none 0 0] 41 (0, 0))
  bel : Below w.heap.size w wr
section
variable {w wr wr' : World} {g n : Nat} {s s' : SS} {gh gw : Nat} {j : Nat} {A : Option Addr} {cap : Nat} {fc : Nat → Int}
theorem SuP.keep (h : SuP w wr g n s gh gw j A cap fc) (hb : Below wr.heap.size wr wr') : SuP w wr' g n s gh gw j A cap fc := by
  have := h.st.lt
  exact ⟨h.st.keep hb, h.cod.below hb (fun k hk => (h.cod.lt k hk).2), (hb.block _ (by omega)).trans h.rv, h.bel.trans (hb.mono h.bel.size)⟩
theorem SuP.sim (h : SuP w wr g n s gh gw j A cap fc) (e : Sim wr wr') : SuP w wr' g n s gh gw j A cap fc := h.keep (below_sim (Below.refl _ _) e)
theorem SuP.alloc (h : SuP w wr g n s gh gw j A cap fc) (o : Obj) : SuP w (wr.alloc o) g n s gh gw j A cap fc := h.keep ((Below.refl _ _).alloc (Nat.le_refl _) o)
/-- A cell of the state is set. -/
theorem SuP.step (h : SuP w wr g n s gh gw j A cap fc) {q o : Nat} {u : Value} (hq : q = g ∨ q = gh ∨ q = gw) (h' : SuSt (wr.setCell ⟨q, o, none⟩ u) (w.heap.size + 1) g n s' gh gw (.slice A j cap)) : SuP w (wr.setCell ⟨q, o, none⟩ u) g n s' gh gw j A cap fc := by
  have hl := h.st.lt
  have t1 := h.cod.ne_ h.st.own (by decide)
  have t2 := h.cod.ne_ h.st.oh (by decide)
  have t3 := h.cod.ne_ h.st.ow (by decide)
  refine ⟨h', h.cod.far ?_ u, (Below.heap_setCell _ _ _ _ (by show w.heap.size ≠ q; omega)).trans h.rv, h.bel.setCell (by show w.heap.size ≤ q; omega) u⟩
  show ablock A ≠ some q
  intro e
  rw [e] at t1 t2 t3
  simp only [ablock, Option.map_some, reduceCtorEq, false_or, ne_eq, Option.some.injEq] at t1 t2 t3
  omega
theorem SuP.now_ (h : SuP w wr g n s gh gw j A cap fc) (x : Nat) : SuP w wr g n { s with now := x } gh gw j A cap fc := ⟨h.st.now_ x, h.cod, h.rv, h.bel⟩
/-- The code is put behind. -/
theorem SuP.next (h : SuP w wr g n s gh gw j A cap fc) {w2 : World} {A2 : Option Addr} {cap2 : Nat} {o : Obj} (hg : (wr.alloc o).grownBy w2 (ablock A)) (ho : Own w2 (w.heap.size + 1) 28 1 A2 (j + 1) cap2 (fun i => .int .i64 (fc i))) :
    SuSt w2 (w.heap.size + 1) g n s gh gw (.slice A j cap) ∧ SuP w (w2.setCell ⟨g, 0, none⟩ (.slice A2 (j + 1) cap2)) g n s gh gw (j + 1) A2 cap2 fc := by
  have hl := h.st.lt
  have t1 := h.cod.ne_ h.st.own (by decide)
  have t2 := h.cod.ne_ h.st.oh (by decide)
  have t3 := h.cod.ne_ h.st.ow (by decide)
  have hx : ∀ q, q = g ∨ q = gh ∨ q = gw → some q ≠ ablock A := by
    intro q hq e
    rw [← e] at t1 t2 t3
    simp only [ablock, Option.map_some, reduceCtorEq, false_or, ne_eq, Option.some.injEq] at t1 t2 t3
    omega
  have hk : ∀ k, k < wr.heap.size → some k ≠ ablock A → w2.heap[k]? = wr.heap[k]? := fun k h1 h2 => (hg.block k (by simp; omega) h2).trans (Below.heap_alloc _ _ k h1)
  have hst : SuSt w2 (w.heap.size + 1) g n s gh gw (.slice A j cap) :=
    ⟨h.st.own.same fun k hk2 => (by simp [ablock] at hk2; subst hk2; exact hk g (by omega) (hx g (by simp))), h.st.oh.same fun k hk2 => (by simp [ablock] at hk2; subst hk2; exact hk gh (by omega) (hx gh (by simp))), h.st.ow.same fun k hk2 => (by simp [ablock] at hk2; subst hk2; exact hk gw (by omega) (hx gw (by simp))), h.st.ne⟩
  have u1 := ho.ne_ hst.own (by decide)
  refine ⟨hst, hst.codes_ _, ho.far ?_ _, ?_, ?_⟩
  · show ablock A2 ≠ some g
    intro e
    rw [e] at u1
    simp [ablock] at u1
  · rw [Below.heap_setCell _ _ _ _ (by show w.heap.size ≠ g; omega), hk _ (by omega) (fun e => by have := (h.cod.lt _ e.symm).1; omega)]
    exact h.rv
  · refine (((h.bel.alloc h.bel.size o).grown hg (by have := h.bel.size; simp; omega) (fun k hk => by have := (h.cod.lt k hk).1; omega)).setCell ?_ _)
    show w.heap.size ≤ g
    omega
end
end Go.Proofs.Ytcipdjdbafngkaa
