/- Maps from integers to integers that the call itself makes, told by a function of the key. -/
import Derived.Test.YthonnpimfidkdaaOwn
import Derived.Maps.OwnOps
import Derived.Maps.Views
set_option linter.unusedVariables false
set_option linter.unusedSimpArgs false
namespace Go.Proofs.Ythonnpimfidkdaa
open Go.RowKit Go.Maps

/-- Block b is a map (key type k, element type e, both of integers) of at most n entries; at key x it holds m x, 0 where there is none. -/
def MapI (w : World) (P : Program) (k e : TypeId) (qk qe : IntKind) (b n : Nat) (m : Int → Int) : Prop :=
  ∃ D : DataW Unit, w.ownsMap P k (plainElem P e) b n D ∧ IsMap D ∧ ∀ x, D.atKey (.int qk x) (.lit (.int qe 0)) = .lit (.int qe (m x))

section
variable {w w' : World} {P : Program} {k e : TypeId} {qk qe : IntKind} {b n : Nat} {m : Int → Int}

theorem MapI.made (w : World) (P : Program) (k e : TypeId) (qk qe : IntKind) : MapI (w.alloc (.map #[] 0)) P k e qk qe w.heap.size 0 (fun _ => 0) :=
  ⟨.map [], World.ownsMap_made w P k _, ⟨[], rfl⟩, fun _ => rfl⟩

theorem MapI.same (h : MapI w P k e qk qe b n m) (hb : w'.heap[b]? = w.heap[b]?) : MapI w' P k e qk qe b n m := by
  obtain ⟨D, ⟨es, clock, h1, h2⟩, h3, h4⟩ := h
  exact ⟨D, ⟨es, clock, hb.trans h1, h2⟩, h3, h4⟩
theorem MapI.lt (h : MapI w P k e qk qe b n m) : b < w.heap.size := by
  obtain ⟨D, ⟨es, clock, h1, _⟩, _⟩ := h
  exact (Array.getElem?_eq_some_iff.1 h1).1
theorem MapI.mono {n' : Nat} (h : MapI w P k e qk qe b n m) (hn : n ≤ n') : MapI w P k e qk qe b n' m := by
  obtain ⟨D, h1, h2⟩ := h
  exact ⟨D, h1.mono hn, h2⟩
theorem MapI.alloc (h : MapI w P k e qk qe b n m) (o : Obj) : MapI (w.alloc o) P k e qk qe b n m := h.same (Below.heap_alloc _ _ _ h.lt)
theorem MapI.drew (h : MapI w P k e qk qe b n m) : MapI w.drew P k e qk qe b n m := h
theorem MapI.setCell (h : MapI w P k e qk qe b n m) {p : Addr} (hp : b ≠ p.block) (u : Value) : MapI (w.setCell p u) P k e qk qe b n m := h.same (Below.heap_setCell _ _ _ _ hp)
theorem MapI.grown {row : Option Nat} (h : MapI w P k e qk qe b n m) (hg : w.grownBy w' row) (hne : some b ≠ row) : MapI w' P k e qk qe b n m := h.same (hg.block b h.lt hne)
theorem MapI.below {B : Nat} (h : MapI w P k e qk qe b n m) (hb : Below B w w') (hB : b < B) : MapI w' P k e qk qe b n m := h.same (hb.block b hB)

theorem MapI.look {t : TypeId} (h : MapI w P k e qk qe b n m) (K : Keyed P k) (hk : P.underlying k = some (.int qk)) (ht : P.underlying t = some (.map k e)) (he : P.underlying e = some (.int qe)) (hz : (zeroValue e).run P w = .ok (.int qe 0) w)
    (x : Int) (hx : (Lit.int qk x).wf = true) : (Instr.lookup t (.map (some b)) (.int qk x) false).run P w = .ok (.int qe (m x)) w ∧ (Lit.int qe (m x)).wf = true := by
  obtain ⟨D, h1, h2, h3⟩ := h
  obtain ⟨c, hrun, hat, hw⟩ := h1.lookup_int K ht he hz (keyOf_int_mk hk hx)
  rw [h3] at hat
  injection hat with hat
  injection hat with _ hat
  subst hat
  exact ⟨hrun, hw⟩

theorem MapI.put {t : TypeId} (h : MapI w P k e qk qe b n m) (K : Keyed P k) (hk : P.underlying k = some (.int qk)) (ht : P.underlying t = some (.map k e)) (he : P.underlying e = some (.int qe)) (hn : n < maxLen)
    (x v : Int) (hx : (Lit.int qk x).wf = true) (hv : (Lit.int qe v).wf = true) (m' : Int → Int) (hm' : m' x = v) (hm'' : ∀ y, y ≠ x → m' y = m y) :
    ∃ w', (Instr.mapUpdate t (.map (some b)) (.int qk x) (.int qe v)).run P w = .ok () w' ∧ MapI w' P k e qk qe b (n + 1) m' ∧ w.grownBy w' (some b) := by
  obtain ⟨D, h1, h2, h3⟩ := h
  obtain ⟨w', hrun, h4, h5⟩ := h1.update K ht hn (keyOf_int_mk hk hx) (plainElem_int he hv)
  refine ⟨w', hrun, ⟨_, h4, h2.put _ _, fun y => ?_⟩, h5⟩
  by_cases hy : y = x
  · subst hy
    rw [atKey_put_same h2 (show WideAt.IsKeyLit (.int qk y) from trivial), hm']
  · rw [atKey_put_other (fun h => hy (by injection h)), h3, hm'' y hy]

/-- m[x] at the operation. -/
theorem wpList_mget {ops : Array Oper} {rest : List Oper} {o : Oper} {a : Act} {Q : Exit → Act → World → Prop} (hgd : o.guard = none) (mo xo : Operand) (t : TypeId) (hop : o.op = Op.lookup t mo xo false)
    (K : Keyed P k) (hk : P.underlying k = some (.int qk)) (ht : P.underlying t = some (.map k e)) (he : P.underlying e = some (.int qe)) (hz : (zeroValue e).run P w = .ok (.int qe 0) w)
    (hm : a.eval mo = .map (some b)) (h : MapI w P k e qk qe b n m) (x : Int) (hx : a.eval xo = .int qk x) (hwx : (Lit.int qk x).wf = true)
    (hK : (Lit.int qe (m x)).wf = true → wpList P ops Q rest (a.put o.dst (.int qe (m x))) w) : wpList P ops Q (o :: rest) a w := by
  refine wpList_plain hgd fun K' hK' => ?_
  obtain ⟨hrun, hw⟩ := h.look K hk ht he hz x hwx
  unfold Oper.wp
  simp [execOp, hop, hm, hx, hrun, Result.andThen]
  exact hK' _ _ (hK hw)
/-- m[x] = v at the operation. -/
theorem wpList_mput {ops : Array Oper} {rest : List Oper} {o : Oper} {a : Act} {Q : Exit → Act → World → Prop} (hgd : o.guard = none) (mo xo vo : Operand) (t : TypeId) (hop : o.op = Op.mapUpdate t mo xo vo)
    (K : Keyed P k) (hk : P.underlying k = some (.int qk)) (ht : P.underlying t = some (.map k e)) (he : P.underlying e = some (.int qe))
    (hm : a.eval mo = .map (some b)) (h : MapI w P k e qk qe b n m) (hn : n < maxLen) (x v : Int) (hx : a.eval xo = .int qk x) (hv : a.eval vo = .int qe v) (hwx : (Lit.int qk x).wf = true) (hwv : (Lit.int qe v).wf = true)
    (m' : Int → Int) (hm' : m' x = v) (hm'' : ∀ y, y ≠ x → m' y = m y)
    (hK : ∀ w', MapI w' P k e qk qe b (n + 1) m' → w.grownBy w' (some b) → wpList P ops Q rest (a.put o.dst undef) w') : wpList P ops Q (o :: rest) a w := by
  refine wpList_plain hgd fun K' hK' => ?_
  obtain ⟨w', hrun, r1, r2⟩ := h.put K hk ht he hn x v hwx hwv m' hm' hm''
  unfold Oper.wp
  simp [execOp, hop, hm, hx, hv, hrun, Result.andThen]
  exact hK' _ _ (hK w' r1 r2)
end
end Go.Proofs.Ythonnpimfidkdaa
