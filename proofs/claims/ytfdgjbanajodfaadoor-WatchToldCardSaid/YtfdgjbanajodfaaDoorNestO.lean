/- The arguments: a slice of records that end with a deed, opened. -/
import Derived.Test.YtfdgjbanajodfaaDoorTrOpen
set_option linter.unusedVariables false
set_option linter.unusedSimpArgs false
namespace Go.Proofs.YtfdgjbanajodfaaDoor
open Go.ChangeShapes Go.WideShapes Go.ChangeAt Go.RowKit

section
variable {H : Type} {enc : TypeId × Value → H} {P : Program} {w : World} {r : Reach} {b0 : Nat} {t e te : TypeId} {v : Value} {d : DataW H} {p : List MemPlace}
theorem trod_deed {fd : Array Field} (hd : P.underlying te = some (.struct fd)) (hone : Deep.oneCellFields P fd = true) (hnf : fd.size = 4)
    (hint : ∀ (j : Nat) (f : Field), fd[j]? = some f → P.underlying f.type = if j = 0 ∨ j = 3 then some (.int .i64) else some .string) {fuel : Nat} {cs : List Value} {x : DataW H × List MemPlace} (hf : DataW.trod enc P w 0 (fun _ => true) true fuel te cs = some x)
    (hwt : ∀ n ∈ x.1.weights P te, n ≤ 140737488351232) (hcs : cs.length = 4) : ∃ D : Deed, cs = cellsD D ∧ DeedL D := by
  obtain ⟨ys, n', hn', hy, hlen, hyl, hfl⟩ := DataW.trod_struct hd hf
  have key : ∀ j, j < 4 → if j = 0 ∨ j = 3 then ∃ x : Int, cs[j]? = some (.int .i64 x) else ∃ x : ByteArray, cs[j]? = some (.string x) ∧ x.size ≤ 140737488351232 := by
    intro j hj
    have hfj : fd[j]? = some (fd[j]'(by omega)) := Array.getElem?_eq_getElem (by omega)
    obtain ⟨ho, hk⟩ := Deep.hone_of hone j _ hfj
    have h1 := hfl j _ hfj
    rw [ho, hk] at h1
    have hjc : j < cs.length := by omega
    have hone' : (cs.drop j).take 1 = [cs[j]] := by
      rw [List.drop_eq_getElem_cons hjc]
      rfl
    have hys : ys[j]? = some (ys[j]'(by omega)) := List.getElem?_eq_getElem (by omega)
    rw [hone', hys] at h1
    have hu := hint j _ hfj
    have hat2 : cs[j]? = some cs[j] := List.getElem?_eq_getElem hjc
    split
    · rename_i h3
      rw [if_pos h3] at hu
      obtain ⟨x, hx1, _⟩ := DataW.trod_int hu h1
      exact ⟨x, by rw [hat2]; simpa using hx1⟩
    · rename_i h3
      rw [if_neg h3] at hu
      obtain ⟨z, hx1, hx2, _⟩ := DataW.trod_string hu h1
      refine ⟨z, by rw [hat2]; simpa using hx1, ?_⟩
      have hDi : x.1 = .agg (ys.map (·.1)) := congrArg Prod.fst hy
      have hp : (ys.map (·.1))[j]? = some (.lit (.string z.data.toList)) := by rw [List.getElem?_map, hys, hx2]; rfl
      have hty : (fd.toList.map (·.type))[j]? = some (fd[j]'(by omega)).type := by rw [List.getElem?_map, Array.getElem?_toList, hfj]; rfl
      have hm1 := DataW.weights_mem_each (P := P) hty hp z.data.toList.length (by simp [DataW.weights])
      have hm2 : z.data.toList.length ∈ x.1.weights P te := by rw [hDi]; simpa only [DataW.weights, hd] using hm1
      simpa using hwt _ hm2
  obtain ⟨x0, k0⟩ : ∃ x : Int, cs[0]? = some (.int .i64 x) := by have := key 0 (by omega); simpa using this
  obtain ⟨x1, k1, l1⟩ : ∃ x : ByteArray, cs[1]? = some (.string x) ∧ x.size ≤ 140737488351232 := by have := key 1 (by omega); simpa using this
  obtain ⟨x2, k2, l2⟩ : ∃ x : ByteArray, cs[2]? = some (.string x) ∧ x.size ≤ 140737488351232 := by have := key 2 (by omega); simpa using this
  obtain ⟨x3, k3⟩ : ∃ x : Int, cs[3]? = some (.int .i64 x) := by have := key 3 (by omega); simpa using this
  refine ⟨⟨x0, x1.data.toList, x2.data.toList, x3⟩, ?_, ⟨by simpa using l1, by simpa using l2⟩⟩
  apply List.ext_getElem?
  intro i
  by_cases hi : i < 4
  · rcases (by omega : i = 0 ∨ i = 1 ∨ i = 2 ∨ i = 3) with rfl | rfl | rfl | rfl
    · exact k0
    · rw [k1]; show _ = some (Value.string (bs x1.data.toList)); rw [bs_data]
    · rw [k2]; show _ = some (Value.string (bs x2.data.toList)); rw [bs_data]
    · exact k3
  · rw [List.getElem?_eq_none (by omega), List.getElem?_eq_none (by simp [cellsD]; omega)]
/-- How such a record's type is made: k heads of one cell (ints, or bools where kb says so), then a deed. -/
structure NestT (P : Program) (e te : TypeId) (k : Nat) (kb : Nat → Bool) (fs fd : Array Field) : Prop where
  ue : P.underlying e = some (.struct fs)
  size : fs.size = k + 1
  off : ∀ (j : Nat) (f : Field), fs[j]? = some f → f.offset = j
  head : ∀ (j : Nat) (f : Field), j < k → fs[j]? = some f → P.cellsOf f.type = 1 ∧ P.underlying f.type = if kb j then some .bool else some (.int .i64)
  last : ∀ (f : Field), fs[k]? = some f → f.type = te
  ce : P.cellsOf e = k + 4
  cd : P.cellsOf te = 4
  ud : P.underlying te = some (.struct fd)
  one : Deep.oneCellFields P fd = true
  four : fd.size = 4
  int : ∀ (j : Nat) (f : Field), fd[j]? = some f → P.underlying f.type = if j = 0 ∨ j = 3 then some (.int .i64) else some .string
def HeadOk (kb : Nat → Bool) (k : Nat) (hs : List Value) : Prop := hs.length = k ∧ ∀ j, j < k → if kb j then ∃ b, hs[j]? = some (.bool b) else ∃ i : Int, hs[j]? = some (.int .i64 i)
theorem trod_nest {k : Nat} {kb : Nat → Bool} {fs fd : Array Field} (hT : NestT P e te k kb fs fd) {fuel : Nat} {cs : List Value} {x : DataW H × List MemPlace} (hf : DataW.trod enc P w 0 (fun _ => true) true fuel e cs = some x) (hwt : ∀ n ∈ x.1.weights P e, n ≤ 140737488351232) :
    ∃ (hs : List Value) (D : Deed), cs = hs ++ cellsD D ∧ HeadOk kb k hs ∧ DeedL D := by
  obtain ⟨ys, n', hn', hy, hlen, hyl, hfl⟩ := DataW.trod_struct hT.ue hf
  rw [hT.ce] at hlen
  rw [hT.size] at hyl
  have hDi : x.1 = .agg (ys.map (·.1)) := congrArg Prod.fst hy
  have hdeed : ∃ D : Deed, cs.drop k = cellsD D ∧ DeedL D := by
    have hfk : fs[k]? = some (fs[k]'(by have := hT.size; omega)) := Array.getElem?_eq_getElem _
    have h1 := hfl k _ hfk
    have hty0 := hT.last _ hfk
    rw [hT.off k _ hfk, hty0, hT.cd] at h1
    have hys : ys[k]? = some (ys[k]'(by omega)) := List.getElem?_eq_getElem (by omega)
    rw [hys, List.take_of_length_le (by rw [List.length_drop]; omega)] at h1
    refine trod_deed hT.ud hT.one hT.four hT.int h1 (fun n hn => hwt n ?_) (by rw [List.length_drop]; omega)
    have hp : (ys.map (·.1))[k]? = some (ys[k]'(by omega)).1 := by rw [List.getElem?_map, hys]; rfl
    have hty : (fs.toList.map (·.type))[k]? = some te := by rw [List.getElem?_map, Array.getElem?_toList, hfk]; exact congrArg some hty0
    have hm1 := DataW.weights_mem_each (P := P) hty hp n hn
    rw [hDi]
    simpa only [DataW.weights, hT.ue] using hm1
  obtain ⟨D, hD, hDL⟩ := hdeed
  refine ⟨cs.take k, D, by rw [← hD, List.take_append_drop], ⟨by rw [List.length_take]; omega, fun j hj => ?_⟩, hDL⟩
  have hfj : fs[j]? = some (fs[j]'(by have := hT.size; omega)) := Array.getElem?_eq_getElem _
  have h1 := hfl j _ hfj
  obtain ⟨hc, hu⟩ := hT.head j _ hj hfj
  rw [hT.off j _ hfj, hc] at h1
  have hjc : j < cs.length := by omega
  have hone' : (cs.drop j).take 1 = [cs[j]] := by
    rw [List.drop_eq_getElem_cons hjc]
    rfl
  have hys : ys[j]? = some (ys[j]'(by omega)) := List.getElem?_eq_getElem (by omega)
  rw [hone', hys] at h1
  have hat2 : (cs.take k)[j]? = some cs[j] := by rw [List.getElem?_take_of_lt hj, List.getElem?_eq_getElem hjc]
  split
  · rename_i h3
    rw [if_pos h3] at hu
    obtain ⟨b, hx1, _⟩ := DataW.trod_bool hu h1
    exact ⟨b, by rw [hat2]; simpa using hx1⟩
  · rename_i h3
    rw [if_neg h3] at hu
    obtain ⟨i, hx1, _⟩ := DataW.trod_int hu h1
    exact ⟨i, by rw [hat2]; simpa using hx1⟩
theorem open_nest {k : Nat} {kb : Nat → Bool} {fs fd : Array Field} (ht : P.underlying t = some (.slice e)) (hT : NestT P e te k kb fs fd) (hv : Value.okWide P w r b0 t v) (h : DataW.Trod enc P w 0 (fun _ => true) true t v d p) (hwt : ∀ n ∈ d.weights P t, n ≤ 140737488351232) :
    ∃ (A : Option Addr) (n cap : Nat) (hs : Nat → List Value) (D : Nat → Deed), v = .slice A n cap ∧ ((n ≤ cap ∧ cap ≤ maxLen) ∧ SlCap d cap) ∧ (∀ i, i < n → HeadOk kb k (hs i) ∧ DeedL (D i)) ∧ Rd w w.heap.size A (n * (k + 4)) (fun j => ofL (hs (j / (k + 4)) ++ cellsD (D (j / (k + 4)))) (j % (k + 4))) := by
  obtain ⟨A, n, cap, rfl⟩ := okWide_slice ht hv
  obtain ⟨fuel, hf⟩ := h
  rcases Deep.open_slice ht hf with ⟨hcs, hd⟩ | ⟨a, len, cap', m, nn, D, Pl, hcs, hb, hl, hm, hmm, hx, hi⟩
  · simp only [Value.cells] at hcs
    injection hcs with hcs _
    injection hcs with h1 h2 h3
    subst h1 h2 h3
    exact ⟨none, 0, 0, fun _ => [], fun _ => Dz, rfl, ⟨⟨Nat.le_refl _, by unfold maxLen; omega⟩, .inl ⟨congrArg Prod.fst hd, rfl⟩⟩, fun i hi => absurd hi (by omega), by rw [Nat.zero_mul]; exact Rd.zero _ _ _ _⟩
  · simp only [Value.cells] at hcs
    injection hcs with hcs _
    injection hcs with h1 h2 h3
    subst h1 h2 h3
    simp only [if_true] at hmm
    have hdd : d = .slice ((List.range n).map D) ((List.range (m - n)).map fun k => D (n + k)) := congrArg Prod.fst hx
    have key : ∀ i, ∃ q : List Value × Deed, i < n → HeadOk kb k q.1 ∧ DeedL q.2 ∧ ∀ j, j < k + 4 → w.cell? (a.add (i * (k + 4) + j)) = (q.1 ++ cellsD q.2)[j]? := by
      intro i
      by_cases hin : i < n
      · obtain ⟨cs', hc, ht'⟩ := hi i (by omega)
        rw [hT.ce] at hc
        obtain ⟨_, hcl, hat⟩ := World.cells?_some hc
        obtain ⟨hs, D', e1, e2, e3⟩ := trod_nest hT ht' (fun z hz => hwt z (by
          rw [hdd]
          simp only [DataW.weights, ht]
          exact List.mem_cons_of_mem _ (List.mem_append.2 (.inl (weightsAll_mem (P := P) (e := e) (List.mem_map.2 ⟨i, List.mem_range.2 hin, rfl⟩ : D i ∈ (List.range n).map D) _ hz)))))
        refine ⟨(hs, D'), fun _ => ⟨e2, e3, fun j hj => ?_⟩⟩
        rw [← Deep.add_add, hat j hj, e1]
      · exact ⟨([], Dz), fun h => absurd h hin⟩
    obtain ⟨q, hq⟩ := Classical.skolem.1 key
    refine ⟨some a, n, cap, fun i => (q i).1, fun i => (q i).2, rfl, ⟨⟨hl, hm⟩, .inr ⟨_, _, congrArg Prod.fst hx, by simp; omega⟩⟩, fun i hi => ⟨(hq i hi).1, (hq i hi).2.1⟩, fun hn => ⟨a, rfl, ?_, fun t ht2 => ?_⟩⟩
    · have hn0 : 0 < n := Nat.pos_of_ne_zero fun h0 => by simp [h0] at hn
      have h0 := (hq 0 hn0).2.2 0 (by omega)
      have hl4 : ((q 0).1 ++ cellsD (q 0).2).length = k + 4 := by rw [List.length_append, (hq 0 hn0).1.1]; rfl
      rw [List.getElem?_eq_getElem (by omega)] at h0
      have := World.block_lt_of_cell? w _ h0
      rwa [addr_block] at this
    · have hqn : t / (k + 4) < n := Nat.div_lt_of_lt_mul (by rw [Nat.mul_comm]; exact ht2)
      have h4 : t % (k + 4) < k + 4 := Nat.mod_lt _ (by omega)
      have hd2 : t = t / (k + 4) * (k + 4) + t % (k + 4) := by rw [Nat.mul_comm]; exact (Nat.div_add_mod t (k + 4)).symm
      have h5 := (hq _ hqn).2.2 _ h4
      rw [← hd2] at h5
      rw [h5]
      have hl4 : ((q (t / (k + 4))).1 ++ cellsD (q (t / (k + 4))).2).length = k + 4 := by rw [List.length_append, (hq _ hqn).1.1]; rfl
      show _ = some (ofL _ _)
      unfold ofL
      rw [List.getElem?_eq_getElem (by omega)]
      rfl
end
end Go.Proofs.YtfdgjbanajodfaaDoor
