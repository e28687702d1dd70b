/- The arguments of the laws of names: a slice of deeds, opened. -/
import Derived.Test.YtfdgjbanajodfaaDoorTrDds
import Derived.Test.YtfdgjbanajodfaaDoorRow
set_option linter.unusedVariables false
set_option linter.unusedSimpArgs false
namespace Go.Proofs.YtfdgjbanajodfaaDoor
open Go.ChangeShapes Go.WideShapes Go.ChangeAt Go.RowKit

def cellStr (w : World) (a : Addr) : Str := match w.cell? a with | some (.string s) => s.data.toList | _ => []
theorem bs_data (s : ByteArray) : bs s.data.toList = s := by
  unfold bs
  simp
def deedAt (w : World) (a : Addr) (i : Nat) : Deed := ⟨cellInt w (a.add (i * 4 + 0)), cellStr w (a.add (i * 4 + 1)), cellStr w (a.add (i * 4 + 2)), cellInt w (a.add (i * 4 + 3))⟩
theorem weightsAll_mem {H : Type} {P : Program} {e : TypeId} : ∀ {l : List (DataW H)} {x : DataW H}, x ∈ l → ∀ n ∈ x.weights P e, n ∈ DataW.weightsAll P e l
  | [], _, h, _, _ => absurd h List.not_mem_nil
  | y :: l, x, h, n, hn => by
    simp only [DataW.weightsAll, List.mem_append]
    rcases List.mem_cons.1 h with rfl | h
    · exact .inl hn
    · exact .inr (weightsAll_mem h n hn)
theorem sized_at {H : Type} {P : Program} {ts : List TypeId} {ds : List (DataW H)} (h : (DataW.weightsEach P ts ds).all (· ≤ reachBytes) = true) {j : Nat} {t : TypeId} {d : DataW H} (ht : ts[j]? = some t) (hd : ds[j]? = some d) : ∀ n ∈ d.weights P t, n ≤ 140737488351232 := fun n hn => by
  have h2 : decide (n ≤ reachBytes) = true := List.all_eq_true.1 h _ (DataW.weights_mem_each ht hd n hn)
  exact (of_decide_eq_true h2 : n ≤ reachBytes)
section
variable {H : Type} {enc : TypeId × Value → H} {P : Program} {w : World} {r : Reach} {b0 : Nat} {t e : TypeId} {v : Value} {d : DataW H} {p : List MemPlace}
theorem open_deeds {fs : Array Field} (ht : P.underlying t = some (.slice e)) (he : P.underlying e = some (.struct fs)) (hone : Deep.oneCellFields P fs = true) (hC : P.cellsOf e = fs.size) (hnf : fs.size = 4)
    (hint : ∀ (j : Nat) (f : Field), fs[j]? = some f → P.underlying f.type = if j = 0 ∨ j = 3 then some (.int .i64) else some .string) (hv : Value.okWide P w r b0 t v) (h : DataW.Trod enc P w 0 (fun _ => true) true t v d p) (hwt : ∀ n ∈ d.weights P t, n ≤ 140737488351232) :
    ∃ (A : Option Addr) (n cap : Nat) (D : Nat → Deed), v = .slice A n cap ∧ ((n ≤ cap ∧ cap ≤ maxLen) ∧ SlCap d cap) ∧ (∀ i, i < n → DeedL (D i)) ∧ Rd w w.heap.size A (n * 4) (ddF D) := by
  obtain ⟨A, n, cap, rfl⟩ := okWide_slice ht hv
  obtain ⟨fuel, hf⟩ := h
  rcases Deep.open_slice ht hf with ⟨hcs, hd⟩ | ⟨a, len, cap', m, nn, D, Pl, hcs, hb, hl, hm, hmm, hx, hi⟩
  · simp only [Value.cells] at hcs
    injection hcs with hcs _
    injection hcs with h1 h2 h3
    subst h1 h2 h3
    exact ⟨none, 0, 0, fun _ => Dz, rfl, ⟨⟨Nat.le_refl _, by unfold maxLen; omega⟩, .inl ⟨congrArg Prod.fst hd, rfl⟩⟩, fun i hi => absurd hi (by omega), by rw [Nat.zero_mul]; exact Rd.zero _ _ _ _⟩
  · simp only [Value.cells] at hcs
    injection hcs with hcs _
    injection hcs with h1 h2 h3
    subst h1 h2 h3
    simp only [if_true] at hmm
    have key : ∀ i j, i < n → j < 4 → if j = 0 ∨ j = 3 then ∃ x : Int, w.cell? (a.add (i * 4 + j)) = some (.int .i64 x) else ∃ x : ByteArray, w.cell? (a.add (i * 4 + j)) = some (.string x) ∧ x.size ≤ 140737488351232 := by
      intro i j hin hj
      obtain ⟨cs', hc, ht'⟩ := hi i (by omega)
      rw [hC, hnf] at hc
      obtain ⟨ys, n', hn', hy, hlen, hyl, hfl⟩ := DataW.trod_struct he ht'
      obtain ⟨_, hcl, hat⟩ := World.cells?_some hc
      have hfj : fs[j]? = some (fs[j]'(by omega)) := Array.getElem?_eq_getElem (by omega)
      obtain ⟨ho, hk⟩ := Deep.hone_of hone j _ hfj
      have hcell := hat j hj
      have h1 := hfl j _ hfj
      rw [ho, hk] at h1
      have hjc : j < cs'.length := by omega
      have hone' : (cs'.drop j).take 1 = [cs'[j]] := by
        rw [List.drop_eq_getElem_cons hjc]
        rfl
      have hys : ys[j]? = some (ys[j]'(by omega)) := List.getElem?_eq_getElem (by omega)
      rw [hone', hys] at h1
      have hu := hint j _ hfj
      have hat2 : w.cell? (a.add (i * 4 + j)) = some cs'[j] := by
        rw [← Deep.add_add, hcell, List.getElem?_eq_getElem hjc]
      split
      · rename_i h3
        rw [if_pos h3] at hu
        obtain ⟨x, hx1, _⟩ := DataW.trod_int hu h1
        exact ⟨x, by rw [hat2]; simpa using hx1⟩
      · rename_i h3
        rw [if_neg h3] at hu
        obtain ⟨x, hx1, hx2, _⟩ := DataW.trod_string hu h1
        refine ⟨x, by rw [hat2]; simpa using hx1, ?_⟩
        have hdd : d = .slice ((List.range n).map D) ((List.range (m - n)).map fun k => D (n + k)) := congrArg Prod.fst hx
        have hDi : D i = .agg (ys.map (·.1)) := congrArg Prod.fst hy
        have hp : (ys.map (·.1))[j]? = some (.lit (.string x.data.toList)) := by rw [List.getElem?_map, hys, hx2]; rfl
        have hty : (fs.toList.map (·.type))[j]? = some (fs[j]'(by omega)).type := by rw [List.getElem?_map, Array.getElem?_toList, hfj]; rfl
        have hm1 := DataW.weights_mem_each (P := P) hty hp x.data.toList.length (by simp [DataW.weights])
        have hm2 : x.data.toList.length ∈ (D i).weights P e := by rw [hDi]; simpa only [DataW.weights, he] using hm1
        have hm3 := weightsAll_mem (P := P) (e := e) (List.mem_map.2 ⟨i, List.mem_range.2 hin, rfl⟩ : D i ∈ (List.range n).map D) _ hm2
        have hm4 : x.data.toList.length ∈ d.weights P t := by
          rw [hdd]
          simp only [DataW.weights, ht]
          exact List.mem_cons_of_mem _ (List.mem_append.2 (.inl hm3))
        have := hwt _ hm4
        simpa using this
    have k0 : ∀ i, i < n → w.cell? (a.add (i * 4 + 0)) = some (.int .i64 (deedAt w a i).kind) := fun i h => by
      obtain ⟨x, hx⟩ : ∃ x : Int, w.cell? (a.add (i * 4 + 0)) = some (.int .i64 x) := key i 0 h (by omega)
      show _ = some (Value.int .i64 (cellInt w (a.add (i * 4 + 0))))
      rw [hx, cellInt, hx]
    have k3 : ∀ i, i < n → w.cell? (a.add (i * 4 + 3)) = some (.int .i64 (deedAt w a i).version) := fun i h => by
      obtain ⟨x, hx⟩ : ∃ x : Int, w.cell? (a.add (i * 4 + 3)) = some (.int .i64 x) := key i 3 h (by omega)
      show _ = some (Value.int .i64 (cellInt w (a.add (i * 4 + 3))))
      rw [hx, cellInt, hx]
    have k1 : ∀ i, i < n → w.cell? (a.add (i * 4 + 1)) = some (.string (bs (deedAt w a i).path)) ∧ (deedAt w a i).path.length ≤ 140737488351232 := fun i h => by
      obtain ⟨x, hx, hs⟩ : ∃ x : ByteArray, w.cell? (a.add (i * 4 + 1)) = some (.string x) ∧ x.size ≤ 140737488351232 := key i 1 h (by omega)
      have e : (deedAt w a i).path = x.data.toList := by
        show cellStr w (a.add (i * 4 + 1)) = _
        rw [cellStr, hx]
      rw [e, bs_data]
      exact ⟨hx, by simpa using hs⟩
    have k2 : ∀ i, i < n → w.cell? (a.add (i * 4 + 2)) = some (.string (bs (deedAt w a i).data)) ∧ (deedAt w a i).data.length ≤ 140737488351232 := fun i h => by
      obtain ⟨x, hx, hs⟩ : ∃ x : ByteArray, w.cell? (a.add (i * 4 + 2)) = some (.string x) ∧ x.size ≤ 140737488351232 := key i 2 h (by omega)
      have e : (deedAt w a i).data = x.data.toList := by
        show cellStr w (a.add (i * 4 + 2)) = _
        rw [cellStr, hx]
      rw [e, bs_data]
      exact ⟨hx, by simpa using hs⟩
    refine ⟨some a, n, cap, deedAt w a, rfl, ⟨⟨hl, hm⟩, .inr ⟨_, _, congrArg Prod.fst hx, by simp; omega⟩⟩, fun i hi => ⟨(k1 i hi).2, (k2 i hi).2⟩, fun hn => ⟨a, rfl, ?_, fun t ht2 => ?_⟩⟩
    · have hn0 : 0 < n := Nat.pos_of_ne_zero fun h0 => by simp [h0] at hn
      have := World.block_lt_of_cell? w _ (k0 0 hn0)
      rwa [addr_block] at this
    · have ht2 : t < n * 4 := ht2
      show _ = some (ofL (cellsD (deedAt w a (t / 4))) (t % 4))
      have hq : t / 4 < n := by omega
      have hd : t = t / 4 * 4 + t % 4 := by omega
      have h4 : t % 4 < 4 := by omega
      have go : ∀ i j, i < n → j < 4 → w.cell? (a.add (i * 4 + j)) = some (ofL (cellsD (deedAt w a i)) j) := fun i j hi hj => by
        rcases (by omega : j = 0 ∨ j = 1 ∨ j = 2 ∨ j = 3) with rfl | rfl | rfl | rfl
        · exact k0 i hi
        · exact (k1 i hi).1
        · exact (k2 i hi).1
        · exact k3 i hi
      have := go (t / 4) (t % 4) hq h4
      rwa [← hd] at this
theorem open_deed {fs : Array Field} (he : P.underlying e = some (.struct fs)) (hone : Deep.oneCellFields P fs = true) (hC : P.cellsOf e = fs.size) (hnf : fs.size = 4)
    (hint : ∀ (j : Nat) (f : Field), fs[j]? = some f → P.underlying f.type = if j = 0 ∨ j = 3 then some (.int .i64) else some .string) (hv : Value.okWide P w r b0 e v) (h : DataW.Trod enc P w 0 (fun _ => true) true e v d p) (hwt : ∀ n ∈ d.weights P e, n ≤ 140737488351232) :
    ∃ D : Deed, v = .agg #[.int .i64 D.kind, .string (bs D.path), .string (bs D.data), .int .i64 D.version] ∧ DeedL D := by
  obtain ⟨cs, rfl, hcs⟩ := okWide_struct he hv
  obtain ⟨fuel, hf⟩ := h
  rw [hC, hnf] at hcs
  have hf : DataW.trod enc P w 0 (fun _ => true) true fuel e cs.toList = some (d, p) := hf
  obtain ⟨ys, n', hn', hy, hlen, hyl, hfl⟩ := DataW.trod_struct he hf
  have key : ∀ j, j < 4 → if j = 0 ∨ j = 3 then ∃ x : Int, cs[j]? = some (.int .i64 x) else ∃ x : ByteArray, cs[j]? = some (.string x) ∧ x.size ≤ 140737488351232 := by
    intro j hj
    have hfj : fs[j]? = some (fs[j]'(by omega)) := Array.getElem?_eq_getElem (by omega)
    obtain ⟨ho, hk⟩ := Deep.hone_of hone j _ hfj
    have h1 := hfl j _ hfj
    rw [ho, hk] at h1
    have hjc : j < cs.toList.length := by rw [Array.length_toList]; omega
    have hone' : (cs.toList.drop j).take 1 = [cs.toList[j]] := by
      rw [List.drop_eq_getElem_cons hjc]
      rfl
    have hys : ys[j]? = some (ys[j]'(by omega)) := List.getElem?_eq_getElem (by omega)
    rw [hone', hys] at h1
    have hu := hint j _ hfj
    have hat2 : cs[j]? = some cs.toList[j] := by
      rw [← Array.getElem?_toList, List.getElem?_eq_getElem hjc]
    split
    · rename_i h3
      rw [if_pos h3] at hu
      obtain ⟨x, hx1, _⟩ := DataW.trod_int hu h1
      exact ⟨x, by rw [hat2]; simpa using hx1⟩
    · rename_i h3
      rw [if_neg h3] at hu
      obtain ⟨x, hx1, hx2, _⟩ := DataW.trod_string hu h1
      refine ⟨x, by rw [hat2]; simpa using hx1, ?_⟩
      have hDi : d = .agg (ys.map (·.1)) := congrArg Prod.fst hy
      have hp : (ys.map (·.1))[j]? = some (.lit (.string x.data.toList)) := by rw [List.getElem?_map, hys, hx2]; rfl
      have hty : (fs.toList.map (·.type))[j]? = some (fs[j]'(by omega)).type := by rw [List.getElem?_map, Array.getElem?_toList, hfj]; rfl
      have hm1 := DataW.weights_mem_each (P := P) hty hp x.data.toList.length (by simp [DataW.weights])
      have hm2 : x.data.toList.length ∈ d.weights P e := by rw [hDi]; simpa only [DataW.weights, he] using hm1
      simpa using hwt _ hm2
  obtain ⟨x0, k0⟩ : ∃ x : Int, cs[0]? = some (.int .i64 x) := by have := key 0 (by omega); simpa using this
  obtain ⟨x1, k1, l1⟩ : ∃ x : ByteArray, cs[1]? = some (.string x) ∧ x.size ≤ 140737488351232 := by have := key 1 (by omega); simpa using this
  obtain ⟨x2, k2, l2⟩ : ∃ x : ByteArray, cs[2]? = some (.string x) ∧ x.size ≤ 140737488351232 := by have := key 2 (by omega); simpa using this
  obtain ⟨x3, k3⟩ : ∃ x : Int, cs[3]? = some (.int .i64 x) := by have := key 3 (by omega); simpa using this
  refine ⟨⟨x0, x1.data.toList, x2.data.toList, x3⟩, ?_, ⟨by simpa using l1, by simpa using l2⟩⟩
  rw [bs_data, bs_data]
  congr 1
  apply Array.ext_getElem?
  intro i
  by_cases hi : i < 4
  · rcases (by omega : i = 0 ∨ i = 1 ∨ i = 2 ∨ i = 3) with rfl | rfl | rfl | rfl
    · exact k0
    · exact k1
    · exact k2
    · exact k3
  · rw [Array.getElem?_eq_none (by omega), Array.getElem?_eq_none (by simp; omega)]
end
end Go.Proofs.YtfdgjbanajodfaaDoor
