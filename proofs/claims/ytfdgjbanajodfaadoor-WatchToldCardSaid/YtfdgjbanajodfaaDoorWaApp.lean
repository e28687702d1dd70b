/- A script of askings with some behind it. -/
import Derived.Test.YtfdgjbanajodfaaDoorWaAsk
import Derived.Test.YtfdgjbanajodfaaDoorNestO
import Derived.Test.YtfdgjbanajodfaaDoorWaLaw
import Derived.Lib.AppendZerosOnto
set_option linter.unusedVariables false
set_option linter.unusedSimpArgs false
namespace Go.Proofs.YtfdgjbanajodfaaDoor
open Go.ChangeShapes Go.WideShapes Go.ChangeAt Go.RowKit

set_option maxRecDepth 100000 in
theorem nestAsk : ∃ fs fd, NestT Tryd.prog 32 30 2 (fun j => j == 1) fs fd := by
  refine ⟨_, _, ⟨Tryd.underlying32, by kernel_rfl, fun j f hf => ?_, fun j f hj hf => ?_, fun f hf => ?_, by kernel_rfl, by kernel_rfl, Tryd.underlying30, by kernel_rfl, by kernel_rfl, fun j f hf => ?_⟩⟩
  · rcases j with _ | _ | _ | j <;> simp at hf <;> subst hf <;> rfl
  · rcases j with _ | _ | j
    · simp at hf; subst hf; exact ⟨by kernel_rfl, Tryd.underlying3⟩
    · simp at hf; subst hf; exact ⟨by kernel_rfl, Tryd.underlying4⟩
    · omega
  · simp at hf; subst hf; rfl
  · rcases j with _ | _ | _ | _ | j <;> simp at hf <;> subst hf <;> first | exact Tryd.underlying3 | exact Tryd.underlying9
section
variable {H : Type} {enc : TypeId × Value → H} {w : World} {r : Reach} {b0 : Nat} {v : Value} {d : DataW H} {p : List MemPlace}
set_option maxRecDepth 100000 in
theorem open_asked (hv : Value.okWide Tryd.prog w r b0 22 v) (h : DataW.Trod enc Tryd.prog w 0 (fun _ => true) true 22 v d p) (hwt : ∀ n ∈ d.weights Tryd.prog 22, n ≤ 140737488351232) :
    ∃ (A : Option Addr) (n cap : Nat) (X : Nat → AskX), v = .slice A n cap ∧ ((n ≤ cap ∧ cap ≤ maxLen) ∧ SlCap d cap) ∧ (∀ i, i < n → DeedL (X i).deed) ∧ Rd w w.heap.size A (n * 6) (akF X) := by
  obtain ⟨fs, fd, hT⟩ := nestAsk
  obtain ⟨A, n, cap, hs, D, rfl, hcap, hall, hr⟩ := open_nest Tryd.underlying22 hT hv h hwt
  have key : ∀ i, ∃ x : AskX, i < n → hs i ++ cellsD (D i) = cellsA x ∧ DeedL x.deed := by
    intro i
    by_cases hi : i < n
    · obtain ⟨⟨hl, hh⟩, hd⟩ := hall i hi
      obtain ⟨x0, k0⟩ : ∃ x : Int, (hs i)[0]? = some (.int .i64 x) := by have := hh 0 (by omega); simpa using this
      obtain ⟨x1, k1⟩ : ∃ x : Bool, (hs i)[1]? = some (.bool x) := by have := hh 1 (by omega); simpa using this
      have e : hs i = [.int .i64 x0, .bool x1] := by
        apply List.ext_getElem?
        intro j
        by_cases hj : j < 2
        · rcases (by omega : j = 0 ∨ j = 1) with rfl | rfl
          · exact k0
          · exact k1
        · rw [List.getElem?_eq_none (by omega), List.getElem?_eq_none (by simp; omega)]
      exact ⟨⟨x0, x1, D i⟩, fun _ => ⟨by rw [e]; rfl, hd⟩⟩
    · exact ⟨Az, fun h => absurd h hi⟩
  obtain ⟨X, hX⟩ := Classical.skolem.1 key
  refine ⟨A, n, cap, X, rfl, hcap, fun i hi => (hX i hi).2, hr.congr fun j hj => ?_⟩
  show ofL (hs (j / 6) ++ cellsD (D (j / 6))) (j % 6) = ofL (cellsA (X (j / 6))) (j % 6)
  rw [(hX (j / 6) (by have hj : j < n * 6 := hj; omega)).1]
end
end Go.Proofs.YtfdgjbanajodfaaDoor
namespace Go.Proofs.YtfdgjbanajodfaaDoor
open Go.RowKit

def appA (X : Nat → AskX) (q : Nat) (N : Nat → AskX) (j : Nat) : AskX := if j < q then X j else N (j - q)
theorem appA_zero (E X : Nat → AskX) : appA E 0 X = X := by
  funext j
  unfold appA
  rw [if_neg (by omega), Nat.sub_zero]
theorem appA_old (X : Nat → AskX) (q : Nat) (N : Nat → AskX) {j : Nat} (h : j < q) : appA X q N j = X j := if_pos h
theorem appA_new (X : Nat → AskX) (q : Nat) (N : Nat → AskX) (j : Nat) : appA X q N (q + j) = N j := by
  unfold appA
  rw [if_neg (by omega), Nat.add_sub_cancel_left]
theorem akF_old (X : Nat → AskX) (q : Nat) (N : Nat → AskX) {j : Nat} (hj : j < q * 6) : akF (appA X q N) j = akF X j := by
  show ofL (cellsA (appA X q N (j / 6))) (j % 6) = _
  rw [appA_old X q N (show j / 6 < q by omega)]
theorem akF_new (X : Nat → AskX) (q : Nat) (N : Nat → AskX) (j : Nat) : akF (appA X q N) (q * 6 + j) = akF N j := by
  show ofL (cellsA (appA X q N ((q * 6 + j) / 6))) ((q * 6 + j) % 6) = _
  rw [show (q * 6 + j) / 6 = q + j / 6 by omega, show (q * 6 + j) % 6 = j % 6 by omega, appA_new]
theorem akF_one (X : Nat → AskX) (j : Nat) : (akF X j).oneCell' = true := by
  have : j % 6 = 0 ∨ j % 6 = 1 ∨ j % 6 = 2 ∨ j % 6 = 3 ∨ j % 6 = 4 ∨ j % 6 = 5 := by omega
  unfold akF
  rcases this with h | h | h | h | h | h <;> rw [h] <;> rfl
theorem infoAsked : (Tryd.prog.info? 32).map (fun i => (i.zero, i.size, i.bytes)) = some (some (.agg #[.int .i64 0, .bool false, .int .i64 0, .string ⟨#[]⟩, .string ⟨#[]⟩, .int .i64 0]), 6, 64) := by kernel_rfl
theorem wpList_apAs {w : World} {ops : Array Oper} {rest : List Oper} {o : Oper} {a : Act} {Q : Exit → Act → World → Prop} (hgd : o.guard = none) (s x : Operand)
    (ho : o.op = .call { callee := .builtin .append, args := #[s, x], argTypes := #[22, 22] }) (base : Nat)
    {A : Option Addr} {q cap : Nat} {D : Nat → AskX} (hs : a.eval s = .slice A q cap) (hown : Own w base 32 6 A q cap (akF D))
    {B : Nat} {X : Option Addr} {m c : Nat} {N : Nat → AskX} (hx : a.eval x = .slice X m c) (hr : Rd w B X (m * 6) (akF N)) (k : Nat) (hk : q + m = k) (h63 : q + m ≤ maxLen) (hbytes : (q + m) * 64 ≤ 140737488355328) (hbase : base ≤ w.heap.size)
    (h : ∀ A' cap' w', Own w' base 32 6 A' k cap' (akF (appA D q N)) → w.grownBy w' (ablock A) → (ablock A' = ablock A ∨ ablock A' = some w.heap.size) → wpList Tryd.prog ops Q rest (a.put o.dst (.slice A' k cap')) w') :
    wpList Tryd.prog ops Q (o :: rest) a w := by
  obtain ⟨i0, hi0, hz0, hz1, hz2⟩ := info_parts infoAsked
  exact wpList_ap hgd s x _ ho 32 i0 _ 6 64 Tryd.underlying22 hi0 hz0 hz1 hz2 rfl (by omega) base hs hown hx hr
    (fun j _ => akF_one N j) (akF (appA D q N)) (fun j hj => akF_old D q N hj) (fun j _ => akF_new D q N j) k hk h63 hbytes hbase h
def lsA (l : List AskX) (j : Nat) : AskX := l.getD j Az
def cellsAs : List AskX → List Value
  | [] => []
  | d :: l => cellsA d ++ cellsAs l
theorem cellsAs_at : ∀ (l : List AskX) (j : Nat), j < l.length * 6 → (cellsAs l)[j]? = some (akF (lsA l) j)
  | [], j, h => absurd h (by simp)
  | d :: l, j, h => by
    by_cases hj : j < 6
    · have e : akF (lsA (d :: l)) j = ofL (cellsA d) j := by
        show ofL (cellsA (lsA (d :: l) (j / 6))) (j % 6) = _
        rw [show j / 6 = 0 by omega, show j % 6 = j by omega]; rfl
      rw [e]
      rcases (by omega : j = 0 ∨ j = 1 ∨ j = 2 ∨ j = 3 ∨ j = 4 ∨ j = 5) with rfl | rfl | rfl | rfl | rfl | rfl <;> rfl
    · obtain ⟨i, rfl⟩ : ∃ i, j = 6 + i := ⟨j - 6, by omega⟩
      have e : akF (lsA (d :: l)) (6 + i) = akF (lsA l) i := by
        show ofL (cellsA (lsA (d :: l) ((6 + i) / 6))) ((6 + i) % 6) = _
        rw [show (6 + i) / 6 = i / 6 + 1 by omega, show (6 + i) % 6 = i % 6 by omega]; rfl
      rw [e, ← cellsAs_at l i (by simp at h; omega)]
      show (cellsA d ++ cellsAs l)[6 + i]? = _
      rw [List.getElem?_append_right (by simp [cellsA, cellsD]), show 6 + i - (cellsA d).length = i by simp [cellsA, cellsD]]
theorem new_asks (w : World) (l : List AskX) (ty : TypeId) : Rd (w.alloc (.cells (cellsAs l).toArray ty)) (w.heap.size + 1) (some ⟨w.heap.size, 0, none⟩) (l.length * 6) (akF (lsA l)) :=
  cell_new w _ ty (n := l.length * 6) (akF (lsA l)) w.heap.size rfl (fun j hj => by rw [List.getElem?_toArray]; exact cellsAs_at l j hj)
theorem appA_L {X : Nat → AskX} {m : Nat} {l : List AskX} (h : ∀ i, i < m → DeedL (X i).deed) (hl : ∀ d ∈ l, DeedL d.deed) : ∀ i, i < m + l.length → DeedL (appA X m (lsA l) i).deed := by
  intro i hi
  by_cases h1 : i < m
  · rw [appA_old _ _ _ h1]; exact h i h1
  · obtain ⟨k, rfl⟩ : ∃ k, i = m + k := ⟨i - m, by omega⟩
    rw [appA_new]
    have hk : k < l.length := by omega
    have : lsA l k = l[k] := by simp [lsA, List.getD_eq_getElem?_getD, List.getElem?_eq_getElem hk]
    rw [this]
    exact hl _ (List.getElem_mem hk)
theorem wst_app (X N : Nat → AskX) (q k : Nat) : wst (appA X q N) (q + (k + 1)) = (askW (wst (appA X q N) (q + k)) (N k)).2 := by
  show (askW (wst (appA X q N) (q + k)) (appA X q N (q + k))).2 = _
  rw [appA_new]
theorem wst_app0 (X N : Nat → AskX) (q : Nat) : wst (appA X q N) q = wst X q := wst_congr q fun i hi => appA_old X q N hi
theorem wans_app (X N : Nat → AskX) (q k : Nat) : wans (appA X q N) (q + k) = (askW (wst (appA X q N) (q + k)) (N k)).1 := by
  show (askW (wst (appA X q N) (q + k)) (appA X q N (q + k))).1 = _
  rw [appA_new]
/-! append(s, make([]T, k)...): what stood below stays. -/
section
variable {P : Program}
theorem zeroCells_one {z : Array Value} (hz : 0 < z.size) (h1 : ∀ v ∈ z.toList, v.oneCell' = true) (k : Nat) : ∀ v ∈ (Builtin.zeroCells z k).toList, v.oneCell' = true := by
  intro v hv
  unfold Builtin.zeroCells at hv
  rw [Array.toList_map, List.mem_map] at hv
  obtain ⟨i, -, rfl⟩ := hv
  have hlt : i % z.size < z.size := Nat.mod_lt _ hz
  rw [getElem!_pos z (i % z.size) hlt]
  exact h1 _ (Array.getElem_mem_toList ..)
theorem run_apZs (w : World) (t tn ty e : TypeId) (i : TypeInfo) (z : Value) (kq kn : IntKind) (ht : P.underlying t = some (.slice e)) (htn : P.underlying tn = some (.int kn)) (hi : P.info? e = some i) (hz : i.zero = some z) (hs0 : 0 < i.size) (hzs : z.cells.size = i.size)
    (h1 : ∀ v ∈ z.cells.toList, v.oneCell' = true) {base : Nat} {A : Option Addr} {q cap : Nat} {f : Nat → Value} (hq : 0 < q) (hown : Own w base e i.size A q cap f) (k : Nat) (h0 : 0 < k) (h63 : ((q + k : Nat) : Int) ≤ 9223372036854775807) (h48 : k * i.bytes ≤ 281474976710656) (hfit : cap < q + k → Builtin.nextslicecap (q + k) cap * i.bytes ≤ 281474976710656) :
    ∃ A' cap' w', (Builtin.append_ #[t, tn] ty #[.slice A q cap, .int kq k]).run P w = .ok (.slice A' (q + k) cap') w' ∧ w.grownBy w' (ablock A) := by
  obtain ⟨g, cur, rfl, hbg, hg, hnc, hcm, hcs, hf⟩ := hown.resolve_left (fun h => by have := h.2.1; omega)
  by_cases hroom : q + k ≤ cap
  · have hw : IntKind.i64.wrap (k : Int) = k := by rw [IntKind.wrap_i64]; omega
    have hneg : ¬ ((k : Int) < 0) := by omega
    have hns : ¬ (k * i.size = 0) := Nat.mul_ne_zero (by omega) (by omega)
    have h48i : ¬ (281474976710656 < (k : Int) * (i.bytes : Int)) := by
      rw [← Int.natCast_mul]
      omega
    have hsz : (Builtin.zeroCells z.cells k).size = k * i.size := by rw [size_zeroCells, hzs]
    have hfits : q * i.size + (Builtin.zeroCells z.cells k).toList.length ≤ cur.size := by
      rw [Array.length_toList, hsz, ← Nat.add_mul, hcs]
      exact Nat.mul_le_mul_right _ hroom
    have hst := run_storeCells_at P g (q * i.size) e (Builtin.zeroCells z.cells k).toList 0 cur w hg (by omega) (zeroCells_one (by omega) h1 k)
    simp only [Nat.add_zero] at hst
    refine ⟨some ⟨g, 0, none⟩, cap, w.setRow g (cur.toList.take (q * i.size) ++ (Builtin.zeroCells z.cells k).toList ++ cur.toList.drop (q * i.size + (Builtin.zeroCells z.cells k).toList.length)).toArray, ?_, ⟨rfl, rfl, rfl, by simp, fun x _ hx => setRow_other w g x _ (fun e => hx (by simp [ablock, e]))⟩⟩
    simp [Builtin.append_, run_underlying ht, run_underlying htn, sizeOf, typeInfo, zeroValue, hi, hz, asInt, asIntOf, hw, hneg, hns, hroom, h48i, Addr.add_lit, show ¬ k = 0 by omega]
    simp at hst
    rw [hst]
    rfl
  · have hold : (Builtin.firstCells i.size q (.slice (some ⟨g, 0, none⟩) q cap)).run P w.drew = .ok (cur.toList.take (q * i.size)).toArray w.drew := by
      have hle : q * i.size ≤ cur.size := by rw [hcs]; exact Nat.mul_le_mul_right _ hnc
      refine run_firstCells_some (P := P) w.drew i.size q ⟨g, 0, none⟩ q cap (cur.toList.take (q * i.size)) (by rw [List.length_take, Array.length_toList]; omega) fun j v hj => ?_
      have hjq : j < q * i.size := by
        have := (List.getElem?_eq_some_iff.1 hj).1
        rw [List.length_take] at this; omega
      rw [List.getElem?_take_of_lt hjq, Array.getElem?_toList] at hj
      have he : (⟨g, 0, none⟩ : Addr).add j = ⟨g, j, none⟩ := by unfold Addr.add; split <;> simp_all
      rw [he]
      show w.cell? ⟨g, j, none⟩ = some v
      rw [cell_of_row w g j cur e (0, 0) hg]; exact hj
    have hr := Lib.run_append_grow_zeros (P := P) w t tn ty e i z kq kn ht htn hi hz (some ⟨g, 0, none⟩) q cap _ hold k h0 hs0 (by omega) h63 h48 (hfit (by omega))
    exact ⟨_, _, _, hr, ⟨rfl, rfl, rfl, by simp, fun x hx _ => Below.heap_alloc w.drew _ x hx⟩⟩
end
theorem cap_fit {q cap : Nat} (hq : q ≤ cap) (hb : q * 64 ≤ 140737488351232) (hlt : cap < q + 4) : Builtin.nextslicecap (q + 4) cap * 64 ≤ 281474976710656 := by
  have h2 : Builtin.nextslicecap (q + 4) cap ≤ q + 520 + q / 4 := by
    unfold Builtin.nextslicecap
    split
    · omega
    · split
      · omega
      · simp only [Builtin.growBy]
        repeat' split
        all_goals omega
  omega
end Go.Proofs.YtfdgjbanajodfaaDoor
