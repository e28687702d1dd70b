/- Every step; scripts of steps in memory. -/
import Derived.Test.YtfdgjbanajodfaaDoorKp3a
import Derived.Test.YtfdgjbanajodfaaDoorKp3b
import Derived.Test.YtfdgjbanajodfaaDoorKp3c
import Derived.Test.YtfdgjbanajodfaaDoorKp3d
set_option linter.unusedVariables false
set_option linter.unusedSimpArgs false
namespace Go.Proofs.YtfdgjbanajodfaaDoor
open Go.RowKit

theorem kdo_any (g gs n cs : Nat) (tb bm : Nat → Nat) (A : Option Addr) (cap : Nat) (σ : KS) (R : List LRow) (w0 w : World) (k : Nat) (x : StepX) (hn : n ≤ 6) (hB : KB n k σ) (hk : k ≤ 59) (hd : DeedL x.deed)
    (h : LayM w0 w (rowsK g (some ⟨gs, 0, none⟩) n cs tb bm A cap σ R) (mapsS n bm (treeAt σ))) :
    Calls Tryd.prog 22 #[.pointer (some ⟨g, 0, none⟩), stepV x] w (Gives fun v w' => ∃ AN cN A' cap', v = toldV AN cN (keepK n σ x).1 ∧
      LayM w0 w' (rowS AN cN (keepK n σ x).1.names :: rowsK g (some ⟨gs, 0, none⟩) n cs tb bm A' cap' (keepK n σ x).2 R) (mapsS n bm (treeAt (keepK n σ x).2))) := by
  by_cases hbad : x.kind < 1 ∨ 4 < x.kind ∨ (x.kind = 1 ∧ (x.deed.kind < 1 ∨ 5 < x.deed.kind))
  · exact kdo_bad g gs n cs tb bm A cap σ R w0 w k x hn hB hk hd hbad h
  · rcases (by omega : x.kind = 1 ∨ x.kind = 2 ∨ x.kind = 3 ∨ x.kind = 4) with h1 | h1 | h1 | h1
    · exact kdo_deed g gs n cs tb bm A cap σ R w0 w k x hn hB hk hd h1 (by omega) h
    · exact kdo_apply g gs n cs tb bm A cap σ R w0 w k x hn hB hk hd h1 h
    · exact kdo_move g gs n cs tb bm A cap σ R w0 w k x hn hB hk hd h1 h
    · exact kdo_sync g gs n cs tb bm A cap σ R w0 w k x hn hB hk hd h1 h
abbrev skF (X : Nat → StepX) (j : Nat) : Value := ofL (cellsX (X (j / 7))) (j % 7)
abbrev sts (A : Option Addr) (q cap : Nat) (X : Nat → StepX) : LRow := ⟨A, 49, 7, q, cap, skF X⟩
theorem Rd.recX {w : World} {B n : Nat} {A : Option Addr} {X : Nat → StepX} (h : Rd w B A (n * 7) (skF X)) {j : Nat} (hj : j < n) :
    ∃ ad, A = some ad ∧ ad.block < B ∧ w.cell? (ad.add (j * 7)) = some (.int .i64 (X j).kind) ∧ w.cell? ⟨(ad.add (j * 7)).block, (ad.add (j * 7)).off + 1, none⟩ = some (.int .i64 (X j).client) ∧
      w.cell? ⟨(ad.add (j * 7)).block, (ad.add (j * 7)).off + 2, none⟩ = some (.int .i64 (X j).server) ∧ w.cell? ⟨(ad.add (j * 7)).block, (ad.add (j * 7)).off + 3, none⟩ = some (.int .i64 (X j).deed.kind) ∧
      w.cell? ⟨(ad.add (j * 7)).block, (ad.add (j * 7)).off + 4, none⟩ = some (.string (bs (X j).deed.path)) ∧ w.cell? ⟨(ad.add (j * 7)).block, (ad.add (j * 7)).off + 5, none⟩ = some (.string (bs (X j).deed.data)) ∧
      w.cell? ⟨(ad.add (j * 7)).block, (ad.add (j * 7)).off + 6, none⟩ = some (.int .i64 (X j).deed.version) := by
  obtain ⟨ad, e, hb, hc⟩ := h (by omega)
  have e0 : ∀ k, k < 7 → skF X (j * 7 + k) = ofL (cellsX (X j)) k := fun k hk => by
    unfold skF
    rw [show (j * 7 + k) / 7 = j by omega, show (j * 7 + k) % 7 = k by omega]
  have h0 := (hc (j * 7 + 0) (by omega)).trans (congrArg some (e0 0 (by omega)))
  have h1 := (hc (j * 7 + 1) (by omega)).trans (congrArg some (e0 1 (by omega)))
  have h2 := (hc (j * 7 + 2) (by omega)).trans (congrArg some (e0 2 (by omega)))
  have h3 := (hc (j * 7 + 3) (by omega)).trans (congrArg some (e0 3 (by omega)))
  have h4 := (hc (j * 7 + 4) (by omega)).trans (congrArg some (e0 4 (by omega)))
  have h5 := (hc (j * 7 + 5) (by omega)).trans (congrArg some (e0 5 (by omega)))
  have h6 := (hc (j * 7 + 6) (by omega)).trans (congrArg some (e0 6 (by omega)))
  rw [← addr_add] at h1 h2 h3 h4 h5 h6
  exact ⟨ad, e, hb, h0, h1, h2, h3, h4, h5, h6⟩
theorem skF_old (X : Nat → StepX) (q : Nat) (N : Nat → StepX) {j : Nat} (hj : j < q * 7) : skF (appX X q N) j = skF X j := by
  show ofL (cellsX (appX X q N (j / 7))) (j % 7) = _
  rw [appX_old X q N (show j / 7 < q by omega)]
theorem skF_new (X : Nat → StepX) (q : Nat) (N : Nat → StepX) (j : Nat) : skF (appX X q N) (q * 7 + j) = skF N j := by
  show ofL (cellsX (appX X q N ((q * 7 + j) / 7))) ((q * 7 + j) % 7) = _
  rw [show (q * 7 + j) / 7 = q + j / 7 by omega, show (q * 7 + j) % 7 = j % 7 by omega, appX_new]
theorem skF_one (X : Nat → StepX) (j : Nat) : (skF X j).oneCell' = true := by
  have : j % 7 = 0 ∨ j % 7 = 1 ∨ j % 7 = 2 ∨ j % 7 = 3 ∨ j % 7 = 4 ∨ j % 7 = 5 ∨ j % 7 = 6 := by omega
  unfold skF
  rcases this with h | h | h | h | h | h | h <;> rw [h] <;> rfl
theorem infoStep : (Tryd.prog.info? 49).map (fun i => (i.zero, i.size, i.bytes)) = some (some (.agg #[.int .i64 0, .int .i64 0, .int .i64 0, .int .i64 0, .string ⟨#[]⟩, .string ⟨#[]⟩, .int .i64 0]), 7, 72) := by kernel_rfl
theorem infoServer : (Tryd.prog.info? 79).map (fun i => (i.zero, i.size, i.bytes)) = some (some (.agg #[.pointer none, .int .i64 0]), 2, 16) := by kernel_rfl
theorem infoInt1 : (Tryd.prog.info? 3).map (fun i => (i.zero, i.size, i.bytes)) = some (some (.int .i64 0), 1, 8) := by kernel_rfl
theorem wpList_apXs {w : World} {ops : Array Oper} {rest : List Oper} {o : Oper} {a : Act} {Q : Exit → Act → World → Prop} (hgd : o.guard = none) (s x : Operand)
    (ho : o.op = .call { callee := .builtin .append, args := #[s, x], argTypes := #[47, 47] }) (base : Nat)
    {A : Option Addr} {q cap : Nat} {D : Nat → StepX} (hs : a.eval s = .slice A q cap) (hown : Own w base 49 7 A q cap (skF D))
    {B : Nat} {X : Option Addr} {m c : Nat} {N : Nat → StepX} (hx : a.eval x = .slice X m c) (hr : Rd w B X (m * 7) (skF N)) (k : Nat) (hk : q + m = k) (h63 : q + m ≤ maxLen) (hbytes : (q + m) * 72 ≤ 140737488355328) (hbase : base ≤ w.heap.size)
    (h : ∀ A' cap' w', Own w' base 49 7 A' k cap' (skF (appX D q N)) → w.grownBy w' (ablock A) → (ablock A' = ablock A ∨ ablock A' = some w.heap.size) → wpList Tryd.prog ops Q rest (a.put o.dst (.slice A' k cap')) w') :
    wpList Tryd.prog ops Q (o :: rest) a w := by
  obtain ⟨i0, hi0, hz0, hz1, hz2⟩ := info_parts infoStep
  exact wpList_ap hgd s x _ ho 49 i0 _ 7 72 Tryd.underlying47 hi0 hz0 hz1 hz2 rfl (by omega) base hs hown hx hr
    (fun j _ => skF_one N j) (skF (appX D q N)) (fun j hj => skF_old D q N hj) (fun j _ => skF_new D q N j) k hk h63 hbytes hbase h
def lsX (l : List StepX) (j : Nat) : StepX := l.getD j Sz
def cellsXs : List StepX → List Value
  | [] => []
  | d :: l => cellsX d ++ cellsXs l
theorem cellsXs_at : ∀ (l : List StepX) (j : Nat), j < l.length * 7 → (cellsXs l)[j]? = some (skF (lsX l) j)
  | [], j, h => absurd h (by simp)
  | d :: l, j, h => by
    by_cases hj : j < 7
    · have e : skF (lsX (d :: l)) j = ofL (cellsX d) j := by
        show ofL (cellsX (lsX (d :: l) (j / 7))) (j % 7) = _
        rw [show j / 7 = 0 by omega, show j % 7 = j by omega]; rfl
      rw [e]
      rcases (by omega : j = 0 ∨ j = 1 ∨ j = 2 ∨ j = 3 ∨ j = 4 ∨ j = 5 ∨ j = 6) with rfl | rfl | rfl | rfl | rfl | rfl | rfl <;> rfl
    · obtain ⟨i, rfl⟩ : ∃ i, j = 7 + i := ⟨j - 7, by omega⟩
      have e : skF (lsX (d :: l)) (7 + i) = skF (lsX l) i := by
        show ofL (cellsX (lsX (d :: l) ((7 + i) / 7))) ((7 + i) % 7) = _
        rw [show (7 + i) / 7 = i / 7 + 1 by omega, show (7 + i) % 7 = i % 7 by omega]; rfl
      rw [e, ← cellsXs_at l i (by simp at h; omega)]
      show (cellsX d ++ cellsXs l)[7 + i]? = _
      rw [List.getElem?_append_right (by simp), show 7 + i - (cellsX d).length = i by simp [cellsX]]
theorem new_steps (w : World) (l : List StepX) (ty : TypeId) : Rd (w.alloc (.cells (cellsXs l).toArray ty)) (w.heap.size + 1) (some ⟨w.heap.size, 0, none⟩) (l.length * 7) (skF (lsX l)) :=
  cell_new w _ ty (n := l.length * 7) (skF (lsX l)) w.heap.size rfl (fun j hj => by rw [List.getElem?_toArray]; exact cellsXs_at l j hj)
theorem appX_L {X : Nat → StepX} {m : Nat} {l : List StepX} (h : ∀ i, i < m → DeedL (X i).deed) (hl : ∀ d ∈ l, DeedL d.deed) : ∀ i, i < m + l.length → DeedL (appX X m (lsX l) i).deed := by
  intro i hi
  by_cases h1 : i < m
  · rw [appX_old _ _ _ h1]; exact h i h1
  · obtain ⟨k, rfl⟩ : ∃ k, i = m + k := ⟨i - m, by omega⟩
    rw [appX_new]
    have hk : k < l.length := by omega
    have : lsX l k = l[k] := by simp [lsX, List.getD_eq_getElem?_getD, List.getElem?_eq_getElem hk]
    rw [this]
    exact hl _ (List.getElem_mem hk)
end Go.Proofs.YtfdgjbanajodfaaDoor
