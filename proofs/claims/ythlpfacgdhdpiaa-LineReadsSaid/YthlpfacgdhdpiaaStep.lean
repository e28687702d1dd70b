/- 'append' of one-cell elements at a step of a region that draws its order. -/
import Derived.Test.YthlpfacgdhdpiaaKept
import Derived.Deep.RegionHeld3
set_option linter.unusedVariables false
set_option linter.unusedSimpArgs false
namespace Go.Proofs.Ythlpfacgdhdpiaa
open Go.RowKit

theorem step_ap1 {P : Program} {w : World} {ops : Array Oper} {o : Oper} {a : Act} {K : Act → World → Prop} {Q : Exit → Act → World → Prop} {E : Prop} (hgd : o.guard = none) (s x : Operand) (t : TypeId)
    (ho : o.op = .call { callee := .builtin .append, args := #[s, x], argTypes := #[t, t] })
    (e : TypeId) (i : TypeInfo) (z : Value) (bytes : Nat) (ht : P.underlying t = some (.slice e)) (hi : P.info? e = some i) (hz : i.zero = some z)
    (hsize : i.size = 1) (hby : i.bytes = bytes) (hzs : z.cells.size = 1) (base : Nat)
    {A : Option Addr} {n cap : Nat} {f : Nat → Value} (hs : a.eval s = .slice A n cap) (hown : Own w base e 1 A n cap f)
    {B : Nat} {X : Option Addr} {m c : Nat} {g : Nat → Value} (hx : a.eval x = .slice X m c) (hr : Rd w B X m g) (h1 : ∀ j, j < m → (g j).oneCell' = true)
    (f' : Nat → Value) (hf1 : ∀ j, j < n → f' j = f j) (hf2 : ∀ j, j < m → f' (n + j) = g j)
    (k : Nat) (hk : n + m = k) (h63 : n + m ≤ maxLen) (hbytes : (n + m) * bytes ≤ 140737488355328) (hbase : base ≤ w.heap.size)
    (h : ∀ A' cap' w', Own w' base e 1 A' k cap' f' → w.grownBy w' (ablock A) → (ablock A' = ablock A ∨ ablock A' = some w.heap.size) → K (a.put o.dst (.slice A' k cap')) w') :
    if Region.wanted o (yielded ops a.tmps) = true then Oper.wp P o a w K Q else E := by
  have hw : Region.wanted o (yielded ops a.tmps) = true := by simp [Region.wanted, hgd]
  rw [if_pos hw]
  subst hk
  obtain ⟨A', cap', w', hrun, h2, h3, h4⟩ := run_ap (P := P) w t o.type e i z 1 bytes ht hi hz hsize hby hzs (by omega) base hown (by rw [Nat.mul_one]; exact hr) (by rw [Nat.mul_one]; exact h1) f' (by rw [Nat.mul_one]; exact hf1) (by rw [Nat.mul_one, Nat.mul_one]; exact hf2) h63 hbytes hbase (c := c)
  unfold Oper.wp execOp
  simp only [ho, resolve, invoke, builtin, Sem.run_bind, Sem.run_pure, Result.andThen_ok, List.map_toArray, List.map_cons, List.map_nil, hs, hx, hrun]
  exact h A' cap' w' h2 h3 h4
end Go.Proofs.Ythlpfacgdhdpiaa
