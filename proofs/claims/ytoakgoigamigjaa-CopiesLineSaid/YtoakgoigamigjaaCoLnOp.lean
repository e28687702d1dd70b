/- CopiesLine: operations appended; what Line says of them. -/
import Derived.Test.YtoakgoigamigjaaCoLnLaw
import Derived.Test.YtoakgoigamigjaaCopiesMost
import Derived.Test.YtoakgoigamigjaaLn3
set_option linter.unusedVariables false
set_option linter.unusedSimpArgs false
namespace Go.Proofs.Ytoakgoigamigjaa
open Go.RowKit

theorem opF_G (l : List Opr) : opF (opO l) = opG l := by
  funext j
  rfl
theorem opG_join (a b : List Opr) (j : Nat) : opG (a ++ b) (a.length * 5 + j) = opG b j := by
  have h1 : (a.length * 5 + j) / 5 = a.length + j / 5 := by omega
  have h2 : (a.length * 5 + j) % 5 = j % 5 := by omega
  have h3 : opAt (a ++ b) (a.length + j / 5) = opAt b (j / 5) := by
    unfold opAt
    rw [List.getD_eq_getElem?_getD, List.getD_eq_getElem?_getD, List.getElem?_append_right (by omega), Nat.add_sub_cancel_left]
  unfold opG
  rw [h1, h2, h3]
theorem opG_fst (a b : List Opr) {j : Nat} (h : j < a.length * 5) : opG (a ++ b) j = opG a j := by
  have h1 : j / 5 < a.length := by omega
  have h3 : opAt (a ++ b) (j / 5) = opAt a (j / 5) := by
    unfold opAt
    rw [List.getD_eq_getElem?_getD, List.getD_eq_getElem?_getD, List.getElem?_append_left h1]
  unfold opG
  rw [h3]
theorem wpList_apOps {w : World} {ops : Array Oper} {rest : List Oper} {o : Oper} {a : Act} {Q : Exit → Act → World → Prop} (hgd : o.guard = none) (s x : Operand)
    (ho : o.op = .call { callee := .builtin .append, args := #[s, x], argTypes := #[24, 24] }) (base : Nat)
    {A : Option Addr} {q cap : Nat} {l : List Opr} (hs : a.eval s = .slice A q cap) (hq : q = l.length) (hown : Own w base 36 5 A q cap (opG l))
    {B : Nat} {X : Option Addr} {m c : Nat} {l2 : List Opr} (hx : a.eval x = .slice X m c) (hr : Rd w B X (m * 5) (opG l2)) (k : Nat) (hk : q + m = k) (hk2 : k ≤ 1000) (hbase : base ≤ w.heap.size)
    (h : ∀ A' cap' w', Own w' base 36 5 A' k cap' (opG (l ++ l2)) → w.grownBy w' (ablock A) → (ablock A' = ablock A ∨ ablock A' = some w.heap.size) → wpList Try.prog ops Q rest (a.put o.dst (.slice A' k cap')) w') :
    wpList Try.prog ops Q (o :: rest) a w := by
  subst hq
  obtain ⟨i0, hi0, hz0, hz1, hz2⟩ := info_parts infoOpC
  exact wpList_ap hgd s x _ ho 36 i0 _ 5 40 Try.underlying24 hi0 hz0 hz1 hz2 rfl (by omega) base hs hown hx hr
    (fun j _ => opG_one l2 j) (opG (l ++ l2)) (fun j hj => opG_fst l l2 hj) (fun j _ => opG_join l l2 j) k hk (by unfold maxLen; omega) (by omega) hbase h
theorem wpList_apOp {w : World} {ops : Array Oper} {rest : List Oper} {o : Oper} {a : Act} {Q : Exit → Act → World → Prop} (hgd : o.guard = none) (s x : Operand)
    (ho : o.op = .call { callee := .builtin .append, args := #[s, x], argTypes := #[24, 24] }) (base : Nat)
    {A : Option Addr} {q cap : Nat} {l : List Opr} (hs : a.eval s = .slice A q cap) (hq : q = l.length) {w0 : World} (g : Nat) (p : Opr)
    (hw : w = w0.alloc (.cells #[.int .i64 (p.fr : Nat), .int .i64 (p.bg : Nat), .int .i64 (p.en : Nat), .bool p.wr, .int .i64 p.vl] 36)) (hg : g = w0.heap.size)
    (hown : Own w0 base 36 5 A q cap (opG l)) (hx : a.eval x = .slice (some ⟨g, 0, none⟩) 1 1) (hk2 : q ≤ 900) (hbase : base ≤ w0.heap.size)
    (h : ∀ A' cap' w', Own w' base 36 5 A' (q + 1) cap' (opG (l ++ [p])) → w.grownBy w' (ablock A) → (ablock A' = ablock A ∨ ablock A' = some w.heap.size) → wpList Try.prog ops Q rest (a.put o.dst (.slice A' (q + 1) cap')) w') :
    wpList Try.prog ops Q (o :: rest) a w := by
  subst hw
  refine wpList_apOps hgd s x ho base hs hq (hown.alloc _) hx (m := 1) (l2 := [p]) (cell_new w0 _ _ _ g hg (fun j hj => ?_)) (q + 1) rfl (by omega) (by simp; omega) h
  have := opG_new [] p j (by simpa using hj)
  simpa using this
/-- What CopiesLine asks of Line. -/
theorem line_says (n m : Nat) (M : Mv) (X : List Opr) (hn : n ≤ 32) (hX : Ex n m (m + 1) M (coE n M m).ops X) (h8 : ((coE n M m).ops ++ X).length ≤ 8) (B : Nat) (A : Option Addr) (cap : Nat) (w : World) (hB : B ≤ w.heap.size) (hcap : ((coE n M m).ops ++ X).length ≤ cap ∧ cap ≤ maxLen)
    (hr : Rd w B A (((coE n M m).ops ++ X).length * 5) (opG ((coE n M m).ops ++ X))) :
    Calls Try.prog 10 #[.slice A ((coE n M m).ops ++ X).length cap] w (Gives fun v w' => v = .tuple #[.bool true, .int .i64 0] ∧ Below w.heap.size w w') := by
  obtain ⟨G, hG⟩ := LI.all hn M m
  obtain ⟨hok, hfin⟩ := line_fin hG (OI.all_ n M (fun j i hi => (WB.all n M j).part i hi) m) hX h8
  refine (line_good (opO ((coE n M m).ops ++ X)) hok A cap w hcap (ops_in hB (by rw [opF_G]; exact hr))).mono ?_
  rintro e w' ⟨v, rfl, b, rfl, hb, hl⟩
  obtain rfl : b = true := hb.2 hfin
  exact ⟨_, rfl, rfl, hl⟩
end Go.Proofs.Ytoakgoigamigjaa
