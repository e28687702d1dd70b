/- Operations in memory. -/
import Derived.Test.YtoakgoigamigjaaCo1
set_option linter.unusedVariables false
set_option linter.unusedSimpArgs false
namespace Go.Proofs.Ytoakgoigamigjaa
open Go.RowKit

theorem infoOpC : (Try.prog.info? 36).map (fun i => (i.zero, i.size, i.bytes)) = some (some (.agg #[.int .i64 0, .int .i64 0, .int .i64 0, .bool false, .int .i64 0]), 5, 40) := by kernel_rfl
theorem clF_bv {c c' : Cl} (h0 : c'.part = c.part) (h1 : c'.beg = c.beg) (h2 : c'.wr = c.wr) (h3 : c'.val = c.val) (h4 : c'.rch = c.rch) (h5 : c'.many = c.many) (h6 : c'.bs = c.bs) {k : Nat} (hk : k < 8) (hne : k ≠ 7) : clF c' k = clF c k := by
  unfold clF
  rw [h0, h1, h2, h3, h4, h5, h6]
  rcases (by omega : k = 0 ∨ k = 1 ∨ k = 2 ∨ k = 3 ∨ k = 4 ∨ k = 5 ∨ k = 6) with rfl | rfl | rfl | rfl | rfl | rfl | rfl <;> rfl
theorem opAt_old (l : List Opr) (o : Opr) {q : Nat} (h : q < l.length) : opAt (l ++ [o]) q = opAt l q := by
  unfold opAt
  rw [List.getD_eq_getElem?_getD, List.getD_eq_getElem?_getD, List.getElem?_append_left h]
theorem opAt_new (l : List Opr) (o : Opr) : opAt (l ++ [o]) l.length = o := by
  unfold opAt
  rw [List.getD_eq_getElem?_getD, List.getElem?_append_right (Nat.le_refl _)]; simp
theorem opG_old (l : List Opr) (o : Opr) {j : Nat} (h : j < l.length * 5) : opG (l ++ [o]) j = opG l j := by
  have : j / 5 < l.length := by omega
  unfold opG
  rw [opAt_old l o this]
theorem opG_new (l : List Opr) (o : Opr) : ∀ j, j < 1 * 5 → (#[Value.int .i64 (o.fr : Nat), .int .i64 (o.bg : Nat), .int .i64 (o.en : Nat), .bool o.wr, .int .i64 o.vl])[j]? = some (opG (l ++ [o]) (l.length * 5 + j)) := by
  intro j hj
  have h1 : (l.length * 5 + j) / 5 = l.length := by omega
  have h2 : (l.length * 5 + j) % 5 = j := by omega
  unfold opG
  rw [h1, h2, opAt_new]
  rcases (by omega : j = 0 ∨ j = 1 ∨ j = 2 ∨ j = 3 ∨ j = 4) with rfl | rfl | rfl | rfl | rfl <;> rfl
theorem opG_one (l : List Opr) (j : Nat) : (opG l j).oneCell' = true := by
  unfold opG
  repeat' split
  all_goals rfl
end Go.Proofs.Ytoakgoigamigjaa
