/- Rows that are many, behind those that stand at fixed places: moved there, read there. -/
import Derived.Test.YtfdgjbanajodfaaDoorLay
set_option linter.unusedVariables false
set_option linter.unusedSimpArgs false
namespace Go.Proofs.YtfdgjbanajodfaaDoor
open Go.RowKit
section
variable {w0 w : World} {L : List LRow} {r : LRow}
/-- The head goes behind the next m. -/
theorem Lay.mv (m : Nat) (h : Lay w0 w (r :: L)) (hm : m ≤ L.length) : Lay w0 w (L.take m ++ r :: L.drop m) := by
  have hl : (L.take m).length = m := by rw [List.length_take]; omega
  refine h.pick (fun k => if k < m then k + 1 else if k = m then 0 else k) (fun i j _ _ hij => ?_) fun k _ => ?_
  · split at hij <;> split at hij <;> (try split at hij) <;> (try split at hij) <;> omega
  · by_cases h1 : k < m
    · rw [if_pos h1, List.getElem?_append_left (by omega), List.getElem?_take_of_lt h1, List.getElem?_cons_succ]
    · rw [if_neg h1, List.getElem?_append_right (by omega), hl]
      by_cases h2 : k = m
      · rw [if_pos h2, h2, Nat.sub_self]; rfl
      · rw [if_neg h2]
        obtain ⟨d, rfl⟩ : ∃ d, k = m + 1 + d := ⟨k - m - 1, by omega⟩
        rw [show m + 1 + d - m = d + 1 by omega, List.getElem?_cons_succ, List.getElem?_drop, show m + 1 + d = m + d + 1 by omega, List.getElem?_cons_succ]
/-- The m-th row is dropped. -/
theorem Lay.del (m : Nat) (h : Lay w0 w L) : Lay w0 w (L.take m ++ L.drop (m + 1)) := by
  rcases Nat.lt_or_ge m L.length with hm | hm
  · have hl : (L.take m).length = m := by rw [List.length_take]; omega
    refine h.pick (fun k => if k < m then k else k + 1) (fun i j _ _ hij => ?_) fun k _ => ?_
    · split at hij <;> split at hij <;> omega
    · by_cases h1 : k < m
      · rw [if_pos h1, List.getElem?_append_left (by omega), List.getElem?_take_of_lt h1]
      · rw [if_neg h1, List.getElem?_append_right (by omega), hl, List.getElem?_drop, show m + 1 + (k - m) = k + 1 by omega]
  · rw [List.take_of_length_le hm, List.drop_eq_nil_of_le (by omega), List.append_nil]; exact h
/-- The head goes behind those that stand at fixed places. -/
theorem Lay.into {P VR : List LRow} (h : Lay w0 w (r :: (P ++ VR))) : Lay w0 w (P ++ r :: VR) := by
  have := h.mv P.length (by simp)
  rwa [List.take_left, List.drop_left] at this
/-- A row out of the many is read. -/
theorem Lay.one {VR : List LRow} (P : List LRow) (h : Lay w0 w (P ++ VR)) {k : Nat} {r : LRow} (hk : VR[k]? = some r) : Own w w0.heap.size r.ty r.sz r.a r.n r.cap r.F :=
  h.own (P.length + k) r (by rw [List.getElem?_append_right (by omega), Nat.add_sub_cancel_left]; exact hk)
end
/-- A slice of numbers among the rows. -/
abbrev vrow (g cap n : Nat) (f : Nat → Nat) : LRow := ⟨some ⟨g, 0, none⟩, 3, 1, n, cap, fun t => .int .i64 (f t : Nat)⟩
def InV (VR : List LRow) (n : Nat) (v : Value) (f : Nat → Nat) : Prop := ∃ (k g cap : Nat), VR[k]? = some (vrow g cap n f) ∧ v = .slice (some ⟨g, 0, none⟩) n cap
/-- The rows of VR are among those of VR'. -/
def RowsIn (VR VR' : List LRow) : Prop := ∀ (k : Nat) (r : LRow), VR[k]? = some r → ∃ k' : Nat, VR'[k']? = some r
theorem RowsIn.refl (VR : List LRow) : RowsIn VR VR := fun k _ h => ⟨k, h⟩
theorem RowsIn.cons (r : LRow) (VR : List LRow) : RowsIn VR (r :: VR) := fun k _ h => ⟨k + 1, h⟩
theorem RowsIn.trans {A B C : List LRow} (h : RowsIn A B) (h' : RowsIn B C) : RowsIn A C := fun k r hk => by obtain ⟨k', h1⟩ := h k r hk; exact h' k' r h1
theorem InV.sub {VR VR' : List LRow} {n : Nat} {v : Value} {f : Nat → Nat} (h : InV VR n v f) (hs : RowsIn VR VR') : InV VR' n v f := by
  obtain ⟨k, g, cap, h1, h2⟩ := h
  obtain ⟨k', h3⟩ := hs k _ h1
  exact ⟨k', g, cap, h3, h2⟩
theorem InV.zero (VR : List LRow) (n g cap : Nat) (f : Nat → Nat) : InV (vrow g cap n f :: VR) n (.slice (some ⟨g, 0, none⟩) n cap) f := ⟨0, g, cap, rfl, rfl⟩
theorem InV.rd {w0 w : World} {VR : List LRow} {n : Nat} {v : Value} {f : Nat → Nat} (h : InV VR n v f) (P : List LRow) (hL : Lay w0 w (P ++ VR)) : ∃ (g cap : Nat), v = .slice (some ⟨g, 0, none⟩) n cap ∧ Rd w w.heap.size (some ⟨g, 0, none⟩) n (fun t => .int .i64 (f t : Nat)) := by
  obtain ⟨k, g, cap, h1, h2⟩ := h
  have := (hL.one P h1).rd
  rw [Nat.mul_one] at this
  exact ⟨g, cap, h2, this⟩
theorem InV.rdG {w0 w : World} {VR : List LRow} {n g c : Nat} {f : Nat → Nat} (h : InV VR n (.slice (some ⟨g, 0, none⟩) n c) f) (P : List LRow) (hL : Lay w0 w (P ++ VR)) : Rd w w.heap.size (some ⟨g, 0, none⟩) n (fun t => .int .i64 (f t : Nat)) := by
  obtain ⟨g', c', e, h1⟩ := h.rd P hL
  have e1 : (some (⟨g, 0, none⟩ : Addr)) = some ⟨g', 0, none⟩ := by injection e
  rw [e1]; exact h1
end Go.Proofs.YtfdgjbanajodfaaDoor
