/- Slices of pairs of numbers: their cells. -/
import Derived.Test.YtdpigpjcldcoaaaWords
set_option linter.unusedVariables false
set_option linter.unusedSimpArgs false
namespace Go.Proofs.Ytdpigpjcldcoaaa
open Go.RowKit

def recF2 (p q : Nat → Int) : Nat → Value := fun j => .int .i64 (if j % 2 = 0 then p (j / 2) else q (j / 2))
theorem recF2_0 (p q : Nat → Int) (j : Nat) : recF2 p q (j * 2) = .int .i64 (p j) := by
  unfold recF2
  rw [if_pos (by omega), show j * 2 / 2 = j by omega]
theorem recF2_1 (p q : Nat → Int) (j : Nat) : recF2 p q (j * 2 + 1) = .int .i64 (q j) := by
  unfold recF2
  rw [if_neg (by omega), show (j * 2 + 1) / 2 = j by omega]
theorem Rd.rec2 {w : World} {B n : Nat} {A : Option Addr} {p q : Nat → Int} (h : Rd w B A (n * 2) (recF2 p q)) {j : Nat} (hj : j < n) :
    ∃ ad, A = some ad ∧ ad.block < B ∧ w.cell? (ad.add (j * 2)) = some (.int .i64 (p j)) ∧ w.cell? ⟨(ad.add (j * 2)).block, (ad.add (j * 2)).off + 1, none⟩ = some (.int .i64 (q j)) := by
  obtain ⟨ad, e, hb, hc⟩ := h (by omega)
  have h0 := hc (j * 2) (by omega)
  have h1 := hc (j * 2 + 1) (by omega)
  rw [← addr_add] at h1
  rw [recF2_0] at h0
  rw [recF2_1] at h1
  exact ⟨ad, e, hb, h0, h1⟩
theorem recF2_congr {p q p' q' : Nat → Int} {m : Nat} (hp : ∀ j, j < m → p j = p' j) (hq : ∀ j, j < m → q j = q' j) : ∀ j, j < m * 2 → recF2 p q j = recF2 p' q' j := by
  intro j hj
  unfold recF2
  split
  · rw [hp _ (by omega)]
  · rw [hq _ (by omega)]
theorem alloc2 (w : World) (a b : Value) (t : TypeId) : (w.alloc (.cells #[a, b] t)).cell? ⟨w.heap.size, 0, none⟩ = some a ∧ (w.alloc (.cells #[a, b] t)).cell? ⟨w.heap.size, 1, none⟩ = some b := by
  have h : (w.alloc (.cells #[a, b] t)).heap[w.heap.size]? = some (.cells #[a, b] t) := by
    show (w.heap.push _)[w.heap.size]? = _
    simp
  constructor
  · show (match (w.alloc (.cells #[a, b] t)).heap[w.heap.size]? with
      | some (Obj.cells c _ _) => c[0]?
      | _ => none) = some a
    rw [h]
    rfl
  · show (match (w.alloc (.cells #[a, b] t)).heap[w.heap.size]? with
      | some (Obj.cells c _ _) => c[1]?
      | _ => none) = some b
    rw [h]
    rfl
end Go.Proofs.Ytdpigpjcldcoaaa
