/- Askings in memory: their cells. -/
import Derived.Test.YtfdgjbanajodfaaDoorWaMath
import Derived.Test.YtfdgjbanajodfaaDoorTrDds
set_option linter.unusedVariables false
set_option linter.unusedSimpArgs false
namespace Go.Proofs.YtfdgjbanajodfaaDoor
open Go.RowKit

def cellsA (x : AskX) : List Value := [.int .i64 x.who, .bool x.watch] ++ cellsD x.deed
abbrev akF (X : Nat → AskX) (j : Nat) : Value := ofL (cellsA (X (j / 6))) (j % 6)
abbrev aks (A : Option Addr) (q cap : Nat) (X : Nat → AskX) : LRow := ⟨A, 32, 6, q, cap, akF X⟩
def Az : AskX := ⟨0, false, Dz⟩
theorem Rd.recA {w : World} {B n : Nat} {A : Option Addr} {X : Nat → AskX} (h : Rd w B A (n * 6) (akF X)) {j : Nat} (hj : j < n) :
    ∃ ad, A = some ad ∧ ad.block < B ∧ w.cell? (ad.add (j * 6)) = some (.int .i64 (X j).who) ∧ w.cell? ⟨(ad.add (j * 6)).block, (ad.add (j * 6)).off + 1, none⟩ = some (.bool (X j).watch) ∧
      w.cell? ⟨(ad.add (j * 6)).block, (ad.add (j * 6)).off + 2, none⟩ = some (.int .i64 (X j).deed.kind) ∧ w.cell? ⟨(ad.add (j * 6)).block, (ad.add (j * 6)).off + 3, none⟩ = some (.string (bs (X j).deed.path)) ∧
      w.cell? ⟨(ad.add (j * 6)).block, (ad.add (j * 6)).off + 4, none⟩ = some (.string (bs (X j).deed.data)) ∧ w.cell? ⟨(ad.add (j * 6)).block, (ad.add (j * 6)).off + 5, none⟩ = some (.int .i64 (X j).deed.version) := by
  obtain ⟨ad, e, hb, hc⟩ := h (by omega)
  have e0 : ∀ k, k < 6 → w.cell? (ad.add (j * 6 + k)) = some (ofL (cellsA (X j)) k) := fun k hk => by
    have := hc (j * 6 + k) (by omega)
    unfold akF at this
    rwa [show (j * 6 + k) / 6 = j by omega, show (j * 6 + k) % 6 = k by omega] at this
  have h0 := e0 0 (by omega)
  have h1 := e0 1 (by omega)
  have h2 := e0 2 (by omega)
  have h3 := e0 3 (by omega)
  have h4 := e0 4 (by omega)
  have h5 := e0 5 (by omega)
  rw [Nat.add_zero] at h0
  rw [← addr_add] at h1 h2 h3 h4 h5
  exact ⟨ad, e, hb, h0, h1, h2, h3, h4, h5⟩
end Go.Proofs.YtfdgjbanajodfaaDoor
