/- What a run leaves as it was: all old blocks but some. -/
import Derived.Test.YtfdgjbanajodfaaDoorOwn
set_option linter.unusedVariables false
set_option linter.unusedSimpArgs false
namespace Go.Proofs.YtfdgjbanajodfaaDoor
open Go.RowKit

structure Kept (X : Nat → Prop) (w w' : World) : Prop where
  os : w'.os = w.os
  tape : w'.tape = w.tape
  output : w'.output = w.output
  size : w.heap.size ≤ w'.heap.size
  block : ∀ k, k < w.heap.size → ¬ X k → w'.heap[k]? = w.heap[k]?

section
variable {X : Nat → Prop} {w w' w2 : World}
theorem Kept.refl (X : Nat → Prop) (w : World) : Kept X w w := ⟨rfl, rfl, rfl, Nat.le_refl _, fun _ _ _ => rfl⟩
theorem Kept.trans (h : Kept X w w') (h2 : Kept X w' w2) : Kept X w w2 :=
  ⟨h2.os.trans h.os, h2.tape.trans h.tape, h2.output.trans h.output, Nat.le_trans h.size h2.size, fun k hk hx => (h2.block k (Nat.lt_of_lt_of_le hk h.size) hx).trans (h.block k hk hx)⟩
theorem Kept.mono {Y : Nat → Prop} (h : Kept X w w') (hXY : ∀ k, X k → Y k) : Kept Y w w' := ⟨h.os, h.tape, h.output, h.size, fun k hk hy => h.block k hk fun hx => hy (hXY k hx)⟩
theorem Kept.alloc (h : Kept X w w') (o : Obj) : Kept X w (w'.alloc o) :=
  ⟨h.os, h.tape, h.output, Nat.le_trans h.size (by simp), fun k hk hx => (Below.heap_alloc w' o k (Nat.lt_of_lt_of_le hk h.size)).trans (h.block k hk hx)⟩
theorem Kept.setCell (h : Kept X w w') {p : Addr} (hp : X p.block ∨ w.heap.size ≤ p.block) (u : Value) : Kept X w (w'.setCell p u) :=
  ⟨h.os, h.tape, h.output, by simpa [World.setCell] using h.size, fun k hk hx => (Below.heap_setCell w' p u k (fun e => by subst e; rcases hp with hp | hp; exact hx hp; omega)).trans (h.block k hk hx)⟩
theorem Kept.sim (h : Kept X w w') (e : Sim w' w2) : Kept X w w2 := by
  obtain ⟨h1, h2, h3, h4⟩ := e
  exact ⟨h2.trans h.os, h3.trans h.tape, h4.trans h.output, by rw [h1]; exact h.size, fun k hk hx => by rw [h1]; exact h.block k hk hx⟩
theorem Kept.below {B : Nat} (h : Kept X w w') (hB : B ≤ w.heap.size) (hX : ∀ k, k < B → ¬ X k) : Below B w w' := ⟨h.os, h.tape, h.output, h.size, fun k hk => h.block k (by omega) (hX k hk)⟩
theorem Kept.of_below (h : Below w.heap.size w w') : Kept X w w' := ⟨h.os, h.tape, h.output, h.size, fun k hk _ => h.block k hk⟩
theorem Kept.cell (h : Kept X w w') {p : Addr} (hp : p.block < w.heap.size) (hx : ¬ X p.block) : w'.cell? p = w.cell? p := World.cell?_of_block (w := w) (h.block p.block hp hx)
theorem Kept.grown (h : Kept X w w') {row : Option Nat} (hg : w'.grownBy w2 row) (hr : ∀ k, row = some k → X k ∨ w.heap.size ≤ k) : Kept X w w2 :=
  ⟨hg.os.trans h.os, hg.tape.trans h.tape, hg.output.trans h.output, Nat.le_trans h.size hg.size, fun k hk hx => (hg.block k (Nat.lt_of_lt_of_le hk h.size) (fun e => by
    rcases hr k e.symm with h1 | h1
    · exact hx h1
    · omega)).trans (h.block k hk hx)⟩
end
theorem Own.kept {X : Nat → Prop} {w w' : World} {base : Nat} {e : TypeId} {size : Nat} {A : Option Addr} {n cap : Nat} {f : Nat → Value} (h : Own w base e size A n cap f) (hk : Kept X w w') (hA : ∀ k, ablock A = some k → ¬ X k) : Own w' base e size A n cap f :=
  h.same fun k hk2 => hk.block k (h.lt k hk2).2 (hA k hk2)
theorem Rd.kept {X : Nat → Prop} {w w' : World} {B n : Nat} {A : Option Addr} {f : Nat → Value} (h : Rd w B A n f) (hk : Kept X w w') (hB : B ≤ w.heap.size) (hX : ∀ k, k < B → ¬ X k) : Rd w' B A n f := h.below (hk.below hB hX)
end Go.Proofs.YtfdgjbanajodfaaDoor
