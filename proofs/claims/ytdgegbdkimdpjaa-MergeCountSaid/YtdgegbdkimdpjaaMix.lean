/- A region that draws its order, in four parts: loads that all the rest leaves as they were are taken first (0); then what writes or calls, in its forced order (1); then again what only reads (2); then again what writes, in its forced order (3). -/
import Derived.Test.YtdgegbdkimdpjaaPhase
set_option linter.unusedVariables false
set_option linter.unusedSimpArgs false
namespace Go.Proofs.Ytdgegbdkimdpjaa
open Go.RowKit

section
variable {P : Program} {ops : Array Oper} {Q : Exit → Act → World → Prop} {S : World → Prop}
def mixB (P : Program) (n : Nat) (mask : List Nat) (l : List Oper) : Bool :=
  Region.noSelect l.toArray && (pick (mask.map (· == 0)) l).all (mildOp P) && slotsOk n (pick (mask.map (· == 0)) l) && (pick (mask.map (· == 2)) l).all (mildOp P) &&
    heldZ .any l.toArray (fun L => chainZ .any l.toArray (fun L => heldZ .any l.toArray (fun L => chainZ .any l.toArray (fun L => (Region.ready .any l.toArray L).isEmpty) (places (mask.map (· == 3)) 0) L) (places (mask.map (· == 2)) 0) L) (places (mask.map (· == 1)) 0) L) (places (mask.map (· == 0)) 0) (Array.replicate l.toArray.size false) &&
    ((places (mask.map (· == 0)) 0).length + ((places (mask.map (· == 1)) 0).length + ((places (mask.map (· == 2)) 0).length + ((places (mask.map (· == 3)) 0).length + 0))) == l.toArray.size)
theorem wp_mix {id : Nat} {a : Act} {w : World} {l : List Oper} (S : World → Prop) (mask : List Nat) (A1 : Act) (hm : P.follows .mixedOrders = true) (hlen : mask.length ≤ l.length)
    (hB : mixB P a.tmps.size mask l = true) (hT : Tame Q) (hS : S w.drew) (hhead : ∀ W, S W → wpList P l.toArray (Taken A1 W) (pick (mask.map (· == 0)) l) a W)
    (htail : chainW P l.toArray Q S (fun a1 w1 => ∃ A2, slotsOk a1.tmps.size (pick (mask.map (· == 2)) l) = true ∧ (∀ W, S W → wpList P l.toArray (Taken A2 W) (pick (mask.map (· == 2)) l) a1 W) ∧
      chainW P l.toArray Q S (fun a2 w2 => Q .normal a2 w2) (pick (mask.map (· == 3)) l) A2 w1) (pick (mask.map (· == 1)) l) A1 w.drew) : (Code.region id l.toArray true).wp P Q a w := by
  unfold mixB at hB
  simp only [Bool.and_eq_true] at hB
  obtain ⟨⟨⟨⟨⟨h1, h2⟩, h3⟩, h4⟩, h5⟩, h6⟩ := hB
  refine wp_region_any hm (wpAny_of_Z (S := S) _ _ _ _ ?_)
  have hsz := (beq_iff_eq.1 h6).symm
  have hl : ∀ d : Nat, (mask.map (· == d)).length ≤ l.length := fun d => by simpa using hlen
  have := takes_Z (P := P) (Q := Q) (S := S) (md := .any) hT h1 A1 _ w.drew hS (places (mask.map (· == 0)) 0) (pick (mask.map (· == 0)) l) (Array.replicate l.toArray.size false) a
    ((places (mask.map (· == 1)) 0).length + ((places (mask.map (· == 2)) 0).length + ((places (mask.map (· == 3)) 0).length + 0))) (pick_places _ l [] (hl 0)) h2 h3 h5 hhead
    (fun listed1 hc1 => chain_Z _ _ _ (fun listed2 a1 w1 hf1 hS1 ⟨A2, hs2, hh2, ht2⟩ =>
      takes_Z (P := P) (Q := Q) (S := S) (md := .any) hT h1 A2 _ w1 hS1 (places (mask.map (· == 2)) 0) (pick (mask.map (· == 2)) l) listed2 a1 ((places (mask.map (· == 3)) 0).length + 0) (pick_places _ l [] (hl 2)) h4 hs2 hf1 hh2
        (fun listed3 hc3 => chain_Z _ (fun a2 w2 => Q .normal a2 w2) 0 (fun listed4 a2 w2 hf2 _ hq => ⟨by simpa using hf2, hq⟩) (places (mask.map (· == 3)) 0) (pick (mask.map (· == 3)) l) listed3 A2 w1 (pick_places _ l [] (hl 3)) hc3 hS1 ht2))
      (places (mask.map (· == 1)) 0) (pick (mask.map (· == 1)) l) listed1 A1 w.drew (pick_places _ l [] (hl 1)) hc1 hS htail)
  rw [← hsz] at this
  exact this
end
end Go.Proofs.Ytdgegbdkimdpjaa
