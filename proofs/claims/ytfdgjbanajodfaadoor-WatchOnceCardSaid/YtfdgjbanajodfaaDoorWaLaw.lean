/- What watch.Play answers, as the laws read it. -/
import Derived.Test.YtfdgjbanajodfaaDoorWa4
import Derived.Test.YtfdgjbanajodfaaDoorWaPl
import Derived.Test.YtfdgjbanajodfaaDoorTrTell
set_option linter.unusedVariables false
set_option linter.unusedSimpArgs false
namespace Go.Proofs.YtfdgjbanajodfaaDoor
open Go.RowKit

/-- An answer of Play in memory. -/
structure WpR (w : World) (B : Nat) (AC : Option Addr) (m : Nat) (NA : Nat → Option Addr) (NC : Nat → Nat) (a : Nat → Ans) (gn : Nat) (MA : Nat → Option Addr) (MC : Nat → Nat) (nt : Nat → List (Nat × Str)) : Prop where
  pl : PlR w B AC m NA NC a
  G : Rd w B (some ⟨gn, 0, none⟩) 6 (gF MA MC nt)
  N : ∀ i, i < 6 → Rd w B (MA i) ((nt i).length * 2) (ntF (nt i))
section
variable {w w' : World} {B : Nat} {AC : Option Addr} {m : Nat} {NA : Nat → Option Addr} {NC : Nat → Nat} {a : Nat → Ans} {gn : Nat} {MA : Nat → Option Addr} {MC : Nat → Nat} {nt : Nat → List (Nat × Str)}
theorem WpR.to (h : WpR w B AC m NA NC a gn MA MC nt) (hb : Below w.heap.size w w') : WpR w' B AC m NA NC a gn MA MC nt :=
  ⟨h.pl.to hb, h.G.below (hb.mono h.pl.le), fun i hi => (h.N i hi).below (hb.mono h.pl.le)⟩
theorem WpR.at_ (h : WpR w B AC m NA NC a gn MA MC nt) {i : Nat} (hi : i < 6) : gn < B ∧ w.cell? ⟨gn, i, none⟩ = some (.slice (MA i) (nt i).length (MC i)) := by
  obtain ⟨ad, e, hb, hc⟩ := h.G (by omega)
  injection e with e
  subst e
  have e : (⟨gn, 0, none⟩ : Addr).add i = ⟨gn, i, none⟩ := by unfold Addr.add; split <;> simp_all
  have := hc i hi
  rw [e] at this
  exact ⟨hb, this⟩
theorem WpR.note (h : WpR w B AC m NA NC a gn MA MC nt) {i k : Nat} (hi : i < 6) {x : Nat × Str} (hk : (nt i)[k]? = some x) :
    ∃ ad, MA i = some ad ∧ ad.block < B ∧ w.cell? (ad.add (k * 2)) = some (.int .i64 (x.1 : Nat)) ∧ w.cell? ⟨(ad.add (k * 2)).block, (ad.add (k * 2)).off + 1, none⟩ = some (.string (bs x.2)) := by
  have hl := (List.getElem?_eq_some_iff.1 hk).1
  obtain ⟨ad, e, hb, hc⟩ := h.N i hi (by omega)
  have hx : (nt i).getD k (0, []) = x := by rw [List.getD_eq_getElem?_getD, hk]; rfl
  have h0 := hc (k * 2 + 0) (by omega)
  have h1 := hc (k * 2 + 1) (by omega)
  unfold ntF at h0 h1
  rw [show (k * 2 + 0) / 2 = k by omega, show (k * 2 + 0) % 2 = 0 by omega, hx] at h0
  rw [show (k * 2 + 1) / 2 = k by omega, show (k * 2 + 1) % 2 = 1 by omega, hx] at h1
  rw [← addr_add] at h1
  exact ⟨ad, e, hb, h0, h1⟩
end
theorem rows_app (X VR : List LRow) : RowsIn VR (X ++ VR) := fun k r h => ⟨X.length + k, by rw [List.getElem?_append_right (by omega), Nat.add_sub_cancel_left]; exact h⟩
theorem wplay_law (m cap B : Nat) (A : Option Addr) (X : Nat → AskX) (w : World) (hm : m ≤ 60) (hB : B ≤ w.heap.size) (hD : ∀ i, i < m → DeedL (X i).deed) (hr : Rd w B A (m * 6) (akF X)) :
    Calls Tryd.prog 9 #[.slice A m cap] w fun e w' => ∃ AC cC NA NC gn MA MC, e = .returned (.tuple #[.slice AC m cC, .slice (some ⟨gn, 0, none⟩) 6 6, .int .i64 0]) ∧ Below w.heap.size w w' ∧
      WpR w' w'.heap.size AC m NA NC (wans X) gn MA MC (wst X m).nt := by
  refine (wplay_good m cap B A X w hm hB hD hr).mono ?_
  rintro e w' ⟨v, rfl, AC, cC, G, VR, gn, MA, MC, rfl, hL, hT⟩
  have hL' : Lay w w' (rowTd AC m cC G :: ((rowNs gn MA MC (wst X m).nt :: famNt MA MC (wst X m).nt) ++ VR)) := hL
  obtain ⟨NA, NC, h, -⟩ := plR_of hL' fun t ht => (hT t ht).sub (rows_app _ VR)
  refine ⟨AC, cC, NA, NC, gn, MA, MC, rfl, hL.bel, h, hL.rd1 1 rfl, fun i hi => ?_⟩
  rcases (by omega : i = 0 ∨ i = 1 ∨ i = 2 ∨ i = 3 ∨ i = 4 ∨ i = 5) with rfl | rfl | rfl | rfl | rfl | rfl
  · exact hL.rd 2 rfl
  · exact hL.rd 3 rfl
  · exact hL.rd 4 rfl
  · exact hL.rd 5 rfl
  · exact hL.rd 6 rfl
  · exact hL.rd 7 rfl
theorem setN_le (X : Nat → AskX) (who : Int) : ∀ k, setN X who k ≤ k
  | 0 => Nat.le_refl _
  | k + 1 => by
    have := setN_le X who k
    unfold setN
    split <;> omega
end Go.Proofs.YtfdgjbanajodfaaDoor
