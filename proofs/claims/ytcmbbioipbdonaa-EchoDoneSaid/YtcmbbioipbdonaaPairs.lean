/- A slice of pairs of numbers ('[][2]int'), opened. -/
import Derived.Test.YtcmbbioipbdonaaRow
import Derived.Test.YtcmbbioipbdonaaRec2
import Derived.OpenShut
set_option linter.unusedVariables false
set_option linter.unusedSimpArgs false
namespace Go.Proofs.Ytcmbbioipbdonaa
open Go.ChangeShapes Go.WideShapes Go.ChangeAt Go.RowKit
section
variable {H : Type} {enc : TypeId × Value → H} {P : Program} {w : World} {r : Reach} {b0 : Nat} {t e f : TypeId} {v : Value} {d : DataW H} {p : List MemPlace}
theorem open_pairs (ht : P.underlying t = some (.slice e)) (he : P.underlying e = some (.array 2 f)) (hf : P.underlying f = some (.int .i64)) (hC : P.cellsOf e = 2) (hC1 : P.cellsOf f = 1)
    (hv : Value.okWide P w r b0 t v) (h : DataW.Trod enc P w 0 (fun _ => true) true t v d p) :
    ∃ (A : Option Addr) (n cap : Nat) (p q : Nat → Int), v = .slice A n cap ∧ ((n ≤ cap ∧ cap ≤ maxLen) ∧ SlCap d cap) ∧ Rd w w.heap.size A (n * 2) (recF2 p q) := by
  obtain ⟨A, n, cap, rfl⟩ := okWide_slice ht hv
  obtain ⟨fuel, hfu⟩ := h
  rcases Deep.open_slice ht hfu with ⟨hcs, hd⟩ | ⟨a, len, cap', m, nn, D, Pl, hcs, hb, hl, hm, hmm, hx, hi⟩
  · simp only [Value.cells] at hcs
    injection hcs with hcs _
    injection hcs with h1 h2 h3
    subst h1 h2 h3
    exact ⟨none, 0, 0, fun _ => 0, fun _ => 0, rfl, ⟨⟨Nat.le_refl _, by unfold maxLen; omega⟩, .inl ⟨congrArg Prod.fst hd, rfl⟩⟩, by rw [Nat.zero_mul]; exact Rd.zero _ _ _ _⟩
  · simp only [Value.cells] at hcs
    injection hcs with hcs _
    injection hcs with h1 h2 h3
    subst h1 h2 h3
    simp only [if_true] at hmm
    have key : ∀ i j, i < n → j < 2 → ∃ x : Int, w.cell? (a.add (i * 2 + j)) = some (.int .i64 x) := by
      intro i j hin hj
      obtain ⟨cs', hc, ht'⟩ := hi i (by omega)
      rw [hC] at hc
      obtain ⟨ys, n', _, _, hlen, hyl, hfl⟩ := DataW.trod_array he ht'
      rw [hC] at hlen
      obtain ⟨_, hcl, hat⟩ := World.cells?_some hc
      have hcell := hat j hj
      have h1 := hfl j hj
      rw [hC1, Nat.mul_one] at h1
      have hjc : j < cs'.length := by omega
      have hone' : (cs'.drop j).take 1 = [cs'[j]] := by
        rw [List.drop_eq_getElem_cons hjc]
        rfl
      have hys : ys[j]? = some (ys[j]'(by omega)) := List.getElem?_eq_getElem (by omega)
      rw [hone', hys] at h1
      obtain ⟨x, hx1, _, _⟩ := DataW.trod_int hf h1
      refine ⟨x, ?_⟩
      rw [← Deep.add_add, hcell, List.getElem?_eq_getElem hjc]
      simpa using hx1
    refine ⟨some a, n, cap, fun i => cellInt w (a.add (i * 2)), fun i => cellInt w (a.add (i * 2 + 1)), rfl, ⟨⟨hl, hm⟩, .inr ⟨_, _, congrArg Prod.fst hx, by simp; omega⟩⟩, fun hn => ⟨a, rfl, ?_, fun t ht2 => ?_⟩⟩
    · obtain ⟨x, hx2⟩ := key 0 0 (by omega) (by omega)
      have := World.block_lt_of_cell? w _ hx2
      rwa [addr_block] at this
    · rcases Nat.mod_two_eq_zero_or_one t with h0 | h0
      · obtain ⟨x, hx2⟩ := key (t / 2) 0 (by omega) (by omega)
        have e1 : t = t / 2 * 2 := by omega
        rw [Nat.add_zero] at hx2
        generalize t / 2 = k at *
        subst e1
        rw [recF2_0, hx2, cellInt, hx2]
      · obtain ⟨x, hx2⟩ := key (t / 2) 1 (by omega) (by omega)
        have e1 : t = t / 2 * 2 + 1 := by omega
        generalize t / 2 = k at *
        subst e1
        rw [recF2_1, hx2, cellInt, hx2]
theorem rd_none {w : World} {B : Nat} {A : Option Addr} {n : Nat} {F : Nat → Value} (h : Rd w B A n F) : A = none → n = 0 := by
  intro hA
  rcases Nat.eq_zero_or_pos n with h0 | hp
  · exact h0
  · obtain ⟨ad, hd, _⟩ := h hp
    rw [hA] at hd
    cases hd
end
end Go.Proofs.Ytcmbbioipbdonaa
