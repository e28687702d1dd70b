/- What the laws of the lease ask, in plain functions; Play's struct in memory. -/
import Derived.Test.YtcipdjdbafngkaaLease3
import Derived.Test.YtcipdjdbafngkaaPop
set_option linter.unusedVariables false
set_option linter.unusedSimpArgs false
namespace Go.Proofs.Ytcipdjdbafngkaa
open Go.RowKit

structure LeaseOk (n : Nat) (r : Nat → Int) (term : Int) : Prop where
  sz : 1 ≤ n ∧ n ≤ 6
  tm : 1 ≤ term ∧ term ≤ 99
  rr : ∀ j, j < n → 9 ≤ r j ∧ r j ≤ 11
theorem LeaseOk.of {n : Nat} {r : Nat → Int} {term m : Int} (h : leasedB r n term m = true) : LeaseOk n r term := by
  obtain ⟨⟨h1, _⟩, h2, h3⟩ := leasedB_iff.1 h
  exact ⟨h1, h2, h3⟩
theorem kept_iff {r : Nat → Int} {term tq ago : Int} : keptB r term tq ago = true ↔ 0 < tq ∧ ago * r 0 < term := by simp [keptB]
theorem held_iff {r : Nat → Int} {term tq ago : Int} : lheldB r term tq ago = true ↔ 0 < tq ∧ ago * r tq.toNat * 11 < term * 9 := by simp [lheldB]
theorem held_kept {n : Nat} {r : Nat → Int} {term tq ago : Int} (h : LeaseOk n r term) (h1 : 0 ≤ tq ∧ tq < n) (h2 : 0 ≤ ago) (hh : lheldB r term tq ago = true) : keptB r term tq ago = true := by
  obtain ⟨h3, h4⟩ := held_iff.1 hh
  refine kept_iff.2 ⟨h3, ?_⟩
  have h5 := h.rr 0 (by have := h.sz; omega)
  have h6 := h.rr tq.toNat (by omega)
  have h7 : ago * 9 ≤ ago * r tq.toNat := Int.mul_le_mul_of_nonneg_left h6.1 h2
  have h8 : ago * r 0 ≤ ago * 11 := Int.mul_le_mul_of_nonneg_left h5.2 h2
  omega
theorem holds_lt (n : Nat) (hn : 1 ≤ n) (hn6 : n ≤ 6) (r : Nat → Int) (term : Int) (M : Mv) (j : Nat) : holdsF n r term M j < 64 ∧ keepsF n r term M j < 64 := by
  have hb := (leaseE_bd n hn r term M (j + 1)).1
  have h : 2 ^ (leaseE n r term M (j + 1)).1.toNat < 64 := by
    have : 2 ^ (leaseE n r term M (j + 1)).1.toNat ≤ 2 ^ 5 := Nat.pow_le_pow_right (by omega) (by omega)
    omega
  unfold holdsF keepsF
  constructor <;> (split <;> omega)
/-- What is true behind each move. -/
theorem lease_one {n : Nat} {r : Nat → Int} {term : Int} (h : LeaseOk n r term) (M : Mv) (j : Nat) : pop (keepsF n r term M j) ≤ 1 ∧ (∀ i, (holdsF n r term M j).testBit i = true → (keepsF n r term M j).testBit i = true) ∧ (holdsF n r term M j).testBit 0 = false := by
  obtain ⟨hb1, hb2, _⟩ := leaseE_bd n h.sz.1 r term M (j + 1)
  refine ⟨?_, ?_, ?_⟩
  · unfold keepsF
    split
    · rw [pop_two_pow (by have := h.sz; omega)]; exact Nat.le_refl _
    · rw [pop_zero]; omega
  · intro i hi
    unfold holdsF at hi
    split at hi
    · rename_i hh
      unfold keepsF
      rw [if_pos (held_kept h hb1 hb2 hh)]
      exact hi
    · simp at hi
  · unfold holdsF
    split
    · rename_i hh
      have := (held_iff.1 hh).1
      rw [Nat.testBit_two_pow]
      simp
      omega
    · simp
theorem step_tick {n : Nat} {r : Nat → Int} {term t v : Int} {s : Int × Int} : (leaseStep n r term 2 t v s).2.1 = s.1 ∧ s.2 ≤ (leaseStep n r term 2 t v s).2.2 := by
  unfold leaseStep
  rw [if_neg (by omega), if_pos rfl]
  split
  · exact ⟨rfl, Int.le_refl _⟩
  · exact ⟨rfl, by simp only []; omega⟩
theorem step_bad {n : Nat} {r : Nat → Int} {term k t v : Int} {s : Int × Int} (h : (leaseStep n r term k t v s).1 ≠ 0) : (leaseStep n r term k t v s).2 = s := by
  unfold leaseStep at h ⊢
  repeat' split
  all_goals first | rfl | skip
  all_goals simp_all
/-- Behind ticks nobody more; behind what is refused the same. -/
theorem lease_less {n : Nat} {r : Nat → Int} {term : Int} (h : LeaseOk n r term) (M : Mv) (j : Nat) :
    (M.k (j + 1) = 2 → (∀ i, (holdsF n r term M (j + 1)).testBit i = true → (holdsF n r term M j).testBit i = true) ∧ ∀ i, (keepsF n r term M (j + 1)).testBit i = true → (keepsF n r term M j).testBit i = true) ∧
    (leaseC n r term M (j + 1) ≠ 0 → holdsF n r term M (j + 1) = holdsF n r term M j ∧ keepsF n r term M (j + 1) = keepsF n r term M j) := by
  obtain ⟨hb1, hb2, _⟩ := leaseE_bd n h.sz.1 r term M (j + 1)
  have hE : leaseE n r term M (j + 1 + 1) = (leaseStep n r term (M.k (j + 1)) (M.t (j + 1)) (M.v (j + 1)) (leaseE n r term M (j + 1))).2 := rfl
  constructor
  · intro hk
    rw [hk] at hE
    obtain ⟨e1, e2⟩ := step_tick (n := n) (r := r) (term := term) (t := M.t (j + 1)) (v := M.v (j + 1)) (s := leaseE n r term M (j + 1))
    rw [← hE] at e1 e2
    constructor
    · intro i hi
      unfold holdsF at hi ⊢
      split at hi
      · rename_i hh
        rw [e1] at hh hi
        rw [if_pos]
        · exact hi
        · obtain ⟨h3, h4⟩ := held_iff.1 hh
          refine held_iff.2 ⟨h3, ?_⟩
          have h6 := h.rr (leaseE n r term M (j + 1)).1.toNat (by omega)
          have := Int.mul_le_mul_of_nonneg_right e2 (show 0 ≤ r (leaseE n r term M (j + 1)).1.toNat by omega)
          omega
      · simp at hi
    · intro i hi
      unfold keepsF at hi ⊢
      split at hi
      · rename_i hh
        rw [e1] at hh hi
        rw [if_pos]
        · exact hi
        · obtain ⟨h3, h4⟩ := kept_iff.1 hh
          refine kept_iff.2 ⟨h3, ?_⟩
          have h6 := h.rr 0 (by have := h.sz; omega)
          have := Int.mul_le_mul_of_nonneg_right e2 (show 0 ≤ r 0 by omega)
          omega
      · simp at hi
  · intro hc
    have := step_bad hc
    rw [← hE] at this
    unfold holdsF keepsF
    rw [this]
    exact ⟨rfl, rfl⟩
/-- A tick of the whole term, then a grant. -/
theorem lease_free {n : Nat} {r : Nat → Int} {term : Int} (h : LeaseOk n r term) (M : Mv) (j : Nat) (h2 : M.k j = 2 ∧ M.v j = term) (h1 : M.k (j + 1) = 1) :
    holdsF n r term M j = 0 ∧ keepsF n r term M j = 0 ∧ (if M.t (j + 1) < 1 ∨ n ≤ M.t (j + 1) then leaseC n r term M (j + 1) = 2 else leaseC n r term M (j + 1) = 0 ∧ keepsF n r term M (j + 1) = 2 ^ (M.t (j + 1)).toNat) := by
  obtain ⟨hb1, hb2, _⟩ := leaseE_bd n h.sz.1 r term M j
  have hE : leaseE n r term M (j + 1) = ((leaseE n r term M j).1, (leaseE n r term M j).2 + term) := by
    show (leaseStep n r term (M.k j) (M.t j) (M.v j) (leaseE n r term M j)).2 = _
    rw [h2.1, h2.2]
    have := h.tm
    unfold leaseStep
    rw [if_neg (by omega), if_pos rfl, if_neg (by omega)]
  have hk : keptB r term (leaseE n r term M (j + 1)).1 (leaseE n r term M (j + 1)).2 = false := by
    rw [← Bool.not_eq_true, kept_iff, hE]
    rintro ⟨_, h4⟩
    simp only [] at h4
    have h6 := h.rr 0 (by have := h.sz; omega)
    have h7 := h.tm
    have h8 : ((leaseE n r term M j).2 + term) * 9 ≤ ((leaseE n r term M j).2 + term) * r 0 := Int.mul_le_mul_of_nonneg_left h6.1 (by omega)
    omega
  have hh : lheldB r term (leaseE n r term M (j + 1)).1 (leaseE n r term M (j + 1)).2 = false := by
    rw [← Bool.not_eq_true]
    intro hh
    obtain ⟨hc1, hc2, _⟩ := leaseE_bd n h.sz.1 r term M (j + 1)
    rw [held_kept h hc1 hc2 hh] at hk
    cases hk
  refine ⟨by unfold holdsF; rw [if_neg (by rw [hh]; simp)], by unfold keepsF; rw [if_neg (by rw [hk]; simp)], ?_⟩
  have hS : leaseStep n r term (M.k (j + 1)) (M.t (j + 1)) (M.v (j + 1)) (leaseE n r term M (j + 1)) = if M.t (j + 1) < 1 ∨ n ≤ M.t (j + 1) then (2, leaseE n r term M (j + 1)) else (0, (M.t (j + 1), 0)) := by
    rw [h1]
    unfold leaseStep
    rw [if_neg (by omega), if_neg (by omega)]
    split
    · rfl
    · rw [if_neg (by rw [hk]; simp)]
  split
  · rename_i hb
    show (leaseStep _ _ _ _ _ _ _).1 = 2
    rw [hS, if_pos hb]
  · rename_i hb
    rw [if_neg hb] at hS
    refine ⟨by show (leaseStep _ _ _ _ _ _ _).1 = 0; rw [hS], ?_⟩
    unfold keepsF
    have hE2 : leaseE n r term M (j + 1 + 1) = (M.t (j + 1), 0) := by show (leaseStep _ _ _ _ _ _ _).2 = _; rw [hS]
    rw [hE2, if_pos (kept_iff.2 ⟨by simp only []; omega, by have := h.tm; simp only []; omega⟩)]

/-- Between the rounds of a law: what Play gave, and its struct in block b. -/
structure LO (w wr : World) (m c0 c1 c3 : Nat) (A0 A1 A3 : Option Addr) (fc : Nat → Int) (fh fk : Nat → Nat) (b : Nat) : Prop where
  le : LE w wr m c0 c1 c3 A0 A1 A3 fc fh fk
  row : wr.heap[b]? = some (.cells #[.slice A0 m c0, .slice A1 m c1, .slice A3 m c3] 27 (0, 0))
section
variable {w wr wr' : World} {m c0 c1 c3 : Nat} {A0 A1 A3 : Option Addr} {fc : Nat → Int} {fh fk : Nat → Nat} {b : Nat}
theorem LO.lt (h : LO w wr m c0 c1 c3 A0 A1 A3 fc fh fk b) : b < wr.heap.size := by
  have := h.row
  exact (Array.getElem?_eq_some_iff.1 this).1
theorem LO.keep (h : LO w wr m c0 c1 c3 A0 A1 A3 fc fh fk b) (hb : Below wr.heap.size wr wr') : LO w wr' m c0 c1 c3 A0 A1 A3 fc fh fk b :=
  ⟨⟨h.le.o0.below hb (fun k hk => (h.le.o0.lt k hk).2), h.le.o1.below hb (fun k hk => (h.le.o1.lt k hk).2), h.le.o2.below hb (fun k hk => (h.le.o2.lt k hk).2), h.le.bel.trans (hb.mono h.le.bel.size)⟩, (hb.block _ h.lt).trans h.row⟩
theorem LO.sim (h : LO w wr m c0 c1 c3 A0 A1 A3 fc fh fk b) (e : Sim wr wr') : LO w wr' m c0 c1 c3 A0 A1 A3 fc fh fk b := h.keep (below_sim (Below.refl _ _) e)
theorem LO.cells (h : LO w wr m c0 c1 c3 A0 A1 A3 fc fh fk b) : wr.cell? ⟨b, 0, none⟩ = some (.slice A0 m c0) ∧ wr.cell? ⟨b, 1, none⟩ = some (.slice A1 m c1) ∧ wr.cell? ⟨b, 2, none⟩ = some (.slice A3 m c3) := by
  refine ⟨?_, ?_, ?_⟩ <;> (rw [cell_of_row _ _ _ _ _ _ h.row]; rfl)
theorem LO.made (h : LE w wr m c0 c1 c3 A0 A1 A3 fc fh fk) : LO w (wr.alloc (.cells #[.slice A0 m c0, .slice A1 m c1, .slice A3 m c3] 27)) m c0 c1 c3 A0 A1 A3 fc fh fk wr.heap.size :=
  ⟨⟨h.o0.alloc _, h.o1.alloc _, h.o2.alloc _, h.bel.alloc h.bel.size _⟩, heap_alloc_new wr _⟩
theorem LO.rows (h : LO w wr m c0 c1 c3 A0 A1 A3 fc fh fk b) (hm : 0 < m) : ∃ g0 g1 g3, A0 = some ⟨g0, 0, none⟩ ∧ A1 = some ⟨g1, 0, none⟩ ∧ A3 = some ⟨g3, 0, none⟩ ∧
    ∀ i, i < m → wr.cell? ⟨g0, i, none⟩ = some (.int .i64 (fc i)) ∧ wr.cell? ⟨g1, i, none⟩ = some (.int .u32 (fh i : Nat)) ∧ wr.cell? ⟨g3, i, none⟩ = some (.int .u32 (fk i : Nat)) := by
  obtain ⟨g0, e0, _, _, h0, _⟩ := h.le.o0.pos1 hm
  obtain ⟨g1, e1, _, _, h1, _⟩ := h.le.o1.pos1 hm
  obtain ⟨g3, e3, _, _, h3, _⟩ := h.le.o2.pos1 hm
  exact ⟨g0, g1, g3, e0, e1, e3, fun i hi => ⟨h0 i hi, h1 i hi, h3 i hi⟩⟩
end
end Go.Proofs.Ytcipdjdbafngkaa
