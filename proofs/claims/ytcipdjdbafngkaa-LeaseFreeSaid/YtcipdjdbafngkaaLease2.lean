/- The walk of lease.Play. -/
import Derived.Test.YtcipdjdbafngkaaLease1
import Derived.Test.YtcipdjdbafngkaaMv
import Derived.Deep.CutRange
import Derived.Deep.CutBlock
import Derived.Deep.RegionHeld3
set_option linter.unusedVariables false
set_option linter.unusedSimpArgs false
namespace Go.Proofs.Ytcipdjdbafngkaa
open Go.RowKit

/-- One move: the code, and the grant behind it. -/
def leaseStep (n : Nat) (r : Nat → Int) (term k t v : Int) (s : Int × Int) : Int × (Int × Int) :=
  if k ≠ 1 ∧ k ≠ 2 then (6, s)
  else if k = 2 then (if v < 0 ∨ 1000 < v then (4, s) else (0, (s.1, s.2 + v)))
  else if t < 1 ∨ n ≤ t then (2, s)
  else if keptB r term s.1 s.2 = true ∧ s.1 ≠ t then (7, s)
  else (0, (t, 0))
def leaseE (n : Nat) (r : Nat → Int) (term : Int) (M : Mv) : Nat → Int × Int
  | 0 => (0, 0)
  | j + 1 => (leaseStep n r term (M.k j) (M.t j) (M.v j) (leaseE n r term M j)).2
def leaseC (n : Nat) (r : Nat → Int) (term : Int) (M : Mv) (j : Nat) : Int := (leaseStep n r term (M.k j) (M.t j) (M.v j) (leaseE n r term M j)).1
def holdsF (n : Nat) (r : Nat → Int) (term : Int) (M : Mv) (j : Nat) : Nat := if lheldB r term (leaseE n r term M (j + 1)).1 (leaseE n r term M (j + 1)).2 then 2 ^ (leaseE n r term M (j + 1)).1.toNat else 0
def keepsF (n : Nat) (r : Nat → Int) (term : Int) (M : Mv) (j : Nat) : Nat := if keptB r term (leaseE n r term M (j + 1)).1 (leaseE n r term M (j + 1)).2 then 2 ^ (leaseE n r term M (j + 1)).1.toNat else 0

theorem leaseE_bd (n : Nat) (hn : 1 ≤ n) (r : Nat → Int) (term : Int) (M : Mv) (j : Nat) : (0 ≤ (leaseE n r term M j).1 ∧ (leaseE n r term M j).1 < n) ∧ 0 ≤ (leaseE n r term M j).2 ∧ (leaseE n r term M j).2 ≤ 1000 * j := by
  induction j with
  | zero => exact ⟨⟨Int.le_refl _, by show (0 : Int) < n; omega⟩, Int.le_refl _, by show (0 : Int) ≤ _; omega⟩
  | succ j ih =>
    rw [leaseE]
    unfold leaseStep
    repeat' split
    all_goals (simp only []; omega)

/-- The state of Play: the grant, what it gives back so far. -/
structure LP (w wr : World) (j cap0 cap1 cap2 : Nat) (A0 A1 A2 : Option Addr) (tq ago : Int) (fc : Nat → Int) (fh fk : Nat → Nat) : Prop where
  below : Below w.heap.size w wr
  sz : w.heap.size + 3 ≤ wr.heap.size
  rv : wr.heap[w.heap.size]? = some (.cells #[.slice none 0 0, .slice none 0 0, .slice none 0 0] 27 (0, 0))
  gr : wr.heap[w.heap.size + 1]? = some (.cells #[.int .i64 tq, .int .i64 ago] 50 (0, 0))
  ou : wr.heap[w.heap.size + 1 + 1]? = some (.cells #[.slice A0 j cap0, .slice A1 j cap1, .slice A2 j cap2] 27 (0, 0))
  own0 : Own wr (w.heap.size + 3) 28 1 A0 j cap0 (fun i => .int .i64 (fc i))
  own1 : Own wr (w.heap.size + 3) 33 1 A1 j cap1 (fun i => .int .u32 (fh i : Nat))
  own2 : Own wr (w.heap.size + 3) 33 1 A2 j cap2 (fun i => .int .u32 (fk i : Nat))
  ne : ablock A1 = none ∨ ablock A1 ≠ ablock A2

section
variable {w wr wr' : World} {j cap0 cap1 cap2 : Nat} {A0 A1 A2 : Option Addr} {tq ago : Int} {fc : Nat → Int} {fh fk : Nat → Nat}
theorem LP.keep (h : LP w wr j cap0 cap1 cap2 A0 A1 A2 tq ago fc fh fk) (hb : Below wr.heap.size wr wr') : LP w wr' j cap0 cap1 cap2 A0 A1 A2 tq ago fc fh fk := by
  have hs := h.sz
  exact ⟨h.below.trans (hb.mono (by omega)), Nat.le_trans hs hb.size, (hb.block _ (by omega)).trans h.rv, (hb.block _ (by omega)).trans h.gr, (hb.block _ (by omega)).trans h.ou,
    h.own0.below hb (fun k hk => (h.own0.lt k hk).2), h.own1.below hb (fun k hk => (h.own1.lt k hk).2), h.own2.below hb (fun k hk => (h.own2.lt k hk).2), h.ne⟩
theorem LP.drew (h : LP w wr j cap0 cap1 cap2 A0 A1 A2 tq ago fc fh fk) : LP w wr.drew j cap0 cap1 cap2 A0 A1 A2 tq ago fc fh fk :=
  ⟨h.below.drew, h.sz, h.rv, h.gr, h.ou, h.own0, h.own1, h.own2, h.ne⟩
theorem LP.g0 (h : LP w wr j cap0 cap1 cap2 A0 A1 A2 tq ago fc fh fk) : wr.cell? ⟨w.heap.size + 1, 0, none⟩ = some (.int .i64 tq) := by rw [cell_of_row _ _ _ _ _ _ h.gr]; rfl
theorem LP.g1 (h : LP w wr j cap0 cap1 cap2 A0 A1 A2 tq ago fc fh fk) : wr.cell? ⟨w.heap.size + 1, 1, none⟩ = some (.int .i64 ago) := by rw [cell_of_row _ _ _ _ _ _ h.gr]; rfl
theorem LP.gf (h : LP w wr j cap0 cap1 cap2 A0 A1 A2 tq ago fc fh fk) (o : Nat) : wr.frozen? ⟨w.heap.size + 1, o, none⟩ = false := by simp [World.frozen?, h.gr]
theorem LP.o0 (h : LP w wr j cap0 cap1 cap2 A0 A1 A2 tq ago fc fh fk) : wr.cell? ⟨w.heap.size + 1 + 1, 0, none⟩ = some (.slice A0 j cap0) := by rw [cell_of_row _ _ _ _ _ _ h.ou]; rfl
theorem LP.o1 (h : LP w wr j cap0 cap1 cap2 A0 A1 A2 tq ago fc fh fk) : wr.cell? ⟨w.heap.size + 1 + 1, 1, none⟩ = some (.slice A1 j cap1) := by rw [cell_of_row _ _ _ _ _ _ h.ou]; rfl
theorem LP.o2 (h : LP w wr j cap0 cap1 cap2 A0 A1 A2 tq ago fc fh fk) : wr.cell? ⟨w.heap.size + 1 + 1, 2, none⟩ = some (.slice A2 j cap2) := by rw [cell_of_row _ _ _ _ _ _ h.ou]; rfl
theorem LP.ne' (h : LP w wr j cap0 cap1 cap2 A0 A1 A2 tq ago fc fh fk) : ablock A2 = none ∨ ablock A2 ≠ ablock A1 := by
  rcases h.ne with h1 | h1
  · cases h2 : ablock A2
    · exact .inl rfl
    · exact .inr (by rw [h1]; simp)
  · exact .inr (Ne.symm h1)
theorem LP.of (h : LP w wr j cap0 cap1 cap2 A0 A1 A2 tq ago fc fh fk) (o : Nat) : wr.frozen? ⟨w.heap.size + 1 + 1, o, none⟩ = false := by have := h.ou; simp [World.frozen?, this]
theorem LP.setG1 (h : LP w wr j cap0 cap1 cap2 A0 A1 A2 tq ago fc fh fk) (v : Int) : LP w (wr.setCell ⟨w.heap.size + 1, 1, none⟩ (.int .i64 v)) j cap0 cap1 cap2 A0 A1 A2 tq v fc fh fk := by
  have hs := h.sz
  have far : ∀ k, k ≠ w.heap.size + 1 → (wr.setCell ⟨w.heap.size + 1, 1, none⟩ (.int .i64 v)).heap[k]? = wr.heap[k]? := fun k hk => Below.heap_setCell _ _ _ _ hk
  refine ⟨h.below.setCell (by simp) _, by simpa [World.setCell] using hs, (far _ (by omega)).trans h.rv, ?_, (far _ (by omega)).trans h.ou, h.own0.same fun k hk => far k ?_, h.own1.same fun k hk => far k ?_, h.own2.same fun k hk => far k ?_, h.ne⟩
  · have hg := h.gr
    simp [World.setCell, Array.getElem?_modify, hg]
  · have := h.own0.lt k hk; omega
  · have := h.own1.lt k hk; omega
  · have := h.own2.lt k hk; omega
theorem LP.setG0 (h : LP w wr j cap0 cap1 cap2 A0 A1 A2 tq ago fc fh fk) (v : Int) : LP w (wr.setCell ⟨w.heap.size + 1, 0, none⟩ (.int .i64 v)) j cap0 cap1 cap2 A0 A1 A2 v ago fc fh fk := by
  have hs := h.sz
  have far : ∀ k, k ≠ w.heap.size + 1 → (wr.setCell ⟨w.heap.size + 1, 0, none⟩ (.int .i64 v)).heap[k]? = wr.heap[k]? := fun k hk => Below.heap_setCell _ _ _ _ hk
  refine ⟨h.below.setCell (by simp) _, by simpa [World.setCell] using hs, (far _ (by omega)).trans h.rv, ?_, (far _ (by omega)).trans h.ou, h.own0.same fun k hk => far k ?_, h.own1.same fun k hk => far k ?_, h.own2.same fun k hk => far k ?_, h.ne⟩
  · have hg := h.gr
    simp [World.setCell, Array.getElem?_modify, hg]
  · have := h.own0.lt k hk; omega
  · have := h.own1.lt k hk; omega
  · have := h.own2.lt k hk; omega
end

/-- The bad calls. -/
theorem lease_bad (r : Nat → Int) (n cap m cap2 B : Nat) (A A2 : Option Addr) (term : Int) (w : World) (hn : n ≤ maxLen) (hm : m ≤ maxLen) (hB : B ≤ w.heap.size) (hr : Rd w B A n (nums r)) (hb : leasedB r n term m = false) :
    ∃ c : Int, c ≠ 0 ∧ Calls Try.prog 8 #[.slice A n cap, .int .i64 term, .slice A2 m cap2] w fun e w' => e = .returned (.tuple #[.agg #[.slice none 0 0, .slice none 0 0, .slice none 0 0], .int .i64 c]) ∧ Below w.heap.size w w' := by
  have hb' : ¬ (((1 ≤ (n : Int) ∧ (n : Int) ≤ 6) ∧ (m : Int) ≤ 60) ∧ (1 ≤ term ∧ term ≤ 99) ∧ ∀ j, j < n → 9 ≤ r j ∧ r j ≤ 11) := fun h => by rw [leasedB_iff.2 ⟨⟨by omega, h.1.2⟩, h.2⟩] at hb; cases hb
  have hn' := hn
  unfold maxLen at hn hm
  have HR := Lib.hid (fun o => hr.alloc hB o); clear hr
  have HCC := Lib.hid (fun o => contains_any r n cap B A (w.alloc o) hn' (HR.out o))
  by_cases hs : (1 ≤ (n : Int) ∧ (n : Int) ≤ 6) ∧ (m : Int) ≤ 60
  · obtain ⟨⟨h1, h6⟩, hm6⟩ := hs
    refine ⟨4, by decide, ?_⟩
    cases hq : rateBad r n
    · have ht : term < 1 ∨ 99 < term := by
        have h2 := rateBad_no.1 hq
        by_cases h : 1 ≤ term
        · exact .inr (Int.not_le.1 fun h3 => hb' ⟨⟨⟨h1, h6⟩, hm6⟩, ⟨h, h3⟩, h2⟩)
        · exact .inl (by omega)
      have HQ := Lib.hid hq
      clear hq hb hb'
      go_enter Try.func8, Try.ntmps8
      go_wp2_with fail
      refine (bool_is (HCC.out _) HQ.out).mono ?_
      rintro e w1 ⟨rfl, rfl⟩
      go_wp2
      all_goals first | ((try simp only [Exit.inBlock, Exit.then]); refine bodyPost_ret (v := .tuple #[.agg #[.slice none 0 0, .slice none 0 0, .slice none 0 0], .int .i64 4]) (by simp [results, Try.results8, go_sem]) rfl ?_; exact ⟨rfl, ((Below.refl _ _).alloc (Nat.le_refl _) _).trans ⟨rfl, rfl, rfl, Nat.le_refl _, fun _ _ => rfl⟩⟩) | (exfalso; omega) | skip
    · have HQ := Lib.hid hq
      clear hq hb hb'
      go_enter Try.func8, Try.ntmps8
      go_wp2_with fail
      refine (bool_is (HCC.out _) HQ.out).mono ?_
      rintro e w1 ⟨rfl, rfl⟩
      go_wp2
      ((try simp only [Exit.inBlock, Exit.then]); refine bodyPost_ret (v := .tuple #[.agg #[.slice none 0 0, .slice none 0 0, .slice none 0 0], .int .i64 4]) (by simp [results, Try.results8, go_sem]) rfl ?_; exact ⟨rfl, ((Below.refl _ _).alloc (Nat.le_refl _) _).trans ⟨rfl, rfl, rfl, Nat.le_refl _, fun _ _ => rfl⟩⟩)
  · have h' : n < 1 ∨ 6 < n ∨ 60 < m := by omega
    clear hb hb' hs
    refine ⟨1, by decide, ?_⟩
    go_enter Try.func8, Try.ntmps8
    go_wp2
    all_goals first | ((try simp only [Exit.inBlock, Exit.then]); refine bodyPost_ret (v := .tuple #[.agg #[.slice none 0 0, .slice none 0 0, .slice none 0 0], .int .i64 1]) (by simp [results, Try.results8, go_sem]) rfl ?_; exact ⟨rfl, ((Below.refl _ _).alloc (Nat.le_refl _) _).trans ⟨rfl, rfl, rfl, Nat.le_refl _, fun _ _ => rfl⟩⟩) | (exfalso; omega) | skip
end Go.Proofs.Ytcipdjdbafngkaa
