/- The walk of paxos.Play. -/
import Derived.Test.YtpicmphimcgklaaPax3
import Derived.Deep.CutRange
import Derived.Deep.CutBlock
import Derived.Test.YtpicmphimcgklaaStep
import Derived.Test.YtpicmphimcgklaaHeld
set_option linter.unusedVariables false
set_option linter.unusedSimpArgs false
namespace Go.Proofs.Ytpicmphimcgklaa
open Go.RowKit

theorem infoErrno : (Try.prog.info? 27).map (fun i => (i.zero, i.size, i.bytes)) = some (some (.int .i64 0), 1, 8) := by kernel_rfl
theorem infoInt : (Try.prog.info? 3).map (fun i => (i.zero, i.size, i.bytes)) = some (some (.int .i64 0), 1, 8) := by kernel_rfl

/-- One move, whatever it is. -/
theorem do_any (g n : Nat) (s : PS) (gP gT gV : Nat) (C : Value) (k f t v : Int) (w : World) (base : Nat) (hn1 : 1 ≤ n) (hn : n ≤ 6) (hI : PI n s) (h : PxSt w base g n s gP gT gV C) (hbs : base ≤ w.heap.size) :
    Calls Try.prog 10 #[.pointer (some ⟨g, 0, none⟩), .agg #[.int .i64 k, .int .i64 f, .int .i64 t, .int .i64 v]] w fun e w' => e = .returned (.int .i64 (pxStep n k f v s).1) ∧ PxSt w' base g n (pxStep n k f v s).2 gP gT gV C ∧ Kept (Xs g gP gT gV) w w' := by
  by_cases h1 : k < 1 ∨ 3 < k
  · have e : pxStep n k f v s = (6, s) := by unfold pxStep; rw [if_pos h1]
    rw [e]
    exact do_kind g n s gP gT gV C k f v t w base hn1 hn hI h hbs h1
  by_cases h2 : k ≠ 2 ∧ (f < 0 ∨ n ≤ f)
  · have e : pxStep n k f v s = (2, s) := by unfold pxStep; rw [if_neg h1, if_pos h2]
    rw [e]
    exact do_arg g n s gP gT gV C k f v t w base hn1 hn hI h hbs (by omega) h2.2
  by_cases h3 : v < 1 ∨ 9 < v
  · have e : pxStep n k f v s = (4, s) := by unfold pxStep; rw [if_neg h1, if_neg h2, if_pos h3]
    rw [e]
    exact do_range g n s gP gT gV C k f v t w base hn1 hn hI h hbs (by omega) h3
  obtain ⟨b, rfl⟩ : ∃ b : Nat, v = b := Int.eq_ofNat_of_zero_le (by omega)
  have hb1 : 1 ≤ b := by omega
  have hb9 : b ≤ 9 := by omega
  by_cases h4 : k = 2
  · subst h4
    have e : pxStep n 2 f b s = (if 0 < s.of b then (7, s) else if mostB n (s.pr b) then (0, offS s b) else (5, s)) := by unfold pxStep; rw [if_neg h1, if_neg h2, if_neg h3, if_neg (by decide), if_pos rfl]; rfl
    rw [e]
    by_cases h5 : 0 < s.of b
    · rw [if_pos h5]
      exact do_hold g n s gP gT gV C f b hb1 hb9 t w base hn1 hn hI h hbs h5
    · rw [if_neg h5]
      cases h6 : mostB n (s.pr b)
      · exact do_few g n s gP gT gV C f b hb1 hb9 t w base hn1 hn hI h hbs (by omega) h6
      · by_cases h7 : 0 < s.be b
        · exact do_off g n s gP gT gV C f b hb1 hb9 t w base hn1 hn hI h hbs (by omega) h6 h7
        · exact do_off2 g n s gP gT gV C f b hb1 hb9 t w base hn1 hn hI h hbs (by omega) h6 (by omega)
  obtain ⟨i, rfl⟩ : ∃ i : Nat, f = i := Int.eq_ofNat_of_zero_le (by omega)
  have hi : i < n := by omega
  by_cases h5 : k = 1
  · subst h5
    have e : pxStep n 1 i b s = (if b ≤ s.P i then (8, s) else (0, askS s i b)) := by unfold pxStep; rw [if_neg h1, if_neg h2, if_neg h3, if_pos rfl]; rfl
    rw [e]
    by_cases h6 : b ≤ s.P i
    · rw [if_pos h6]
      exact do_old g n s gP gT gV C i hi b hb1 hb9 t w base hn1 hn hI h hbs h6
    · rw [if_neg h6]
      by_cases h7 : s.be b < s.T i
      · exact do_ask g n s gP gT gV C i hi b hb1 hb9 t w base hn1 hn hI h hbs (by omega) h7
      · exact do_ask2 g n s gP gT gV C i hi b hb1 hb9 t w base hn1 hn hI h hbs (by omega) h7
  · obtain rfl : k = 3 := by omega
    have e : pxStep n 3 i b s = (if s.of b = 0 then (5, s) else if b < s.P i then (8, s) else (0, takS n s i b)) := by unfold pxStep; rw [if_neg h1, if_neg h2, if_neg h3, if_neg (by decide), if_neg (by decide)]; rfl
    rw [e]
    by_cases h6 : s.of b = 0
    · rw [if_pos h6]
      exact do_none g n s gP gT gV C i hi b hb1 hb9 t w base hn1 hn hI h hbs h6
    · rw [if_neg h6]
      by_cases h7 : b < s.P i
      · rw [if_pos h7]
        exact do_old3 g n s gP gT gV C i hi b hb1 hb9 t w base hn1 hn hI h hbs (by omega) h7
      · rw [if_neg h7]
        cases h8 : mostB n (s.tk b ||| 2 ^ i)
        · exact do_take2 g n s gP gT gV C i hi b hb1 hb9 t w base hn1 hn hI h hbs (by omega) (by omega) h8
        · exact do_take g n s gP gT gV C i hi b hb1 hb9 t w base hn1 hn hI h hbs (by omega) (by omega) h8

/-- The state of Play, between two moves: the codes so far, too. -/
structure PP (w wr : World) (n : Nat) (M : Mv) (j g gP gT gV : Nat) (A : Option Addr) (cap : Nat) : Prop where
  st : PxSt wr w.heap.size g n (pxE n M j) gP gT gV (.slice A j cap)
  cod : Own wr w.heap.size 27 1 A j cap (fun i => .int .i64 (pxC n M i))
  rv : wr.heap[w.heap.size]? = some (.cells #[.slice none 0 0, .int .i64 0, .slice none 0 0, .slice none 0 0, .slice none 0 0] 26 (0, 0))
  bel : Below w.heap.size w wr
  far : w.heap.size < g ∧ w.heap.size < gP ∧ w.heap.size < gT ∧ w.heap.size < gV

theorem PP.alloc {w wr : World} {n : Nat} {M : Mv} {j g gP gT gV : Nat} {A : Option Addr} {cap : Nat} (h : PP w wr n M j g gP gT gV A cap) (o : Obj) : PP w (wr.alloc o) n M j g gP gT gV A cap := by
  have hs : w.heap.size < wr.heap.size := Nat.lt_trans h.far.1 h.st.lt.2
  exact ⟨h.st.alloc o, h.cod.alloc o, (Below.heap_alloc _ _ _ hs).trans h.rv, h.bel.alloc (by omega) o, h.far⟩
theorem PP.sim {w wr wr' : World} {n : Nat} {M : Mv} {j g gP gT gV : Nat} {A : Option Addr} {cap : Nat} (h : PP w wr n M j g gP gT gV A cap) (e : Sim wr wr') : PP w wr' n M j g gP gT gV A cap :=
  ⟨h.st.sim e, h.cod.sim e, by rw [e.1]; exact h.rv, below_sim h.bel e, h.far⟩
theorem PP.apart {w wr : World} {n : Nat} {M : Mv} {j g gP gT gV : Nat} {A : Option Addr} {cap : Nat} (h : PP w wr n M j g gP gT gV A cap) : ∀ k, ablock A = some k → ¬ Xs g gP gT gV k := by
  intro k hk hx
  have key : ∀ {e' size' : Nat} {q n' c' : Nat} {F : Nat → Value}, Own wr w.heap.size e' size' (some ⟨q, 0, none⟩) n' c' F → 27 ≠ e' → k ≠ q := by
    intro e' size' q n' c' F ho he hq
    subst hq
    rcases h.cod.ne_ ho he with h1 | h1
    · rw [hk] at h1; cases h1
    · exact h1 hk
  rcases hx with hx | hx | hx | hx
  · exact key h.st.own (by decide) hx
  · exact key h.st.oP (by decide) hx
  · exact key h.st.oT (by decide) hx
  · exact key h.st.oV (by decide) hx
theorem kept_of_sim {X : Nat → Prop} {a b c : World} (e : Sim a b) (h : Kept X b c) : Kept X a c := by
  obtain ⟨h1, h2, h3, h4⟩ := e
  exact ⟨h.os.trans h2, h.tape.trans h3, h.output.trans h4, by rw [← h1]; exact h.size, fun k hk hx => by rw [← h1]; exact h.block k (by rw [h1]; exact hk) hx⟩
/-- What the loads of the statement read. -/
def PaxS (g q : Nat) (A : Option Addr) (j cap : Nat) (k f t v : Int) (w : World) : Prop :=
  w.cell? ⟨g, 51, none⟩ = some (.slice A j cap) ∧ w.cell? ⟨q, 0, none⟩ = some (.int .i64 k) ∧ w.cell? ⟨q, 1, none⟩ = some (.int .i64 f) ∧ w.cell? ⟨q, 2, none⟩ = some (.int .i64 t) ∧ w.cell? ⟨q, 3, none⟩ = some (.int .i64 v)
section
variable {g q j cap : Nat} {A : Option Addr} {k f t v : Int} {w w' : World}
theorem PaxS.far (h : PaxS g q A j cap k f t v w) (hg : w'.heap[g]? = w.heap[g]?) (hq : w'.heap[q]? = w.heap[q]?) : PaxS g q A j cap k f t v w' :=
  ⟨(World.cell?_of_block (w := w) hg).trans h.1, (World.cell?_of_block (w := w) hq).trans h.2.1, (World.cell?_of_block (w := w) hq).trans h.2.2.1, (World.cell?_of_block (w := w) hq).trans h.2.2.2.1, (World.cell?_of_block (w := w) hq).trans h.2.2.2.2⟩
theorem PaxS.alloc (h : PaxS g q A j cap k f t v w) (o : Obj) (hg : g < w.heap.size) (hq : q < w.heap.size) : PaxS g q A j cap k f t v (w.alloc o) := h.far (Below.heap_alloc _ _ _ hg) (Below.heap_alloc _ _ _ hq)
theorem PaxS.kept {gP gT gV : Nat} (h : PaxS g q A j cap k f t v w) (hk : Kept (Xs g gP gT gV) w w') (hq : q < w.heap.size) (hx : ¬ Xs g gP gT gV q) (h51 : w'.cell? ⟨g, 51, none⟩ = some (.slice A j cap)) : PaxS g q A j cap k f t v w' :=
  ⟨h51, (hk.cell (p := ⟨q, 0, none⟩) hq hx).trans h.2.1, (hk.cell (p := ⟨q, 1, none⟩) hq hx).trans h.2.2.1, (hk.cell (p := ⟨q, 2, none⟩) hq hx).trans h.2.2.2.1, (hk.cell (p := ⟨q, 3, none⟩) hq hx).trans h.2.2.2.2⟩
theorem PaxS.sim (h : PaxS g q A j cap k f t v w) (e : Sim w w') : PaxS g q A j cap k f t v w' := h.far (by rw [e.1]) (by rw [e.1])
end
theorem one_at {F : Nat → Prop} (h : F 0) : ∀ i, i < 1 → F i := by
  intro i hi
  obtain rfl : i = 0 := by omega
  exact h
theorem five_set {w : World} {b : Nat} {a0 a1 a2 a3 a4 : Value} {t : TypeId} {fr : Nat × Nat} (h : w.heap[b]? = some (.cells #[a0, a1, a2, a3, a4] t fr)) (u0 u1 u2 u3 u4 : Value) :
    (((((w.setCell ⟨b, 0, none⟩ u0).setCell ⟨b, 1, none⟩ u1).setCell ⟨b, 2, none⟩ u2).setCell ⟨b, 3, none⟩ u3).setCell ⟨b, 4, none⟩ u4).heap[b]? = some (.cells #[u0, u1, u2, u3, u4] t fr) := by
  simp [World.setCell, Array.getElem?_modify, h]
/-- What Play gives back. -/
structure PF (w w' : World) (n : Nat) (M : Mv) (m gP gT gV : Nat) (A : Option Addr) (cap : Nat) : Prop where
  oP : Own w' w.heap.size 3 1 (some ⟨gP, 0, none⟩) n n (fun i => .int .i64 ((pxE n M m).P i : Nat))
  oT : Own w' w.heap.size 3 1 (some ⟨gT, 0, none⟩) n n (fun i => .int .i64 ((pxE n M m).T i : Nat))
  oV : Own w' w.heap.size 3 1 (some ⟨gV, 0, none⟩) n n (fun i => .int .i64 ((pxE n M m).V i : Nat))
  cod : Own w' w.heap.size 27 1 A m cap (fun i => .int .i64 (pxC n M i))
  bel : Below w.heap.size w w'
theorem PP.next {w W w1 w2 : World} {n : Nat} {M : Mv} {j g gP gT gV : Nat} {A A2 : Option Addr} {cap cap2 : Nat} {o : Obj} (h : PP w W n M j g gP gT gV A cap) (hk : Kept (Xs g gP gT gV) W w1)
    (hs : PxSt w1 w.heap.size g n (pxE n M (j + 1)) gP gT gV (.slice A j cap)) (hg : (w1.alloc o).grownBy w2 (ablock A)) (ho : Own w2 w.heap.size 27 1 A2 (j + 1) cap2 (fun i => .int .i64 (pxC n M i)))
    (ha : ablock A2 = ablock A ∨ ablock A2 = some (w1.alloc o).heap.size) :
    PxSt w2 w.heap.size g n (pxE n M (j + 1)) gP gT gV (.slice A j cap) ∧ PP w (w2.setCell ⟨g, 51, none⟩ (.slice A2 (j + 1) cap2)) n M (j + 1) g gP gT gV A2 cap2 := by
  have hap : ∀ k, Xs g gP gT gV k → ablock A = none ∨ some k ≠ ablock A := fun k hx => .inr fun e => h.apart k e.symm hx
  have ne : ∀ q, Xs g gP gT gV q → ablock (some ⟨q, 0, none⟩) = none ∨ ablock (some (⟨q, 0, none⟩ : Addr)) ≠ ablock A := fun q hx => .inr fun e => h.apart q e.symm hx
  have h2 : PxSt w2 w.heap.size g n (pxE n M (j + 1)) gP gT gV (.slice A j cap) :=
    ⟨(hs.own.alloc o).grown hg (ne g (.inl rfl)), (hs.oP.alloc o).grown hg (ne gP (.inr (.inl rfl))), (hs.oT.alloc o).grown hg (ne gT (.inr (.inr (.inl rfl)))), (hs.oV.alloc o).grown hg (ne gV (.inr (.inr (.inr rfl)))), hs.ne⟩
  obtain ⟨f1, f2, f3, f4⟩ := h.far
  have hsz := h.bel.size
  have hsz1 := hk.size
  have hgl : g < W.heap.size := h.st.lt.2
  have hbase : ∀ k, ablock A = some k → w.heap.size ≤ k := fun k hk => (h.cod.lt k hk).1
  have hwx : ¬ Xs g gP gT gV w.heap.size := fun hx => by rcases hx with hx | hx | hx | hx <;> omega
  have hrv : w2.heap[w.heap.size]? = W.heap[w.heap.size]? := by
    by_cases hA : ablock A = some w.heap.size
    · exact absurd rfl (fun _ : w.heap.size = w.heap.size => by
        have h1 := h.rv
        rcases h.cod with ⟨hA', _⟩ | ⟨q, cur, hA', _, hq, _⟩
        · subst hA'; cases hA
        · subst hA'
          have : q = w.heap.size := by simpa [ablock] using hA
          subst this
          rw [h1] at hq
          injection hq with hq
          injection hq with _ ht
          exact absurd ht (by decide))
    · rw [hg.block w.heap.size (by simp; omega) (fun e => hA e.symm), Below.heap_alloc _ _ _ (by omega), hk.block w.heap.size (by omega) hwx]
  have hbel : Below w.heap.size w w2 := by
    have h1 : Below w.heap.size W w1 := hk.below hsz (fun k hk hx => by rcases hx with hx | hx | hx | hx <;> omega)
    exact ((h.bel.trans h1).alloc (by omega) o).grown hg (by simp; omega) hbase
  refine ⟨h2, h2.codes_ _, ho.far ?_ _, ?_, hbel.setCell (by show w.heap.size ≤ g; omega) _, h.far⟩
  · rcases ha with ha | ha
    · rw [ha]; exact fun e => h.apart g e (.inl rfl)
    · rw [ha]; simp; omega
  · rw [Below.heap_setCell _ _ _ _ (by show w.heap.size ≠ g; omega), hrv]; exact h.rv
theorem PP.back {w wr : World} {n : Nat} {M : Mv} {j g gP gT gV : Nat} {A : Option Addr} {cap : Nat} {u0 u1 u2 u3 u4 : Value} (h : PP w wr n M j g gP gT gV A cap) :
    PF w (((((wr.setCell ⟨w.heap.size, 0, none⟩ u0).setCell ⟨w.heap.size, 1, none⟩ u1).setCell ⟨w.heap.size, 2, none⟩ u2).setCell ⟨w.heap.size, 3, none⟩ u3).setCell ⟨w.heap.size, 4, none⟩ u4) n M j gP gT gV A cap := by
  obtain ⟨f1, f2, f3, f4⟩ := h.far
  have key : ∀ {e size : Nat} {X : Option Addr} {n' c' : Nat} {F : Nat → Value}, Own wr w.heap.size e size X n' c' F → ablock X ≠ some w.heap.size → Own (((((wr.setCell ⟨w.heap.size, 0, none⟩ u0).setCell ⟨w.heap.size, 1, none⟩ u1).setCell ⟨w.heap.size, 2, none⟩ u2).setCell ⟨w.heap.size, 3, none⟩ u3).setCell ⟨w.heap.size, 4, none⟩ u4) w.heap.size e size X n' c' F :=
    fun ho hx => ((((ho.far hx _).far hx _).far hx _).far hx _).far hx _
  refine ⟨key h.st.oP (by simp [ablock]; omega), key h.st.oT (by simp [ablock]; omega), key h.st.oV (by simp [ablock]; omega), key h.cod ?_, ((((h.bel.setCell (Nat.le_refl _) _).setCell (Nat.le_refl _) _).setCell (Nat.le_refl _) _).setCell (Nat.le_refl _) _).setCell (Nat.le_refl _) _⟩
  intro hA
  have h1 := h.rv
  rcases h.cod with ⟨hA', _⟩ | ⟨q, cur, hA', _, hq, _⟩
  · subst hA'; cases hA
  · subst hA'
    have : q = w.heap.size := by simpa [ablock] using hA
    subst this
    rw [h1] at hq
    injection hq with hq
    injection hq with _ ht
    exact absurd ht (by decide)
theorem run_mkInt (w : World) (n : Nat) (hn : n ≤ 6) : (Instr.makeSlice 24 (.int .i64 n) (.int .i64 n)).run Try.prog w = .ok (.slice (some ⟨w.heap.size, 0, none⟩) n n) (w.alloc (.cells (madeCells #[Value.int .i64 0] n) 3)) := by
  obtain ⟨i0, hi0, hz0, hz1, hz2⟩ := info_parts infoInt
  have := run_make (P := Try.prog) w 24 3 i0 (.int .i64 0) Try.underlying24 hi0 hz0 .i64 .i64 n n (by omega) (by omega) (by rw [hz2]; omega) (by omega)
  simpa [hz1, Value.cells] using this

theorem size_push (w : World) (o : Obj) : (w.alloc o).heap.size = w.heap.size + 1 := by show (w.heap.push o).size = _; exact Array.size_push ..
theorem heap_push (w : World) (o : Obj) (k : Nat) : (w.alloc o).heap[k]? = if k = w.heap.size then some o else w.heap[k]? := by
  show (w.heap.push o)[k]? = _
  rw [Array.getElem?_push]
/-- The cells of all, at the start. -/
def cells0 (n gP gT gV : Nat) : Array Value := #[.int .i64 n, .int .u32 0, .int .u32 0, .int .i64 0, .int .i64 0, .int .i64 0, .int .u32 0, .int .u32 0, .int .i64 0, .int .i64 0, .int .i64 0, .int .u32 0, .int .u32 0, .int .i64 0, .int .i64 0, .int .i64 0, .int .u32 0, .int .u32 0, .int .i64 0, .int .i64 0, .int .i64 0, .int .u32 0, .int .u32 0, .int .i64 0, .int .i64 0, .int .i64 0, .int .u32 0, .int .u32 0, .int .i64 0, .int .i64 0, .int .i64 0, .int .u32 0, .int .u32 0, .int .i64 0, .int .i64 0, .int .i64 0, .int .u32 0, .int .u32 0, .int .i64 0, .int .i64 0, .int .i64 0, .int .u32 0, .int .u32 0, .int .i64 0, .int .i64 0, .int .i64 0, .int .u32 0, .int .u32 0, .int .i64 0, .int .i64 0, .int .i64 0, .slice none 0 0, .int .i64 (-1), .slice (some ⟨gP, 0, none⟩) n n, .slice (some ⟨gT, 0, none⟩) n n, .slice (some ⟨gV, 0, none⟩) n n]
set_option maxHeartbeats 1000000 in
theorem cells0_at (n gP gT gV j : Nat) (hj : j < 56) : (cells0 n gP gT gV)[j]? = some (allF n PS0 (.slice none 0 0) (.slice (some ⟨gP, 0, none⟩) n n) (.slice (some ⟨gT, 0, none⟩) n n) (.slice (some ⟨gV, 0, none⟩) n n) j) := by
  rcases (by omega : j = 0 ∨ j = 1 ∨ j = 2 ∨ j = 3 ∨ j = 4 ∨ j = 5 ∨ j = 6 ∨ j = 7 ∨ j = 8 ∨ j = 9 ∨ j = 10 ∨ j = 11 ∨ j = 12 ∨ j = 13 ∨ j = 14 ∨ j = 15 ∨ j = 16 ∨ j = 17 ∨ j = 18 ∨ j = 19 ∨ j = 20 ∨ j = 21 ∨ j = 22 ∨ j = 23 ∨ j = 24 ∨ j = 25 ∨ j = 26 ∨ j = 27 ∨ j = 28 ∨ j = 29 ∨ j = 30 ∨ j = 31 ∨ j = 32 ∨ j = 33 ∨ j = 34 ∨ j = 35 ∨ j = 36 ∨ j = 37 ∨ j = 38 ∨ j = 39 ∨ j = 40 ∨ j = 41 ∨ j = 42 ∨ j = 43 ∨ j = 44 ∨ j = 45 ∨ j = 46 ∨ j = 47 ∨ j = 48 ∨ j = 49 ∨ j = 50 ∨ j = 51 ∨ j = 52 ∨ j = 53 ∨ j = 54 ∨ j = 55) with rfl | rfl | rfl | rfl | rfl | rfl | rfl | rfl | rfl | rfl | rfl | rfl | rfl | rfl | rfl | rfl | rfl | rfl | rfl | rfl | rfl | rfl | rfl | rfl | rfl | rfl | rfl | rfl | rfl | rfl | rfl | rfl | rfl | rfl | rfl | rfl | rfl | rfl | rfl | rfl | rfl | rfl | rfl | rfl | rfl | rfl | rfl | rfl | rfl | rfl | rfl | rfl | rfl | rfl | rfl | rfl
  all_goals kernel_rfl
theorem PP.start (w : World) (n : Nat) (hn : n ≤ 6) (M : Mv) (gP gT gV : Nat) (h1 : w.heap.size + 1 ≤ gP ∧ gP ≤ w.heap.size + 3) (h2 : w.heap.size + 1 ≤ gT ∧ gT ≤ w.heap.size + 3) (h3 : w.heap.size + 1 ≤ gV ∧ gV ≤ w.heap.size + 3) (hne : gP ≠ gT ∧ gP ≠ gV ∧ gT ≠ gV)
    (W : World) (hW : Sim (((((w.alloc (.cells #[.slice none 0 0, .int .i64 0, .slice none 0 0, .slice none 0 0, .slice none 0 0] 26)).alloc (.cells (madeCells #[Value.int .i64 0] n) 3)).alloc (.cells (madeCells #[Value.int .i64 0] n) 3)).alloc (.cells (madeCells #[Value.int .i64 0] n) 3)).alloc (.cells (cells0 n gP gT gV) 44)) W) :
    PP w W n M 0 (w.heap.size + 4) gP gT gV none 0 := by
  have hmc := made_cells (.int .i64 0) n rfl
  have row : ∀ g, w.heap.size + 1 ≤ g ∧ g ≤ w.heap.size + 3 → W.heap[g]? = some (.cells (madeCells #[Value.int .i64 0] n) 3 (0, 0)) := by
    intro g hg
    rw [hW.1]
    rcases (by omega : g = w.heap.size + 1 ∨ g = w.heap.size + 2 ∨ g = w.heap.size + 3) with rfl | rfl | rfl
    · simp only [heap_push, size_push]; first | rfl | (repeat (first | rw [if_pos rfl] | rw [if_pos trivial] | rw [if_neg (by omega)]))
    · simp only [heap_push, size_push]; first | rfl | (repeat (first | rw [if_pos rfl] | rw [if_pos trivial] | rw [if_neg (by omega)]))
    · simp only [heap_push, size_push]; first | rfl | (repeat (first | rw [if_pos rfl] | rw [if_pos trivial] | rw [if_neg (by omega)]))
  have own : ∀ g (f : Nat → Nat), (∀ j, f j = 0) → w.heap.size + 1 ≤ g ∧ g ≤ w.heap.size + 3 → Own W w.heap.size 3 1 (some ⟨g, 0, none⟩) n n (fun i => .int .i64 (f i : Nat)) := fun g f hf hg =>
    .inr ⟨g, _, rfl, by omega, row g hg, Nat.le_refl _, by unfold maxLen; omega, by rw [Nat.mul_one]; exact hmc.1, fun j hj => by rw [Nat.mul_one] at hj; show _ = some (Value.int .i64 (f j : Nat)); rw [hf]; exact hmc.2 j hj⟩
  have big : W.heap[w.heap.size + 4]? = some (.cells (cells0 n gP gT gV) 44 (0, 0)) := by
    rw [hW.1]; simp only [heap_push, size_push]; (repeat (first | rw [if_pos rfl] | rw [if_pos trivial] | rw [if_neg (by omega)]))
  refine ⟨⟨.inr ⟨_, _, rfl, by omega, big, by omega, by unfold maxLen; omega, rfl, fun j hj => cells0_at n gP gT gV j (by omega)⟩, own gP _ (fun _ => rfl) h1, own gT _ (fun _ => rfl) h2, own gV _ (fun _ => rfl) h3, hne⟩, Own.nil_ _ _ _ _ _, ?_, ?_, by omega⟩
  · rw [hW.1]; simp only [heap_push, size_push]; (repeat (first | rw [if_pos rfl] | rw [if_pos trivial] | rw [if_neg (by omega)]))
  · exact below_sim ((((((Below.refl _ _).alloc (Nat.le_refl _) _).alloc (by simp) _).alloc (by simp; omega) _).alloc (by simp; omega) _).alloc (by simp; omega) _) hW

set_option maxRecDepth 100000 in
set_option maxHeartbeats 1600000 in
theorem pax_good (n m cap B : Nat) (A : Option Addr) (M : Mv) (w : World) (hn1 : 1 ≤ n) (hn : n ≤ 6) (hm : m ≤ 60) (hB : B ≤ w.heap.size) (hr : Rd w B A (m * 4) (mvF M)) :
    Calls Try.prog 6 #[.int .i64 n, .slice A m cap] w (Gives fun v w' => ∃ gP gT gV A' cap', v = .tuple #[.agg #[.slice A' m cap', .int .i64 (pxE n M m).ch, .slice (some ⟨gP, 0, none⟩) n n, .slice (some ⟨gT, 0, none⟩) n n, .slice (some ⟨gV, 0, none⟩) n n], .int .i64 0] ∧
      PF w w' n M m gP gT gV A' cap') := by
  have HR := Lib.hid hr; clear hr
  have hmk := fun w => run_mkInt w n hn
  go_enter Try.func6, Try.ntmps6
  go_upto_region 3 with (fail)
  go_cut [6] from 7 to 33 (fun v wx => ∃ g gP gT gV, v = .pointer (some ⟨g, 0, none⟩) ∧ Hid (PP w wx n M 0 g gP gT gV none 0))
  case first =>
    go_region
    all_goals
      go_wp2
      go_meet
      exact ⟨_, _, _, _, rfl, PP.start w n hn M _ _ _ (by omega) (by omega) (by omega) (by omega) _ ⟨rfl, rfl, rfl, rfl⟩⟩
  case rest =>
    obtain ⟨g, gP, gT, gV, rfl, HP⟩ := hcut
    clear hmk
    obtain ⟨iE, hiE, hzE0, hzE1, hzE2⟩ := info_parts infoErrno
    go_wp2
    go_loopw [33] (fun i wr => ∃ j : Nat, j ≤ m ∧ i = .int .i64 j ∧ ∃ A' cap', Hid (PP w wr n M j g gP gT gV A' cap')) (fun i _ => m - (intOf i).toNat)
    case atStart => exact ⟨0, by omega, rfl, none, 0, HP⟩
    case round =>
      obtain ⟨j, hj, rfl, A', cap', HQ⟩ := hrel
      clear HP
      have HI := Lib.hid (PI.all (n := n) (by omega) M j)
      by_cases hlt : j < m
      · obtain ⟨ad, rfl, hbl, m0, m1, m2, m3⟩ := ((HR.out.more hB).below HQ.out.bel).rec4 hlt
        clear hbl
        go_wp2
        clear m0 m1 m2 m3
        refine at_world (F := fun W' => Code.wp _ _ _ _ W') (fun W => PP w W n M j g gP gT gV A' cap' ∧ (wr.heap.size < W.heap.size ∧ W.cell? ⟨wr.heap.size, 0, none⟩ = some (.int .i64 (M.k j)) ∧ W.cell? ⟨wr.heap.size, 1, none⟩ = some (.int .i64 (M.f j)) ∧ W.cell? ⟨wr.heap.size, 2, none⟩ = some (.int .i64 (M.t j)) ∧ W.cell? ⟨wr.heap.size, 3, none⟩ = some (.int .i64 (M.v j))))
          ⟨HQ.out.alloc _, by simp, World.cell?_alloc_at _ _ _ _ rfl, World.cell?_alloc_at _ _ _ _ rfl, World.cell?_alloc_at _ _ _ _ rfl, World.cell?_alloc_at _ _ _ _ rfl⟩ ?_
        intro W ⟨hW, hq, m0, m1, m2, m3⟩
        have HW := Lib.hid hW
        clear hW
        obtain ⟨_, c51, _⟩ := HW.out.st.heads
        have hgq : g < wr.heap.size := HQ.out.st.lt.2
        have HX : Hid (¬ Xs g gP gT gV wr.heap.size) := by
          show ¬ _
          intro hx
          have h1 := (HQ.out.st.own.lt g rfl).2
          have h2 := (HQ.out.st.oP.lt gP rfl).2
          have h3 := (HQ.out.st.oT.lt gT rfl).2
          have h4 := (HQ.out.st.oV.lt gV rfl).2
          rcases hx with hx | hx | hx | hx <;> omega
        refine wp_held_mask (PaxS g wr.heap.size A' j cap' (M.k j) (M.f j) (M.t j) (M.v j))
          [true, true, true, true, true, true, true, true, false, false, false, false, false, false, false] ?A1 (by kernel_rfl) rfl (by kernel_rfl) (by repeat' (first | (with_reducible apply tame_then) | (with_reducible apply tame_block) | (with_reducible apply tame_scope) | exact tame_gives | exact tame_body (fun _ _ h => ⟨_, h.1⟩))) ⟨c51, m0, m1, m2, m3⟩ ?head ?tail
        case head =>
          intro W5 ⟨s51, s0, s1, s2, s3⟩
          simp only [pick]
          go_wp2
          exact taken
        case tail =>
          simp only [pick, List.map_cons, List.map_nil, Bool.not_true, Bool.not_false]
          refine tail_step ?_
          go_wp2_with fail
          refine (do_any g n (pxE n M j) gP gT gV (.slice A' j cap') _ _ _ _ _ w.heap.size hn1 hn HI.out (by exact HW.out.st.sim ⟨rfl, rfl, rfl, rfl⟩) (by exact HW.out.bel.size)).mono ?_
          rintro e w1 ⟨rfl, hs1, hk1⟩
          have HK1 := Lib.hid (kept_of_sim (a := W) (b := W.drew) ⟨rfl, rfl, rfl, rfl⟩ hk1)
          have HS1 := Lib.hid hs1
          clear hs1 hk1
          have HO1 := Lib.hid (HW.out.cod.kept HK1.out HW.out.apart)
          have HPS := Lib.hid (PaxS.kept ⟨c51, m0, m1, m2, m3⟩ HK1.out hq HX.out HS1.out.heads.2.1)
          have hz1 := HK1.out.size
          have hz2 := HW.out.bel.size
          go_wp2
          refine holds HPS.out ?_
          refine tail_step ?_
          go_wp2
          refine holds (HPS.out.alloc _ (by omega) (by omega)) ?_
          refine tail_step ?_
          go_wp2_with (at_builtin; refine wpList_ap1 rfl (.tmp 42) (.tmp 46) _ rfl 27 iE _ 8 Try.underlying23 hiE hzE0 hzE1 hzE2 rfl w.heap.size rfl (HO1.out.alloc _) rfl (cell_new _ _ _ _ _ rfl (one_cell _)) (fun _ _ => rfl) (fun i => .int .i64 (pxC n M i)) (fun _ _ => rfl) (one_at rfl) (j + 1) rfl (by unfold maxLen; omega) (by omega) (by simp; omega) ?_; intro A2 cap2 w2 ho2 hg2 ha2)
          have HO2 := Lib.hid ho2
          have HG2 := Lib.hid hg2
          have HA2 := Lib.hid ha2
          clear ho2 hg2 ha2
          obtain ⟨hs2, hp2⟩ := HW.out.next HK1.out HS1.out HG2.out HO2.out HA2.out
          have HP2 := Lib.hid hp2
          have hsx : PaxS g wr.heap.size A' j cap' (M.k j) (M.f j) (M.t j) (M.v j) w2 :=
            (HPS.out.alloc _ (by omega) (by omega)).far (HG2.out.block g (by simp; omega) (fun e => HW.out.apart g e.symm (.inl rfl))) (HG2.out.block wr.heap.size (by simp; omega) (fun e => by have := (HQ.out.cod.lt _ e.symm).2; omega))
          have HSX := Lib.hid hsx
          have d51 := hs2.heads.2.1
          have e51 := (hs2.frz (by omega) 51).1
          clear hp2 hs2 hsx
          refine holds HSX.out ?_
          refine tail_step ?_
          go_wp2
          refine holds HSX.out ?_
          refine tail_step ?_
          go_wp2
          refine holds HSX.out ?_
          refine tail_step ?_
          go_wp2
          refine holds HSX.out ?_
          refine tail_last ?_
          go_wp2
          go_roundw
          case rel => exact ⟨j + 1, by omega, by go_num, A2, cap2, HP2.out⟩
          case measure => simp [intOf]; omega
      · obtain rfl : j = m := by omega
        obtain ⟨c0, c51, c52, c53, c54, c55⟩ := HQ.out.st.heads
        have v0 : wr.cell? ⟨w.heap.size, 0, none⟩ = some (.slice none 0 0) := by rw [cell_of_row _ _ _ _ _ _ HQ.out.rv]; rfl
        have v1 : wr.cell? ⟨w.heap.size, 1, none⟩ = some (.int .i64 0) := by rw [cell_of_row _ _ _ _ _ _ HQ.out.rv]; rfl
        have v2 : wr.cell? ⟨w.heap.size, 2, none⟩ = some (.slice none 0 0) := by rw [cell_of_row _ _ _ _ _ _ HQ.out.rv]; rfl
        have v3 : wr.cell? ⟨w.heap.size, 3, none⟩ = some (.slice none 0 0) := by rw [cell_of_row _ _ _ _ _ _ HQ.out.rv]; rfl
        have v4 : wr.cell? ⟨w.heap.size, 4, none⟩ = some (.slice none 0 0) := by rw [cell_of_row _ _ _ _ _ _ HQ.out.rv]; rfl
        have hfr : ∀ o, wr.frozen? ⟨w.heap.size, o, none⟩ = false := fun o => by have := HQ.out.rv; simp [World.frozen?, this]
        have f0 := hfr 0
        have f1 := hfr 1
        have f2 := hfr 2
        have f3 := hfr 3
        have f4 := hfr 4
        clear hfr
        go_wp2
        have hfin := five_set HQ.out.rv (.slice A' j cap') (.int .i64 (pxE n M j).ch) (.slice (some ⟨gP, 0, none⟩) n n) (.slice (some ⟨gT, 0, none⟩) n n) (.slice (some ⟨gV, 0, none⟩) n n)
        have hback : PF w _ n M j gP gT gV A' cap' := HQ.out.back (u0 := .slice A' j cap') (u1 := .int .i64 (pxE n M j).ch) (u2 := .slice (some ⟨gP, 0, none⟩) n n) (u3 := .slice (some ⟨gT, 0, none⟩) n n) (u4 := .slice (some ⟨gV, 0, none⟩) n n)
        clear c0 c51 c52 c53 c54 c55 v0 v1 v2 v3 v4 f0 f1 f2 f3 f4
        generalize ((((wr.setCell ⟨w.heap.size, 0, none⟩ (.slice A' j cap')).setCell ⟨w.heap.size, 1, none⟩ (.int .i64 (pxE n M j).ch)).setCell ⟨w.heap.size, 2, none⟩ (.slice (some ⟨gP, 0, none⟩) n n)).setCell ⟨w.heap.size, 3, none⟩ (.slice (some ⟨gT, 0, none⟩) n n)).setCell ⟨w.heap.size, 4, none⟩ (.slice (some ⟨gV, 0, none⟩) n n) = W9 at hfin hback ⊢
        have r0 : W9.cell? ⟨w.heap.size, 0, none⟩ = some (.slice A' j cap') := by rw [cell_of_row _ _ _ _ _ _ hfin]; rfl
        have r1 : W9.cell? ⟨w.heap.size, 1, none⟩ = some (.int .i64 (pxE n M j).ch) := by rw [cell_of_row _ _ _ _ _ _ hfin]; rfl
        have r2 : W9.cell? ⟨w.heap.size, 2, none⟩ = some (.slice (some ⟨gP, 0, none⟩) n n) := by rw [cell_of_row _ _ _ _ _ _ hfin]; rfl
        have r3 : W9.cell? ⟨w.heap.size, 3, none⟩ = some (.slice (some ⟨gT, 0, none⟩) n n) := by rw [cell_of_row _ _ _ _ _ _ hfin]; rfl
        have r4 : W9.cell? ⟨w.heap.size, 4, none⟩ = some (.slice (some ⟨gV, 0, none⟩) n n) := by rw [cell_of_row _ _ _ _ _ _ hfin]; rfl
        exact bodyPost_ret (v := .tuple #[.agg #[.slice A' j cap', .int .i64 (pxE n M j).ch, .slice (some ⟨gP, 0, none⟩) n n, .slice (some ⟨gT, 0, none⟩) n n, .slice (some ⟨gV, 0, none⟩) n n], .int .i64 0]) (by simp [results, Try.results6, go_sem, r0, r1, r2, r3, r4]) rfl ⟨_, rfl, gP, gT, gV, A', cap', rfl, hback⟩
end Go.Proofs.Ytpicmphimcgklaa
