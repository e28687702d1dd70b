/- Paxos' state in memory. -/
import Derived.Test.YtpicmphimcgklaaPaxMath
import Derived.Test.YtpicmphimcgklaaOnes
import Derived.Test.YtpicmphimcgklaaKept
set_option linter.unusedVariables false
set_option linter.unusedSimpArgs false
namespace Go.Proofs.Ytpicmphimcgklaa
open Go.RowKit

/-- The cells of all. -/
def allF (n : Nat) (s : PS) (C P T V : Value) (j : Nat) : Value :=
  if j = 0 then .int .i64 n else if j < 51 then
    (if (j - 1) % 5 = 0 then .int .u32 (s.pr ((j - 1) / 5) : Nat) else if (j - 1) % 5 = 1 then .int .u32 (s.tk ((j - 1) / 5) : Nat) else if (j - 1) % 5 = 2 then .int .i64 (s.be ((j - 1) / 5) : Nat) else if (j - 1) % 5 = 3 then .int .i64 (s.va ((j - 1) / 5) : Nat) else .int .i64 (s.of ((j - 1) / 5) : Nat))
  else if j = 51 then C else if j = 52 then .int .i64 s.ch else if j = 53 then P else if j = 54 then T else V

theorem allF_b (n : Nat) (s : PS) (C P T V : Value) {b : Nat} (hb : b < 10) :
    allF n s C P T V (1 + b * 5) = .int .u32 (s.pr b : Nat) ∧ allF n s C P T V (1 + b * 5 + 1) = .int .u32 (s.tk b : Nat) ∧ allF n s C P T V (1 + b * 5 + 2) = .int .i64 (s.be b : Nat) ∧ allF n s C P T V (1 + b * 5 + 3) = .int .i64 (s.va b : Nat) ∧ allF n s C P T V (1 + b * 5 + 4) = .int .i64 (s.of b : Nat) := by
  have h : ∀ k, k < 5 → (1 + b * 5 + k - 1) % 5 = k ∧ (1 + b * 5 + k - 1) / 5 = b ∧ 1 + b * 5 + k ≠ 0 ∧ 1 + b * 5 + k < 51 := by intro k hk; omega
  have h0 := h 0 (by omega)
  have h1 := h 1 (by omega)
  have h2 := h 2 (by omega)
  have h3 := h 3 (by omega)
  have h4 := h 4 (by omega)
  rw [Nat.add_zero] at h0
  refine ⟨?_, ?_, ?_, ?_, ?_⟩
  · unfold allF; rw [if_neg h0.2.2.1, if_pos h0.2.2.2, h0.1, h0.2.1]; rfl
  · unfold allF; rw [if_neg h1.2.2.1, if_pos h1.2.2.2, h1.1, h1.2.1]; rfl
  · unfold allF; rw [if_neg h2.2.2.1, if_pos h2.2.2.2, h2.1, h2.2.1]; rfl
  · unfold allF; rw [if_neg h3.2.2.1, if_pos h3.2.2.2, h3.1, h3.2.1]; rfl
  · unfold allF; rw [if_neg h4.2.2.1, if_pos h4.2.2.2, h4.1, h4.2.1]; rfl

/-- The state in memory: block g, and three rows of numbers. -/
structure PxSt (w : World) (base g n : Nat) (s : PS) (gP gT gV : Nat) (C : Value) : Prop where
  own : Own w base 44 56 (some ⟨g, 0, none⟩) 1 1 (allF n s C (.slice (some ⟨gP, 0, none⟩) n n) (.slice (some ⟨gT, 0, none⟩) n n) (.slice (some ⟨gV, 0, none⟩) n n))
  oP : Own w base 3 1 (some ⟨gP, 0, none⟩) n n (fun i => .int .i64 (s.P i : Nat))
  oT : Own w base 3 1 (some ⟨gT, 0, none⟩) n n (fun i => .int .i64 (s.T i : Nat))
  oV : Own w base 3 1 (some ⟨gV, 0, none⟩) n n (fun i => .int .i64 (s.V i : Nat))
  ne : gP ≠ gT ∧ gP ≠ gV ∧ gT ≠ gV

section
variable {w w' : World} {base g n : Nat} {s : PS} {gP gT gV : Nat} {C : Value}
theorem PxSt.alloc (h : PxSt w base g n s gP gT gV C) (o : Obj) : PxSt (w.alloc o) base g n s gP gT gV C := ⟨h.own.alloc o, h.oP.alloc o, h.oT.alloc o, h.oV.alloc o, h.ne⟩
theorem PxSt.drew (h : PxSt w base g n s gP gT gV C) : PxSt w.drew base g n s gP gT gV C := ⟨h.own, h.oP, h.oT, h.oV, h.ne⟩
theorem PxSt.drewN (h : PxSt w base g n s gP gT gV C) (k : Nat) : PxSt (w.drewN k) base g n s gP gT gV C := ⟨h.own, h.oP, h.oT, h.oV, h.ne⟩
theorem PxSt.frz (h : PxSt w base g n s gP gT gV C) (hn : 0 < n) (o : Nat) : w.frozen? ⟨g, o, none⟩ = false ∧ w.frozen? ⟨gP, o, none⟩ = false ∧ w.frozen? ⟨gT, o, none⟩ = false ∧ w.frozen? ⟨gV, o, none⟩ = false :=
  ⟨own_frz h.own (by omega) o, own_frz h.oP hn o, own_frz h.oT hn o, own_frz h.oV hn o⟩
theorem PxSt.heads (h : PxSt w base g n s gP gT gV C) : w.cell? ⟨g, 0, none⟩ = some (.int .i64 n) ∧ w.cell? ⟨g, 51, none⟩ = some C ∧ w.cell? ⟨g, 52, none⟩ = some (.int .i64 s.ch) ∧ w.cell? ⟨g, 53, none⟩ = some (.slice (some ⟨gP, 0, none⟩) n n) ∧
    w.cell? ⟨g, 54, none⟩ = some (.slice (some ⟨gT, 0, none⟩) n n) ∧ w.cell? ⟨g, 55, none⟩ = some (.slice (some ⟨gV, 0, none⟩) n n) := by
  have := fun j hj => own_cell h.own (j := j) hj (by omega)
  exact ⟨this 0 (by omega), this 51 (by omega), this 52 (by omega), this 53 (by omega), this 54 (by omega), this 55 (by omega)⟩
theorem PxSt.lt (h : PxSt w base g n s gP gT gV C) : base ≤ g ∧ g < w.heap.size := h.own.lt g rfl
theorem PxSt.bal (h : PxSt w base g n s gP gT gV C) {b : Nat} (hb : b < 10) : w.cell? ⟨g, 1 + b * 5, none⟩ = some (.int .u32 (s.pr b : Nat)) ∧ w.cell? ⟨g, 1 + b * 5 + 1, none⟩ = some (.int .u32 (s.tk b : Nat)) ∧ w.cell? ⟨g, 1 + b * 5 + 2, none⟩ = some (.int .i64 (s.be b : Nat)) ∧
    w.cell? ⟨g, 1 + b * 5 + 3, none⟩ = some (.int .i64 (s.va b : Nat)) ∧ w.cell? ⟨g, 1 + b * 5 + 4, none⟩ = some (.int .i64 (s.of b : Nat)) := by
  obtain ⟨h0, h1, h2, h3, h4⟩ := allF_b n s C (.slice (some ⟨gP, 0, none⟩) n n) (.slice (some ⟨gT, 0, none⟩) n n) (.slice (some ⟨gV, 0, none⟩) n n) hb
  have := fun j hj => own_cell h.own (j := j) hj (by omega)
  rw [← h0, ← h1, ← h2, ← h3, ← h4]
  exact ⟨this _ (by omega), this _ (by omega), this _ (by omega), this _ (by omega), this _ (by omega)⟩
theorem PxSt.rows (h : PxSt w base g n s gP gT gV C) {i : Nat} (hi : i < n) : w.cell? ⟨gP, i, none⟩ = some (.int .i64 (s.P i : Nat)) ∧ w.cell? ⟨gT, i, none⟩ = some (.int .i64 (s.T i : Nat)) ∧ w.cell? ⟨gV, i, none⟩ = some (.int .i64 (s.V i : Nat)) :=
  ⟨own_cell h.oP (by omega) (by omega), own_cell h.oT (by omega) (by omega), own_cell h.oV (by omega) (by omega)⟩
theorem PxSt.sim (h : PxSt w base g n s gP gT gV C) (e : Sim w w') : PxSt w' base g n s gP gT gV C := ⟨h.own.sim e, h.oP.sim e, h.oT.sim e, h.oV.sim e, h.ne⟩
theorem PxSt.congr {s' : PS} (h : PxSt w base g n s gP gT gV C) (e : s = s') : PxSt w base g n s' gP gT gV C := e ▸ h
theorem PxSt.neg (h : PxSt w base g n s gP gT gV C) : g ≠ gP ∧ g ≠ gT ∧ g ≠ gV := by
  have key : ∀ {q : Nat} {F : Nat → Value}, Own w base 3 1 (some ⟨q, 0, none⟩) n n F → g ≠ q := by
    intro q F ho e
    subst e
    rcases h.own.ne_ ho (by decide) with h1 | h1
    · cases h1
    · exact h1 rfl
  exact ⟨key h.oP, key h.oT, key h.oV⟩
/-- A cell of block g is set. -/
theorem PxSt.setG (h : PxSt w base g n s gP gT gV C) {j : Nat} (hj : j < 56) (s' : PS) (C' : Value) (u : Value) (hP : s'.P = s.P) (hT : s'.T = s.T) (hV : s'.V = s.V)
    (hu : allF n s' C' (.slice (some ⟨gP, 0, none⟩) n n) (.slice (some ⟨gT, 0, none⟩) n n) (.slice (some ⟨gV, 0, none⟩) n n) j = u)
    (hf : ∀ i, i ≠ j → allF n s' C' (.slice (some ⟨gP, 0, none⟩) n n) (.slice (some ⟨gT, 0, none⟩) n n) (.slice (some ⟨gV, 0, none⟩) n n) i = allF n s C (.slice (some ⟨gP, 0, none⟩) n n) (.slice (some ⟨gT, 0, none⟩) n n) (.slice (some ⟨gV, 0, none⟩) n n) i) :
    PxSt (w.setCell ⟨g, j, none⟩ u) base g n s' gP gT gV C' := by
  obtain ⟨n1, n2, n3⟩ := h.neg
  refine ⟨h.own.set_ u (by omega) hu (fun i _ hi => hf i hi), ?_, ?_, ?_, h.ne⟩
  · rw [hP]; exact h.oP.far (by simp [ablock]; omega) u
  · rw [hT]; exact h.oT.far (by simp [ablock]; omega) u
  · rw [hV]; exact h.oV.far (by simp [ablock]; omega) u
theorem allF_pr (n : Nat) (s : PS) (C P T V : Value) {b : Nat} (hb : b < 10) (x j : Nat) : allF n { s with pr := upd s.pr b x } C P T V j = if j = 1 + b * 5 + 0 then .int .u32 (x : Nat) else allF n s C P T V j := by
  unfold allF
  simp only [upd]
  repeat' split
  all_goals first | rfl | (exfalso; omega)
theorem PxSt.pr_ (h : PxSt w base g n s gP gT gV C) {b : Nat} (hb : b < 10) (x : Nat) : PxSt (w.setCell ⟨g, 1 + b * 5 + 0, none⟩ (.int .u32 (x : Nat))) base g n { s with pr := upd s.pr b x } gP gT gV C :=
  h.setG (by omega) _ C _ rfl rfl rfl (by rw [allF_pr _ _ _ _ _ _ hb, if_pos rfl]) (fun i hi => by rw [allF_pr _ _ _ _ _ _ hb, if_neg hi])
theorem allF_tk (n : Nat) (s : PS) (C P T V : Value) {b : Nat} (hb : b < 10) (x j : Nat) : allF n { s with tk := upd s.tk b x } C P T V j = if j = 1 + b * 5 + 1 then .int .u32 (x : Nat) else allF n s C P T V j := by
  unfold allF
  simp only [upd]
  repeat' split
  all_goals first | rfl | (exfalso; omega)
theorem PxSt.tk_ (h : PxSt w base g n s gP gT gV C) {b : Nat} (hb : b < 10) (x : Nat) : PxSt (w.setCell ⟨g, 1 + b * 5 + 1, none⟩ (.int .u32 (x : Nat))) base g n { s with tk := upd s.tk b x } gP gT gV C :=
  h.setG (by omega) _ C _ rfl rfl rfl (by rw [allF_tk _ _ _ _ _ _ hb, if_pos rfl]) (fun i hi => by rw [allF_tk _ _ _ _ _ _ hb, if_neg hi])
theorem allF_be (n : Nat) (s : PS) (C P T V : Value) {b : Nat} (hb : b < 10) (x j : Nat) : allF n { s with be := upd s.be b x } C P T V j = if j = 1 + b * 5 + 2 then .int .i64 (x : Nat) else allF n s C P T V j := by
  unfold allF
  simp only [upd]
  repeat' split
  all_goals first | rfl | (exfalso; omega)
theorem PxSt.be_ (h : PxSt w base g n s gP gT gV C) {b : Nat} (hb : b < 10) (x : Nat) : PxSt (w.setCell ⟨g, 1 + b * 5 + 2, none⟩ (.int .i64 (x : Nat))) base g n { s with be := upd s.be b x } gP gT gV C :=
  h.setG (by omega) _ C _ rfl rfl rfl (by rw [allF_be _ _ _ _ _ _ hb, if_pos rfl]) (fun i hi => by rw [allF_be _ _ _ _ _ _ hb, if_neg hi])
theorem allF_va (n : Nat) (s : PS) (C P T V : Value) {b : Nat} (hb : b < 10) (x j : Nat) : allF n { s with va := upd s.va b x } C P T V j = if j = 1 + b * 5 + 3 then .int .i64 (x : Nat) else allF n s C P T V j := by
  unfold allF
  simp only [upd]
  repeat' split
  all_goals first | rfl | (exfalso; omega)
theorem PxSt.va_ (h : PxSt w base g n s gP gT gV C) {b : Nat} (hb : b < 10) (x : Nat) : PxSt (w.setCell ⟨g, 1 + b * 5 + 3, none⟩ (.int .i64 (x : Nat))) base g n { s with va := upd s.va b x } gP gT gV C :=
  h.setG (by omega) _ C _ rfl rfl rfl (by rw [allF_va _ _ _ _ _ _ hb, if_pos rfl]) (fun i hi => by rw [allF_va _ _ _ _ _ _ hb, if_neg hi])
theorem allF_of (n : Nat) (s : PS) (C P T V : Value) {b : Nat} (hb : b < 10) (x j : Nat) : allF n { s with of := upd s.of b x } C P T V j = if j = 1 + b * 5 + 4 then .int .i64 (x : Nat) else allF n s C P T V j := by
  unfold allF
  simp only [upd]
  repeat' split
  all_goals first | rfl | (exfalso; omega)
theorem PxSt.of_ (h : PxSt w base g n s gP gT gV C) {b : Nat} (hb : b < 10) (x : Nat) : PxSt (w.setCell ⟨g, 1 + b * 5 + 4, none⟩ (.int .i64 (x : Nat))) base g n { s with of := upd s.of b x } gP gT gV C :=
  h.setG (by omega) _ C _ rfl rfl rfl (by rw [allF_of _ _ _ _ _ _ hb, if_pos rfl]) (fun i hi => by rw [allF_of _ _ _ _ _ _ hb, if_neg hi])
theorem PxSt.ch_ (h : PxSt w base g n s gP gT gV C) (x : Int) : PxSt (w.setCell ⟨g, 52, none⟩ (.int .i64 x)) base g n { s with ch := x } gP gT gV C :=
  h.setG (by omega) _ C _ rfl rfl rfl rfl (fun i hi => by unfold allF; simp [hi])
theorem PxSt.codes_ (h : PxSt w base g n s gP gT gV C) (C' : Value) : PxSt (w.setCell ⟨g, 51, none⟩ C') base g n s gP gT gV C' :=
  h.setG (by omega) _ C' _ rfl rfl rfl rfl (fun i hi => by unfold allF; simp [hi])
theorem PxSt.P_ (h : PxSt w base g n s gP gT gV C) {i : Nat} (hi : i < n) (x : Nat) : PxSt (w.setCell ⟨gP, i, none⟩ (.int .i64 (x : Nat))) base g n { s with P := upd s.P i x } gP gT gV C := by
  obtain ⟨n1, n2, n3⟩ := h.neg
  obtain ⟨m1, m2, m3⟩ := h.ne
  have ho : Own (w.setCell ⟨gP, i, none⟩ (.int .i64 (x : Nat))) base 3 1 (some ⟨gP, 0, none⟩) n n (fun j => .int .i64 (upd s.P i x j : Nat)) := h.oP.set1 _ hi (by rw [upd_same]) (fun j _ hj => by rw [upd_ne _ _ hj])
  have hg := h.own.far (p := ⟨gP, i, none⟩) (by simp [ablock]; omega) (.int .i64 (x : Nat))
  have ha := h.oT.far (p := ⟨gP, i, none⟩) (by simp [ablock]; omega) (.int .i64 (x : Nat))
  have hb := h.oV.far (p := ⟨gP, i, none⟩) (by simp [ablock]; omega) (.int .i64 (x : Nat))
  exact { own := hg, oP := ho, oT := ha, oV := hb, ne := h.ne }
theorem PxSt.T_ (h : PxSt w base g n s gP gT gV C) {i : Nat} (hi : i < n) (x : Nat) : PxSt (w.setCell ⟨gT, i, none⟩ (.int .i64 (x : Nat))) base g n { s with T := upd s.T i x } gP gT gV C := by
  obtain ⟨n1, n2, n3⟩ := h.neg
  obtain ⟨m1, m2, m3⟩ := h.ne
  have ho : Own (w.setCell ⟨gT, i, none⟩ (.int .i64 (x : Nat))) base 3 1 (some ⟨gT, 0, none⟩) n n (fun j => .int .i64 (upd s.T i x j : Nat)) := h.oT.set1 _ hi (by rw [upd_same]) (fun j _ hj => by rw [upd_ne _ _ hj])
  have hg := h.own.far (p := ⟨gT, i, none⟩) (by simp [ablock]; omega) (.int .i64 (x : Nat))
  have ha := h.oP.far (p := ⟨gT, i, none⟩) (by simp [ablock]; omega) (.int .i64 (x : Nat))
  have hb := h.oV.far (p := ⟨gT, i, none⟩) (by simp [ablock]; omega) (.int .i64 (x : Nat))
  exact { own := hg, oT := ho, oP := ha, oV := hb, ne := h.ne }
theorem PxSt.V_ (h : PxSt w base g n s gP gT gV C) {i : Nat} (hi : i < n) (x : Nat) : PxSt (w.setCell ⟨gV, i, none⟩ (.int .i64 (x : Nat))) base g n { s with V := upd s.V i x } gP gT gV C := by
  obtain ⟨n1, n2, n3⟩ := h.neg
  obtain ⟨m1, m2, m3⟩ := h.ne
  have ho : Own (w.setCell ⟨gV, i, none⟩ (.int .i64 (x : Nat))) base 3 1 (some ⟨gV, 0, none⟩) n n (fun j => .int .i64 (upd s.V i x j : Nat)) := h.oV.set1 _ hi (by rw [upd_same]) (fun j _ hj => by rw [upd_ne _ _ hj])
  have hg := h.own.far (p := ⟨gV, i, none⟩) (by simp [ablock]; omega) (.int .i64 (x : Nat))
  have ha := h.oP.far (p := ⟨gV, i, none⟩) (by simp [ablock]; omega) (.int .i64 (x : Nat))
  have hb := h.oT.far (p := ⟨gV, i, none⟩) (by simp [ablock]; omega) (.int .i64 (x : Nat))
  exact { own := hg, oV := ho, oP := ha, oT := hb, ne := h.ne }
/-- The blocks of the state. -/
def Xs (g gP gT gV : Nat) : Nat → Prop := fun k => k = g ∨ k = gP ∨ k = gT ∨ k = gV
/-- Within a move: the state, the move's own cells. -/
structure DoW (w W : World) (base g n : Nat) (s : PS) (gP gT gV : Nat) (C : Value) (k f t v : Int) : Prop where
  st : PxSt W base g n s gP gT gV C
  lt : g < w.heap.size ∧ gP < w.heap.size ∧ gT < w.heap.size ∧ gV < w.heap.size
  b0 : base ≤ g ∧ base ≤ gP ∧ base ≤ gT ∧ base ≤ gV
  m0 : W.cell? ⟨w.heap.size, 0, none⟩ = some (.int .i64 k)
  m3 : W.cell? ⟨w.heap.size, 3, none⟩ = some (.int .i64 v)
  bel : Kept (Xs g gP gT gV) w W
section
variable {W W' : World} {k f t v : Int}
theorem DoW.made (h : PxSt w base g n s gP gT gV C) (hb : base ≤ w.heap.size) (k f t v : Int) : DoW w (w.alloc (.cells #[.int .i64 k, .int .i64 f, .int .i64 t, .int .i64 v] 34)) base g n s gP gT gV C k f t v :=
  ⟨h.alloc _, ⟨(h.own.lt g rfl).2, (h.oP.lt gP rfl).2, (h.oT.lt gT rfl).2, (h.oV.lt gV rfl).2⟩, ⟨(h.own.lt g rfl).1, (h.oP.lt gP rfl).1, (h.oT.lt gT rfl).1, (h.oV.lt gV rfl).1⟩, World.cell?_alloc_at _ _ _ _ rfl, World.cell?_alloc_at _ _ _ _ rfl, (Kept.refl _ w).alloc _⟩
theorem DoW.sim (h : DoW w W base g n s gP gT gV C k f t v) (e : Sim W W') : DoW w W' base g n s gP gT gV C k f t v :=
  ⟨h.st.sim e, h.lt, h.b0, (cell_sim e _).trans h.m0, (cell_sim e _).trans h.m3, h.bel.sim e⟩
theorem DoW.step (h : DoW w W base g n s gP gT gV C k f t v) {q j : Nat} {u : Value} {s' : PS} (hq : q = g ∨ q = gP ∨ q = gT ∨ q = gV) (h' : PxSt (W.setCell ⟨q, j, none⟩ u) base g n s' gP gT gV C) : DoW w (W.setCell ⟨q, j, none⟩ u) base g n s' gP gT gV C k f t v := by
  obtain ⟨l1, l2, l3, l4⟩ := h.lt
  obtain ⟨b1, b2, b3, b4⟩ := h.b0
  have hne : w.heap.size ≠ q := by omega
  refine ⟨h', h.lt, h.b0, ?_, ?_, h.bel.setCell (.inl (by show q = g ∨ q = gP ∨ q = gT ∨ q = gV; exact hq)) u⟩
  · rw [World.cell?_setCell_other _ _ _ _ (by intro e; injection e with e; exact hne e.symm)]; exact h.m0
  · rw [World.cell?_setCell_other _ _ _ _ (by intro e; injection e with e; exact hne e.symm)]; exact h.m3
end
end
end Go.Proofs.Ytpicmphimcgklaa
