/- token goes on: in a drain, all is taken. -/
import Derived.Test.YtihkbkbbllmliaaTkFew
set_option linter.unusedVariables false
set_option linter.unusedSimpArgs false
namespace Go.Proofs.Ytihkbkbbllmliaa

theorem tkE_congr {n r : Nat} {v : Nat → Nat} {M N : Mv} : ∀ {q : Nat}, (∀ j, j < q → M.k j = N.k j ∧ M.f j = N.f j ∧ M.t j = N.t j ∧ M.v j = N.v j) → tkE n v r M q = tkE n v r N q
  | 0, _ => rfl
  | q + 1, h => by
    obtain ⟨h1, h2, h3, _⟩ := h q (by omega)
    rw [tkE, tkE, h1, h2, h3, tkE_congr fun j hj => h j (by omega)]
theorem tkE_push (n r : Nat) (v : Nat → Nat) (M : Mv) (q : Nat) (k f t x : Int) : tkE n v r (M.push q k f t x) (q + 1) = (tkStep n k f t (tkE n v r M q)).2 := by
  obtain ⟨h1, h2, h3, _⟩ := push_at M q k f t x
  rw [tkE, h1, h2, h3, tkE_congr (N := M) fun j hj => push_other M q k f t x (by omega)]
theorem tkE_app (n r : Nat) (v : Nat → Nat) (M : Mv) (m : Nat) (N : Mv) : tkE n v r (M.app m N) m = tkE n v r M m := tkE_congr fun j hj => app_old M m N hj
/-- How many may still be taken. -/
def KGo (n : Nat) (s : KS) (b : Int) : Prop := ∃ loc c, RS n s loc c ∧ DN n s loc c + ((n : Int) - 1) + (if s.has ≠ -1 ∧ s.inn = -1 then 2 * ((n : Int) - 1) else 0) ≤ b
theorem KGo.mono {n : Nat} {s : KS} {b b' : Int} (h : KGo n s b) (e : b ≤ b') : KGo n s b' := by
  obtain ⟨loc, c, h1, h2⟩ := h
  exact ⟨loc, c, h1, by omega⟩
theorem KGo.way {n : Nat} {s : KS} {b : Int} (h : KGo n s b) : (wayLen n s.way : Int) ≤ b := by
  obtain ⟨loc, c, h1, h2⟩ := h
  obtain ⟨src, hR⟩ := h1.ray
  have h3 := outN_le (s := s) hR.lt
  have h4 := hR.lt
  unfold DN at h2
  split at h2 <;> omega
theorem go_take {n f t : Nat} {s : KS} {b : Int} {x : Bool} {l : List Bool} (h : KGo n s b) (hw : s.way (f, t) = x :: l) : KGo n (comeK f t s).2 (b - 1) := by
  obtain ⟨loc, c, h1, h2⟩ := h
  obtain ⟨src, hR⟩ := h1.ray
  have hlt := hR.lt
  have e : comeK f t s = (0, if x = true then giveK t { popK f t l s with has := t, pt := upd s.pt t t } else standK t f (popK f t l s)) := by unfold comeK; rw [hw]
  rw [e]
  show KGo n (if x = true then giveK t { popK f t l s with has := t, pt := upd s.pt t t } else standK t f (popK f t l s)) (b - 1)
  cases x with
  | false =>
    rw [if_neg (by decide)]
    obtain ⟨loc', c', g1, g2, g3, g4⟩ := rs_ask h1 hw
    refine ⟨loc', c', g1, ?_⟩
    rcases g4 with ⟨g4, g5⟩ | ⟨g4, g5, g6, g7⟩
    · rw [g3]
      by_cases q : s.has ≠ -1 ∧ s.inn = -1
      · rw [if_pos q] at h2
        rw [if_pos ⟨fun e => q.1 (g4.1 e), q.2⟩]; omega
      · rw [if_neg q] at h2
        rw [if_neg (fun e => q ⟨fun e2 => e.1 (g4.2 e2), e.2⟩)]; omega
    · rw [if_pos ⟨g4, g6⟩] at h2
      rw [if_neg (fun e => e.1 g5)]; omega
  | true =>
    rw [if_pos rfl]
    obtain ⟨loc', c', g1, g2, g3, g4, g5⟩ := rs_token h1 hw
    refine ⟨loc', c', g1, ?_⟩
    rw [if_neg (fun e => e.1 g2)] at h2
    rcases g5 with ⟨g5, g6, g7⟩ | ⟨g5, g6, g7⟩
    · rw [if_neg (fun e => e.1 g5)]; omega
    · rw [if_neg (fun e => g6 e.2)]; omega
theorem sumN_add (g h : Nat → Nat) : ∀ n, sumN n (fun j => g j + h j) = sumN n g + sumN n h
  | 0 => rfl
  | n + 1 => by rw [sumN, sumN, sumN, sumN_add g h n]; omega
theorem sumN_one {g : Nat → Nat} {a : Nat} : ∀ {n : Nat}, (∀ j, j < n → j ≠ a → g j = 0) → sumN n g ≤ g a
  | 0, _ => Nat.zero_le _
  | n + 1, h => by
    rw [sumN]
    by_cases e : n = a
    · subst e
      have := sumN_le (g := g) (c := 0) (n := n) fun j hj => Nat.le_of_eq (h j (by omega) (by omega))
      omega
    · have := sumN_one (g := g) (a := a) (n := n) fun j hj => h j (by omega)
      rw [h n (by omega) e]; omega
theorem sumN_mono {g h : Nat → Nat} : ∀ {n : Nat}, (∀ j, j < n → g j ≤ h j) → sumN n g ≤ sumN n h
  | 0, _ => Nat.le_refl _
  | n + 1, e => by
    rw [sumN, sumN]
    have := sumN_mono (n := n) fun j hj => e j (by omega)
    have := e n (by omega)
    omega
theorem sumN_list (g : Nat → Nat) : ∀ n, ((List.range n).map g).sum = sumN n g
  | 0 => rfl
  | n + 1 => by rw [List.range_succ, List.map_append, List.sum_append, sumN_list g n]; simp [sumN]
theorem wayLen_rows (n : Nat) (q : Nat × Nat → List Bool) : wayLen n q = sumN n fun y => sumN n fun x => (q (y, x)).length := by
  unfold wayLen pairs
  have : ∀ l : List Nat, ((l.flatMap fun a => (List.range n).map fun b => (a, b)).map (fun p : Nat × Nat => (q p).length)).sum = (l.map fun y => sumN n fun x => (q (y, x)).length).sum := by
    intro l
    induction l with
    | nil => rfl
    | cons a l ih =>
      rw [List.flatMap_cons, List.map_append, List.sum_append, ih, List.map_cons, List.sum_cons, List.map_map, ← sumN_list]
      rfl
  rw [this, sumN_list]
theorem RJ.way_le {n loc src : Nat} {s : KS} (h : RJ n s loc src) : wayLen n s.way ≤ outN n s loc + flyN s := by
  rw [wayLen_rows]
  have h1 : ∀ y, y < n → sumN n (fun x => (s.way (y, x)).length) ≤ (if y ≠ loc ∧ s.row y ≠ [] then 1 else 0) + if y = src then flyN s else 0 := by
    intro y hy
    have h2 := sumN_one (n := n) (g := fun x => (s.way (y, x)).length) (a := s.pt y) fun x _ hx => by
      by_cases e : s.way (y, x) = []
      · simp [e]
      · exact absurd (h.wy y x e).2.2.symm hx
    refine Nat.le_trans h2 ?_
    show (s.way (y, s.pt y)).length ≤ _
    rw [← nFT, h.tok]
    by_cases e : s.way (y, s.pt y) = []
    · have ht := h.tok y (s.pt y)
      rw [e] at ht
      rw [e, ← ht]
      exact Nat.zero_le _
    · obtain ⟨_, q2, _⟩ := h.wy _ _ e
      have q3 := h.ask y hy q2
      have q4 : (if s.has = -1 ∧ y = src ∧ s.pt y = loc then 1 else 0) ≤ if y = src then flyN s else 0 := by
        unfold flyN
        by_cases a : s.has = -1 ∧ y = src ∧ s.pt y = loc
        · rw [if_pos a, if_pos a.2.1, if_pos a.1]; exact Nat.le_refl _
        · rw [if_neg a]; exact Nat.zero_le _
      by_cases e2 : s.row y = []
      · rw [if_pos e2] at q3
        omega
      · rw [if_neg e2] at q3
        have q5 : (if y ≠ loc ∧ s.row y ≠ [] then 1 else 0) = 1 := if_pos ⟨q2, e2⟩
        omega
  refine Nat.le_trans (sumN_mono h1) ?_
  rw [sumN_add]
  have h3 := sumN_one (n := n) (g := fun y => if y = src then flyN s else 0) (a := src) fun j _ hj => if_neg hj
  simp only [if_true] at h3
  unfold outN
  omega
theorem KFew.go {n W T : Nat} {s : KS} (hn : n ≤ 3) (h : KFew n s W T) : KGo n s 8 := by
  obtain ⟨loc, c, _, h1, _⟩ := h
  refine ⟨loc, c, h1, ?_⟩
  obtain ⟨src, hR⟩ := h1.ray
  have hw := hR.way_le
  have hlt := hR.lt
  unfold DN
  unfold flyN at hw
  by_cases e : s.has = -1
  · rw [if_neg (fun h => h.1 e)]
    rw [if_pos e] at hw
    have hr : s.row loc ≠ [] := by
      rcases hR.hs with ⟨q, _⟩ | ⟨_, _, _, _, q⟩
      · rw [e] at q; omega
      · exact q
    obtain ⟨c0, q1, q2⟩ := hR.chain hr
    have := q1.uniq (h1.fly e)
    omega
  · rw [if_neg e] at hw
    have := (h1.rest e).1
    split <;> omega
def doneK (i j : Nat) (p : Nat × Nat) : Prop := p.1 < i ∨ (p.1 = i ∧ p.2 < j)
/-- In the midst of a drain. -/
def MidK (n k i j : Nat) (s : KS) : Prop := KGo n s (7 - k) ∨ (KGo n s (8 - k) ∧ ∀ p : Nat × Nat, p.1 < n → p.2 < n → p.1 ≠ p.2 → doneK i j p → s.way p = []) ∨ (KGo n s 8 ∧ ∀ p : Nat × Nat, s.way p = [])
theorem MidK.start {n : Nat} {s : KS} (h : KGo n s 8) : MidK n 0 0 0 s := .inr (.inl ⟨by simpa using h, fun p _ _ _ hd => by unfold doneK at hd; omega⟩)
theorem MidK.same {n k i j i' j' : Nat} {s : KS} (h : MidK n k i j s) (hd : ∀ p : Nat × Nat, p.1 < n → p.2 < n → p.1 ≠ p.2 → (doneK i' j' p → doneK i j p)) : MidK n k i' j' s := by
  rcases h with h | ⟨h1, h2⟩ | h
  · exact .inl h
  · exact .inr (.inl ⟨h1, fun p q1 q2 q3 q4 => h2 p q1 q2 q3 (hd p q1 q2 q3 q4)⟩)
  · exact .inr (.inr h)
theorem MidK.skip {n k i : Nat} {s : KS} (h : MidK n k i i s) : MidK n k i (i + 1) s := h.same fun p _ _ hp => by unfold doneK; omega
theorem MidK.line {n k i : Nat} {s : KS} (h : MidK n k i n s) : MidK n k (i + 1) 0 s := h.same fun p _ hp _ => by unfold doneK; omega
theorem KGo.self {n loc : Nat} {s : KS} {src : Nat} (h : RJ n s loc src) (p : Nat × Nat) (hp : s.way p ≠ []) : p.1 < n ∧ p.2 < n ∧ p.1 ≠ p.2 := by
  obtain ⟨q1, q2, q3⟩ := h.wy p.1 p.2 hp
  exact ⟨q1, by rw [← q3]; exact h.pt _ q1, fun e => h.nself q1 q2 (by rw [q3, e])⟩
theorem MidK.round {n k : Nat} {s : KS} (h : MidK n k n 0 s) : MidK n (k + 1) 0 0 s := by
  rcases h with h | ⟨h1, h2⟩ | h
  · refine .inr (.inl ⟨h.mono (by omega), fun p _ _ _ hd => by unfold doneK at hd; omega⟩)
  · refine .inr (.inr ⟨h1.mono (by omega), fun p => Classical.byContradiction fun hne => ?_⟩)
    obtain ⟨loc, c, g1, -⟩ := h1
    obtain ⟨src, hR⟩ := g1.ray
    obtain ⟨q1, q2, q3⟩ := KGo.self hR p hne
    exact hne (h2 p q1 q2 q3 (.inl q1))
  · exact .inr (.inr h)
theorem MidK.take {n k i j : Nat} {s : KS} (h : MidK n k i j s) (hi : i < n) (hj : j < n) (hij : i ≠ j) : MidK n k i (j + 1) (tkStep n 2 i j s).2 := by
  have hs : tkStep n 2 i j s = comeK i j s := by
    rw [tk_comeS, if_neg (by simp; omega), Int.toNat_natCast, Int.toNat_natCast]
  rw [hs]
  cases hw : s.way (i, j) with
  | nil =>
    have e : comeK i j s = (5, s) := by unfold comeK; rw [hw]
    rw [e]
    rcases h with h | ⟨h1, h2⟩ | h
    · exact .inl h
    · refine .inr (.inl ⟨h1, fun p q1 q2 q3 q4 => ?_⟩)
      by_cases e2 : p = (i, j)
      · rw [e2]; exact hw
      · refine h2 p q1 q2 q3 ?_
        unfold doneK at q4 ⊢
        rcases q4 with q4 | ⟨q4, q5⟩
        · exact .inl q4
        · refine .inr ⟨q4, ?_⟩
          have : p.2 ≠ j := fun e3 => e2 (Prod.ext q4 e3)
          omega
    · exact .inr (.inr h)
  | cons x l =>
    rcases h with h | ⟨h1, h2⟩ | ⟨h1, h2⟩
    · exact .inl ((go_take h hw).mono (by omega))
    · exact .inl ((go_take h1 hw).mono (by omega))
    · rw [h2] at hw; cases hw
/-- The drain, run behind a script. -/
theorem drain_runK {n k i j q r : Nat} {u : Nat → Int} {N : Mv} (h : Dr n k i j N q) (hn : n ≤ 3) (ht : TreeOk n u) (hr : rootsL (vN u) n = [r]) (M : Mv) (m : Nat) : MidK n k i j (tkE n (vN u) r (M.app m N) (m + q)) := by
  induction h with
  | start N =>
    rw [Nat.add_zero, tkE_app]
    exact .start ((few_allK ht hr M m).go hn)
  | skip _ ih => exact ih.skip
  | take hi hj hij _ ih =>
    rw [app_push, ← Nat.add_assoc, tkE_push]
    exact ih.take hi hj hij
  | line _ ih => exact ih.line
  | round _ ih => exact ih.round
theorem MidK.empty {n : Nat} {s : KS} (h : MidK n 8 0 0 s) : KGo n s 8 ∧ ∀ p, s.way p = [] := by
  have key : ∀ b : Int, b ≤ 0 → KGo n s b → KGo n s 8 ∧ ∀ p, s.way p = [] := fun b hb h => by
    refine ⟨h.mono (by omega), fun p => Classical.byContradiction fun hne => ?_⟩
    have hw := h.way
    obtain ⟨loc, c, g1, -⟩ := h
    obtain ⟨src, hR⟩ := g1.ray
    obtain ⟨q1, q2, q3⟩ := KGo.self hR p hne
    have h1 : (s.way p).length ≤ wayLen n s.way := by
      unfold wayLen
      rw [sum_erase (fun p => (s.way p).length) (mem_pairs.2 ⟨q1, q2⟩)]
      omega
    have h2 : (s.way p).length ≠ 0 := fun e => hne (List.eq_nil_of_length_eq_zero e)
    omega
  rcases h with h | ⟨h, -⟩ | h
  · exact key _ (by omega) h
  · exact key _ (by omega) h
  · exact h
theorem MidK.way0 {n : Nat} {s : KS} (h : MidK n 8 0 0 s) : wayLen n s.way = 0 := way0K n h.empty.2
theorem MidK.goes {n : Nat} {s : KS} (h : MidK n 8 0 0 s) (hw : wantK s n ≠ 0) : inK s n ≠ 0 := by
  obtain ⟨⟨loc, c, h1, -⟩, h2⟩ := h.empty
  obtain ⟨src, hR⟩ := h1.ray
  have hex : ∃ i, (wantK s n).testBit i = true := Classical.byContradiction fun hno => hw (Nat.eq_of_testBit_eq fun i => by
    rw [Nat.zero_testBit]
    cases hb : (wantK s n).testBit i
    · rfl
    · exact absurd ⟨i, hb⟩ hno)
  obtain ⟨i, hi⟩ := hex
  rw [wantK_bit] at hi
  simp at hi
  have hf : s.has ≠ -1 := fun e => by
    have := hR.tok src loc
    rw [h2, if_pos ⟨e, rfl, rfl⟩] at this
    cases this
  have hin : s.inn = loc := by
    rcases (h1.rest hf).2 with q | q
    · exact q
    · exfalso
      have key : ∀ x, Rch s.pt loc x → x < n → s.row x = [] := fun x hx => by
        induction hx with
        | base => exact fun _ => q
        | @step y e _ ih =>
          intro hy
          have h3 := ih (hR.pt y hy)
          have h4 := hR.ask y hy e
          rw [h2, h3] at h4
          by_cases e2 : s.row y = []
          · exact e2
          · rw [if_neg e2] at h4; cases h4
      rw [key i (hR.rch i hi.1) hi.1] at hi
      simp at hi
  intro h0
  have : (inK s n).testBit loc = true := by rw [inK_bit]; simp [hR.lt, hin]
  rw [h0, Nat.zero_testBit] at this
  cases this
end Go.Proofs.Ytihkbkbbllmliaa
