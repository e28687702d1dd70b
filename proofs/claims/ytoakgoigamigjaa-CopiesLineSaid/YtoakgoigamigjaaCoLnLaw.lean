/- Every history of the register on copies is one that may be (plain). -/
import Derived.Test.YtoakgoigamigjaaCoLn
import Derived.Test.YtoakgoigamigjaaCoLnInv
import Derived.Test.YtoakgoigamigjaaCoMost
set_option linter.unusedVariables false
set_option linter.unusedSimpArgs false
namespace Go.Proofs.Ytoakgoigamigjaa
open Go.RowKit

/-- Which move began what a client does; which client does, or did, what a move began. -/
structure OI (n j : Nat) (M : Mv) (s : CS) : Prop where
  cur : ∀ i, i < 6 → (s.cl i).part ≠ 0 → (s.cl i).beg < j ∧ M.k (s.cl i).beg = 1 ∧ M.f (s.cl i).beg = (i : Nat) ∧ coC n M (s.cl i).beg = 0 ∧ (s.cl i).wr = decide (0 ≤ M.v (s.cl i).beg) ∧ (s.cl i).val = max (M.v (s.cl i).beg) 0
  all : ∀ b, b < j → M.k b = 1 → coC n M b = 0 → ∃ f, f < 6 ∧ M.f b = (f : Nat) ∧ (((s.cl f).part ≠ 0 ∧ (s.cl f).beg = b) ∨ ∃ o ∈ s.ops, o.fr = f ∧ o.bg = b)
theorem reach_keep (n i to now : Nat) (s : CS) (hp : (s.cl i).part = 1 ∨ (s.cl i).part = 2) : ((reachS n i to now s).cl i).beg = (s.cl i).beg ∧ ((reachS n i to now s).cl i).wr = (s.cl i).wr ∧ ((reachS n i to now s).cl i).val = (s.cl i).val ∧
    ((((reachS n i to now s).cl i).part ≠ 0 ∧ (reachS n i to now s).ops = s.ops) ∨ (((reachS n i to now s).cl i).part = 0 ∧ ∃ b v, (reachS n i to now s).ops = s.ops ++ [⟨i, (s.cl i).beg, now, b, v⟩])) := by
  unfold reachS
  obtain ⟨a1, a2⟩ := r1_shape i to s
  obtain ⟨b1, b2, b3, b4, b5, _, _, b6, _⟩ := r2_shape i to (r1S i to s)
  rw [r1_cl] at b2 b3 b4 b5
  rw [a2] at b6
  generalize r2S i to (r1S i to s) = x at b1 b2 b3 b4 b5 b6
  have b5 : (x.cl i).part = (s.cl i).part := b5
  unfold r3S
  split
  · exact ⟨b2, b3, b4, .inl ⟨by rw [b5]; omega, b6⟩⟩
  split
  · split
    · rw [setC_self]; exact ⟨b2, b3, b4, .inl ⟨by show (2 : Nat) ≠ 0; omega, b6⟩⟩
    · rw [setC_self]; exact ⟨b2, b3, b4, .inl ⟨by show (2 : Nat) ≠ 0; omega, b6⟩⟩
  · have e : ∀ l, ({ setC x i { x.cl i with rch := 0, many := 0, part := 0 } with ops := l } : CS).cl i = { x.cl i with rch := 0, many := 0, part := 0 } := fun l => setC_self ..
    rw [e]
    exact ⟨b2, b3, b4, .inr ⟨rfl, _, _, by show x.ops ++ _ = _; rw [b6, b2]⟩⟩
theorem OI.all_ (n : Nat) (M : Mv) (hpt : ∀ j i, i < 6 → ((coE n M j).cl i).part ≤ 2) : ∀ j, OI n j M (coE n M j)
  | 0 => ⟨fun i _ h => absurd rfl h, fun b hb => by omega⟩
  | j + 1 => by
    have ih := OI.all_ n M hpt j
    have hq := hpt j
    have hc : coC n M j = (doS n (M.k j) (M.f j) (M.t j) (M.v j) j (coE n M j)).1 := rfl
    show OI n (j + 1) M (doS n (M.k j) (M.f j) (M.t j) (M.v j) j (coE n M j)).2
    generalize coE n M j = s at ih hq hc
    -- nothing turns
    have same : (M.k j = 1 → coC n M j ≠ 0) → OI n (j + 1) M s := fun hno => ⟨fun i hi h => by obtain ⟨a, b⟩ := ih.cur i hi h; exact ⟨by omega, b⟩, fun b hb h1 h2 => by
      rcases Nat.lt_or_ge b j with h | h
      · exact ih.all b h h1 h2
      · obtain rfl : b = j := by omega
        exact absurd h2 (hno h1)⟩
    unfold doS at hc ⊢
    split at hc
    · rename_i h1; rw [if_pos h1]; exact same fun _ => by rw [hc]; simp
    rename_i h1
    rw [if_neg h1]
    split at hc
    · rename_i h2; rw [if_pos h2]; exact same fun _ => by rw [hc]; simp
    rename_i h2
    rw [if_neg h2]
    have hcl : M.k j ≠ 3 → 0 ≤ M.f j ∧ M.f j < 6 := fun h => by
      have : clientB (M.f j) = true := by
        cases hc : clientB (M.f j)
        · exact absurd (.inl ⟨h, hc⟩) h2
        · rfl
      unfold clientB at this; simp at this; exact this
    split at hc
    · rename_i h3
      rw [if_pos h3]
      have hne : M.k j = 1 → coC n M j ≠ 0 := fun h => by omega
      have hs := same hne
      split
      · exact hs
      · exact ⟨hs.cur, hs.all⟩
    rename_i h3
    rw [if_neg h3]
    have hf := hcl h3
    obtain ⟨f, hfe⟩ := Int.eq_ofNat_of_zero_le hf.1
    rw [hfe] at hc ⊢
    simp only [Int.toNat_natCast] at hc ⊢
    split at hc
    · rename_i h4
      rw [if_pos h4]
      split at hc
      · rename_i h5; rw [if_pos h5]; exact same fun _ => by rw [hc]; simp
      · rename_i h5
        rw [if_neg h5]
        refine ⟨fun i hi hp => ?_, fun b hb h6 h7 => ?_⟩
        · have hp : ((setC s f (openC j (M.v j))).cl i).part ≠ 0 := hp
          show ((setC s f (openC j (M.v j))).cl i).beg < j + 1 ∧ M.k ((setC s f (openC j (M.v j))).cl i).beg = 1 ∧ M.f ((setC s f (openC j (M.v j))).cl i).beg = (i : Nat) ∧ coC n M ((setC s f (openC j (M.v j))).cl i).beg = 0 ∧ ((setC s f (openC j (M.v j))).cl i).wr = decide (0 ≤ M.v ((setC s f (openC j (M.v j))).cl i).beg) ∧ ((setC s f (openC j (M.v j))).cl i).val = max (M.v ((setC s f (openC j (M.v j))).cl i).beg) 0
          rw [setC_cl] at hp ⊢
          by_cases e : i = f
          · rw [if_pos e]
            exact ⟨by show j < j + 1; omega, h4, by rw [e]; exact hfe, hc, rfl, rfl⟩
          · rw [if_neg e] at hp ⊢
            obtain ⟨a, b⟩ := ih.cur i hi hp
            exact ⟨by omega, b⟩
        · rcases Nat.lt_or_ge b j with h | h
          · obtain ⟨f', g1, g2, g3⟩ := ih.all b h h6 h7
            refine ⟨f', g1, g2, g3.imp (fun g => ?_) id⟩
            have : f' ≠ f := fun e => by rw [e] at g; omega
            show ((setC s f (openC j (M.v j))).cl f').part ≠ 0 ∧ ((setC s f (openC j (M.v j))).cl f').beg = b
            rw [setC_cl, if_neg this]; exact g
          · obtain rfl : b = j := by omega
            refine ⟨f, by omega, hfe, .inl ?_⟩
            show ((setC s f (openC b (M.v b))).cl f).part ≠ 0 ∧ ((setC s f (openC b (M.v b))).cl f).beg = b
            rw [setC_self]
            exact ⟨by show (1 : Nat) ≠ 0; omega, rfl⟩
    rename_i h4
    rw [if_neg h4]
    have hne : M.k j = 1 → coC n M j ≠ 0 := fun h => absurd h h4
    have hs := same hne
    split
    · exact hs
    rename_i h5
    split
    · exact hs
    split
    · exact hs
    · have hf6 : f < 6 := by omega
      have h12 : (s.cl f).part = 1 ∨ (s.cl f).part = 2 := by have := hq f hf6; omega
      obtain ⟨r1, r2, r3, r4⟩ := reach_keep n f (M.t j).toNat j s h12
      obtain ⟨o1, _⟩ := reach_shape n f (M.t j).toNat j s
      refine ⟨fun i hi hp => ?_, fun b hb h6 h7 => ?_⟩
      · by_cases e : i = f
        · subst e
          have := hs.cur i hi (by omega)
          show ((reachS n i _ j s).cl i).beg < _ ∧ _
          rw [r1, r2, r3]
          exact this
        · have hp : ((reachS n f (M.t j).toNat j s).cl i).part ≠ 0 := hp
          show ((reachS n f (M.t j).toNat j s).cl i).beg < _ ∧ _
          rw [o1 i e] at hp ⊢
          exact hs.cur i hi hp
      · obtain ⟨f', g1, g2, g3⟩ := hs.all b hb h6 h7
        refine ⟨f', g1, g2, ?_⟩
        show ((reachS n f (M.t j).toNat j s).cl f').part ≠ 0 ∧ ((reachS n f (M.t j).toNat j s).cl f').beg = b ∨ ∃ o ∈ (reachS n f (M.t j).toNat j s).ops, o.fr = f' ∧ o.bg = b
        have hops : ∀ o ∈ s.ops, o ∈ (reachS n f (M.t j).toNat j s).ops := fun o ho => by
          rcases r4 with ⟨_, e⟩ | ⟨_, _, _, e⟩ <;> rw [e]
          · exact ho
          · exact List.mem_append.2 (.inl ho)
        rcases g3 with ⟨g3, g4⟩ | ⟨o, g3, g4⟩
        · by_cases e : f' = f
          · subst e
            rcases r4 with ⟨p1, _⟩ | ⟨_, b', v', p2⟩
            · exact .inl ⟨p1, by rw [r1]; exact g4⟩
            · exact .inr ⟨_, by rw [p2]; exact List.mem_append.2 (.inr (List.mem_singleton.2 rfl)), rfl, g4⟩
          · exact .inl (by rw [o1 f' e]; exact ⟨g3, g4⟩)
        · exact .inr ⟨o, hops o g3, g4⟩
/-- A list of operations, as the document's orders know it. -/
def opO (l : List Opr) : Opl := ⟨l.length, fun i => ((l.getD i ⟨0, 0, 0, false, 0⟩).fr : Nat), fun i => ((l.getD i ⟨0, 0, 0, false, 0⟩).bg : Nat), fun i => ((l.getD i ⟨0, 0, 0, false, 0⟩).en : Nat), fun i => (l.getD i ⟨0, 0, 0, false, 0⟩).wr, fun i => (l.getD i ⟨0, 0, 0, false, 0⟩).vl⟩
/-- What was begun and is not done, and was seen. -/
structure Ex (n m e : Nat) (M : Mv) (ops : List Opr) (X : List Opr) : Prop where
  is : ∀ x ∈ X, x.bg < m ∧ M.k x.bg = 1 ∧ coC n M x.bg = 0 ∧ 0 ≤ M.v x.bg ∧ M.f x.bg = (x.fr : Nat) ∧ x.en = e ∧ x.wr = true ∧ x.vl = M.v x.bg ∧ ∀ o ∈ ops, ¬ (o.fr = x.fr ∧ o.bg = x.bg)
  up : X.Pairwise fun x y => x.bg < y.bg
  all : ∀ b, b < m → M.k b = 1 → coC n M b = 0 → 0 ≤ M.v b → (∀ o ∈ ops, ¬ ((o.fr : Int) = M.f b ∧ o.bg = b)) → (∃ o ∈ ops, o.wr = false ∧ o.vl = M.v b) → ∃ x ∈ X, x.bg = b
theorem max_of (G : List Dn) : ∃ B, ∀ g ∈ G, g.x < B := by
  induction G with
  | nil => exact ⟨0, fun g hg => by cases hg⟩
  | cons a G ih =>
    obtain ⟨B, hB⟩ := ih
    refine ⟨max B (a.x + 1), fun g hg => ?_⟩
    rcases List.mem_cons.1 hg with rfl | hg
    · omega
    · have := hB g hg; omega
theorem max_six (b : Nat → Nat) : ∃ B, ∀ i, i < 6 → b i < B := ⟨b 0 + b 1 + b 2 + b 3 + b 4 + b 5 + 1, fun i hi => by
  rcases (by omega : i = 0 ∨ i = 1 ∨ i = 2 ∨ i = 3 ∨ i = 4 ∨ i = 5) with rfl | rfl | rfl | rfl | rfl | rfl <;> omega⟩
def stX (s : CS) (B f : Nat) : Nat := if (s.cl f).part = 2 then (s.cl f).bs else B + f
def sigO (s : CS) (B : Nat) (G : List Dn) (X : List Opr) (i : Nat) : Nat := ((G.map (·.x)) ++ X.map (fun x => stX s B x.fr)).getD i 0
theorem at_cases {s : CS} {B : Nat} {G : List Dn} {X : List Opr} {i : Nat} (hi : i < (opO (G.map (·.o) ++ X)).n) :
    (∃ g, G[i]? = some g ∧ (G.map (·.o) ++ X).getD i ⟨0, 0, 0, false, 0⟩ = g.o ∧ sigO s B G X i = g.x) ∨
    (G.length ≤ i ∧ ∃ x, X[i - G.length]? = some x ∧ (G.map (·.o) ++ X).getD i ⟨0, 0, 0, false, 0⟩ = x ∧ sigO s B G X i = stX s B x.fr) := by
  have hi : i < (G.map (·.o) ++ X).length := hi
  rw [List.length_append, List.length_map] at hi
  rcases Nat.lt_or_ge i G.length with h | h
  · left
    refine ⟨G[i], List.getElem?_eq_getElem h, ?_, ?_⟩
    · rw [List.getD_eq_getElem?_getD, List.getElem?_append_left (by simpa using h), List.getElem?_map, List.getElem?_eq_getElem h]; rfl
    · unfold sigO
      rw [List.getD_eq_getElem?_getD, List.getElem?_append_left (by simpa using h), List.getElem?_map, List.getElem?_eq_getElem h]; rfl
  · right
    have h2 : i - G.length < X.length := by omega
    refine ⟨h, X[i - G.length], List.getElem?_eq_getElem h2, ?_, ?_⟩
    · rw [List.getD_eq_getElem?_getD, List.getElem?_append_right (by simpa using h), List.length_map, List.getElem?_eq_getElem h2]; rfl
    · unfold sigO
      rw [List.getD_eq_getElem?_getD, List.getElem?_append_right (by simpa using h), List.length_map, List.getElem?_map, List.getElem?_eq_getElem h2]; rfl
section
variable {n m : Nat} {M : Mv} {s : CS} {G : List Dn} {X : List Opr}
/-- What is not done is what its client does. -/
theorem Ex.pend {e : Nat} (hX : Ex n m e M s.ops X) (hO : OI n m M s) {x : Opr} (hx : x ∈ X) : x.fr < 6 ∧ (s.cl x.fr).part ≠ 0 ∧ (s.cl x.fr).beg = x.bg ∧ (s.cl x.fr).wr = true ∧ (s.cl x.fr).val = x.vl := by
  obtain ⟨a1, a2, a3, a4, a5, a6, a7, a8, a9⟩ := hX.is x hx
  obtain ⟨f, b1, b2, b3⟩ := hO.all x.bg a1 a2 a3
  have hf : f = x.fr := by rw [a5] at b2; omega
  subst hf
  rcases b3 with ⟨b3, b4⟩ | ⟨o, ho, b3, b4⟩
  · obtain ⟨_, _, _, _, c5, c6⟩ := hO.cur x.fr b1 b3
    rw [b4] at c5 c6
    refine ⟨b1, b3, b4, by rw [c5]; exact decide_eq_true a4, by rw [c6, a8]; omega⟩
  · exact absurd ⟨b3, b4⟩ (a9 o ho)
theorem pw_at {α : Type} {R : α → α → Prop} {l : List α} (h : l.Pairwise R) {i j : Nat} {a b : α} (hi : l[i]? = some a) (hj : l[j]? = some b) (hij : i < j) : R a b := by
  obtain ⟨h1, h2⟩ := List.getElem?_eq_some_iff.1 hi
  obtain ⟨h3, h4⟩ := List.getElem?_eq_some_iff.1 hj
  have := List.pairwise_iff_getElem.1 h i j h1 h3 hij
  rw [h2, h4] at this; exact this
theorem line_st (h : LI n m s G) (hO : OI n m M s) (hX : Ex n m (m + 1) M s.ops X) : ∃ σ, Stamped (opO (s.ops ++ X)) σ (m + 1) := by
  obtain ⟨B1, hB1⟩ := max_of G
  obtain ⟨B2, hB2⟩ := max_six (fun i => (s.cl i).bs)
  have hops := h.ops
  rw [hops]
  refine ⟨sigO s (B1 + B2) G X, ?_⟩
  have hst : ∀ x ∈ X, ((s.cl x.fr).part = 2 ∧ stX s (B1 + B2) x.fr = (s.cl x.fr).bs ∧ (s.cl x.fr).bs % 6 = x.fr ∧ 0 < (s.cl x.fr).bs ∧ (s.cl x.fr).bs < B2) ∨ ((s.cl x.fr).part = 1 ∧ stX s (B1 + B2) x.fr = B1 + B2 + x.fr) := fun x hx => by
    obtain ⟨p1, p2, p3, p4, p5⟩ := hX.pend hO hx
    have := (h.pr x.fr p1).2.2
    rcases (by omega : (s.cl x.fr).part = 2 ∨ (s.cl x.fr).part = 1) with e | e
    · left
      obtain ⟨_, _, c⟩ := h.p2 x.fr p1 e
      exact ⟨e, if_pos e, (c p4).1, (c p4).2.1, hB2 x.fr p1⟩
    · right
      exact ⟨e, if_neg (by omega)⟩
  -- a stamp of what was done before something not done began is less
  have hdx : ∀ g ∈ G, ∀ x ∈ X, g.o.en < x.bg → g.x < stX s (B1 + B2) x.fr := fun g hg x hx hen => by
    obtain ⟨p1, p2, p3, p4, p5⟩ := hX.pend hO hx
    rcases hst x hx with ⟨a, b, _⟩ | ⟨a, b⟩
    · rw [b]
      exact ((h.p2 x.fr p1 a).1 g hg (by rw [p3]; exact hen)).2 p4
    · rw [b]; have := hB1 g hg; omega
  have memG : ∀ {i : Nat} {g : Dn}, G[i]? = some g → g ∈ G := fun e => List.mem_of_getElem? e
  have memX : ∀ {i : Nat} {x : Opr}, X[i]? = some x → x ∈ X := fun e => List.mem_of_getElem? e
  have hxx : ∀ x ∈ X, ∀ y ∈ X, x.fr = y.fr → x.bg = y.bg := fun x hx y hy e => by
    have a := (hX.pend hO hx).2.2.1
    have b := (hX.pend hO hy).2.2.1
    rw [e] at a; omega
  have hxi : ∀ {i j : Nat} {x y : Opr}, X[i]? = some x → X[j]? = some y → x.bg = y.bg → i = j := fun {i j x y} e1 e2 e => by
    rcases Nat.lt_trichotomy i j with h1 | h1 | h1
    · have := pw_at hX.up e1 e2 h1; omega
    · exact h1
    · have := pw_at hX.up e2 e1 h1; omega
  refine ⟨fun i hi => ?_, fun i hi => ?_, fun a b ha hb hlt => ?_, fun a b ha hb hfr hlt => ?_, fun a b ha hb hfr hbg => ?_, fun a b ha hb hwa hwb he => ?_, fun a ha hw => ?_, fun r hr hw => ?_⟩
  · show 0 ≤ (((G.map (·.o) ++ X).getD i _).bg : Int) ∧ (((G.map (·.o) ++ X).getD i _).bg : Int) < _
    rcases at_cases (s := s) (B := B1 + B2) hi with ⟨g, e1, e2, _⟩ | ⟨_, x, e1, e2, _⟩ <;> rw [e2]
    · have := h.fin g (memG e1); omega
    · have := (hX.is x (memX e1)).1; omega
  · show (((G.map (·.o) ++ X).getD i _).bg : Int) < ((G.map (·.o) ++ X).getD i _).en
    rcases at_cases (s := s) (B := B1 + B2) hi with ⟨g, e1, e2, _⟩ | ⟨_, x, e1, e2, _⟩ <;> rw [e2]
    · have := h.fin g (memG e1); omega
    · obtain ⟨a1, _, _, _, _, a6, _⟩ := hX.is x (memX e1)
      omega
  · have hlt : (((G.map (·.o) ++ X).getD b ⟨0, 0, 0, false, 0⟩).en : Int) < ((G.map (·.o) ++ X).getD a ⟨0, 0, 0, false, 0⟩).bg := hlt
    show _ ∧ (((G.map (·.o) ++ X).getD a ⟨0, 0, 0, false, 0⟩).wr = true → _)
    rcases at_cases (s := s) (B := B1 + B2) hb with ⟨g, e1, e2, e3⟩ | ⟨_, x, e1, e2, e3⟩
    · rw [e2] at hlt
      rw [e3]
      rcases at_cases (s := s) (B := B1 + B2) ha with ⟨g', e4, e5, e6⟩ | ⟨_, y, e4, e5, e6⟩
      · rw [e5] at hlt ⊢
        rw [e6]
        exact h.real g (memG e1) g' (memG e4) (by omega)
      · rw [e5] at hlt
        rw [e6]
        have := hdx g (memG e1) y (memX e4) (by omega)
        exact ⟨by omega, fun _ => this⟩
    · exfalso
      rw [e2] at hlt
      obtain ⟨_, _, _, _, _, a6, _⟩ := hX.is x (memX e1)
      rcases at_cases (s := s) (B := B1 + B2) ha with ⟨g', e4, e5, e6⟩ | ⟨_, y, e4, e5, e6⟩
      · rw [e5] at hlt
        have := h.fin g' (memG e4); omega
      · rw [e5] at hlt
        have := (hX.is y (memX e4)).1; omega
  · have hlt : (((G.map (·.o) ++ X).getD a ⟨0, 0, 0, false, 0⟩).bg : Int) < ((G.map (·.o) ++ X).getD b ⟨0, 0, 0, false, 0⟩).bg := hlt
    have hfr : (((G.map (·.o) ++ X).getD a ⟨0, 0, 0, false, 0⟩).fr : Int) = ((G.map (·.o) ++ X).getD b ⟨0, 0, 0, false, 0⟩).fr := hfr
    show (((G.map (·.o) ++ X).getD a ⟨0, 0, 0, false, 0⟩).en : Int) < ((G.map (·.o) ++ X).getD b ⟨0, 0, 0, false, 0⟩).bg
    rcases at_cases (s := s) (B := B1 + B2) ha with ⟨g, e1, e2, e3⟩ | ⟨_, x, e1, e2, e3⟩ <;> rcases at_cases (s := s) (B := B1 + B2) hb with ⟨g', e4, e5, e6⟩ | ⟨_, y, e4, e5, e6⟩ <;> rw [e2] at hlt hfr ⊢ <;> rw [e5] at hlt hfr ⊢
    · rcases Nat.lt_trichotomy a b with h1 | h1 | h1
      · have := pw_at h.seq e1 e4 h1 (by omega); omega
      · subst h1
        exact absurd hlt (Int.lt_irrefl _)
      · have := pw_at h.seq e4 e1 h1 (by omega)
        have := h.fin g' (memG e4); omega
    · obtain ⟨p1, p2, p3, _⟩ := hX.pend hO (memX e4)
      have := (h.cli y.fr p1 p2).2.2 g (memG e1) (by omega)
      omega
    · exfalso
      obtain ⟨p1, p2, p3, _⟩ := hX.pend hO (memX e1)
      have := (h.cli x.fr p1 p2).2.2 g' (memG e4) (by omega)
      have := h.fin g' (memG e4); omega
    · have := hxx x (memX e1) y (memX e4) (by omega); omega
  · have hbg : (((G.map (·.o) ++ X).getD a ⟨0, 0, 0, false, 0⟩).bg : Int) = ((G.map (·.o) ++ X).getD b ⟨0, 0, 0, false, 0⟩).bg := hbg
    have hfr : (((G.map (·.o) ++ X).getD a ⟨0, 0, 0, false, 0⟩).fr : Int) = ((G.map (·.o) ++ X).getD b ⟨0, 0, 0, false, 0⟩).fr := hfr
    have gx : ∀ {g : Dn} {x : Opr}, g ∈ G → x ∈ X → g.o.fr = x.fr → g.o.bg = x.bg → False := fun {g x} hg hx e1 e2 => by
      obtain ⟨p1, p2, p3, _⟩ := hX.pend hO hx
      have := (h.cli x.fr p1 p2).2.2 g hg e1
      have := h.fin g hg
      omega
    rcases at_cases (s := s) (B := B1 + B2) ha with ⟨g, e1, e2, e3⟩ | ⟨l1, x, e1, e2, e3⟩ <;> rcases at_cases (s := s) (B := B1 + B2) hb with ⟨g', e4, e5, e6⟩ | ⟨l2, y, e4, e5, e6⟩ <;> rw [e2, e5] at hbg hfr
    · rcases Nat.lt_trichotomy a b with h1 | h1 | h1
      · have := pw_at h.seq e1 e4 h1 (by omega)
        have := h.fin g (memG e1); omega
      · exact h1
      · have := pw_at h.seq e4 e1 h1 (by omega)
        have := h.fin g' (memG e4); omega
    · exact (gx (memG e1) (memX e4) (by omega) (by omega)).elim
    · exact (gx (memG e4) (memX e1) (by omega) (by omega)).elim
    · have := hxi e1 e4 (by omega); omega
  · have hwa : ((G.map (·.o) ++ X).getD a ⟨0, 0, 0, false, 0⟩).wr = true := hwa
    have hwb : ((G.map (·.o) ++ X).getD b ⟨0, 0, 0, false, 0⟩).wr = true := hwb
    -- two that wrote: their clients are one
    have gx : ∀ {g : Dn} {x : Opr}, g ∈ G → x ∈ X → g.o.wr = true → g.x = stX s (B1 + B2) x.fr → False := fun {g x} hg hx hgw he => by
      rcases hst x hx with ⟨c1, c2, c3, _⟩ | ⟨_, c2⟩
      · obtain ⟨p1, p2, p3, p4, _⟩ := hX.pend hO hx
        obtain ⟨f1, f2, f3, _, f5⟩ := h.fin g hg
        have hfr : g.o.fr = x.fr := by rw [← (f5 hgw).1, ← c3, ← c2, he]
        have := (h.cli x.fr p1 p2).2.2 g hg hfr
        have := ((h.p2 x.fr p1 c1).1 g hg this).2 p4
        omega
      · have := hB1 g hg; omega
    rcases at_cases (s := s) (B := B1 + B2) ha with ⟨g, e1, e2, e3⟩ | ⟨l1, x, e1, e2, e3⟩ <;> rcases at_cases (s := s) (B := B1 + B2) hb with ⟨g', e4, e5, e6⟩ | ⟨l2, y, e4, e5, e6⟩ <;> rw [e2] at hwa <;> rw [e5] at hwb <;> rw [e3, e6] at he
    · have m1 := ((h.fin g (memG e1)).2.2.2.2 hwa).1
      have m2 := ((h.fin g' (memG e4)).2.2.2.2 hwb).1
      have hfr : g.o.fr = g'.o.fr := by rw [← m1, ← m2, he]
      rcases Nat.lt_trichotomy a b with h1 | h1 | h1
      · have := pw_at h.seq e1 e4 h1 hfr
        have := (h.real g (memG e1) g' (memG e4) this).2 hwb; omega
      · exact h1
      · have := pw_at h.seq e4 e1 h1 hfr.symm
        have := (h.real g' (memG e4) g (memG e1) this).2 hwa; omega
    · exact (gx (memG e1) (memX e4) hwa he).elim
    · exact (gx (memG e4) (memX e1) hwb he.symm).elim
    · have hfr : x.fr = y.fr := by
        have q1 := (hX.pend hO (memX e1)).1
        have q2 := (hX.pend hO (memX e4)).1
        rcases hst x (memX e1) with ⟨c1, c2, c3, _, c5⟩ | ⟨_, c2⟩ <;> rcases hst y (memX e4) with ⟨d1, d2, d3, _, d5⟩ | ⟨_, d2⟩ <;> rw [c2, d2] at he
        · rw [← c3, ← d3, he]
        · omega
        · omega
        · omega
      have := hxi e1 e4 (hxx x (memX e1) y (memX e4) hfr)
      omega
  · have hw : ((G.map (·.o) ++ X).getD a ⟨0, 0, 0, false, 0⟩).wr = true := hw
    rcases at_cases (s := s) (B := B1 + B2) ha with ⟨g, e1, e2, e3⟩ | ⟨l1, x, e1, e2, e3⟩ <;> rw [e2] at hw <;> rw [e3]
    · exact ((h.fin g (memG e1)).2.2.2.2 hw).2
    · rcases hst x (memX e1) with ⟨_, c2, _, c4, _⟩ | ⟨_, c2⟩
      · rw [c2]; exact c4
      · have := hB2 0 (by omega); rw [c2]; omega
  · have hw : ((G.map (·.o) ++ X).getD r ⟨0, 0, 0, false, 0⟩).wr = false := hw
    have atG : ∀ {i : Nat} {g : Dn}, G[i]? = some g → i < (opO (G.map (·.o) ++ X)).n ∧ (opO (G.map (·.o) ++ X)).wr i = g.o.wr ∧ sigO s (B1 + B2) G X i = g.x ∧ (opO (G.map (·.o) ++ X)).vl i = g.o.vl := fun {i g} e => by
      have hl := (List.getElem?_eq_some_iff.1 e).1
      have hi : i < (opO (G.map (·.o) ++ X)).n := by show i < (G.map (·.o) ++ X).length; rw [List.length_append, List.length_map]; omega
      rcases at_cases (s := s) (B := B1 + B2) hi with ⟨g', e1, e2, e3⟩ | ⟨l1, _⟩
      · rw [e] at e1; injection e1 with e1; subst e1
        exact ⟨hi, by show ((G.map (·.o) ++ X).getD i _).wr = _; rw [e2], e3, by show ((G.map (·.o) ++ X).getD i _).vl = _; rw [e2]⟩
      · omega
    rcases at_cases (s := s) (B := B1 + B2) hr with ⟨g, e1, e2, e3⟩ | ⟨l1, x, e1, e2, e3⟩
    · rw [e2] at hw
      obtain ⟨_, _, _, hs, _⟩ := h.fin g (memG e1)
      have hvl : (opO (G.map (·.o) ++ X)).vl r = g.o.vl := by show ((G.map (·.o) ++ X).getD r _).vl = _; rw [e2]
      rcases hs with ⟨s1, s2⟩ | ⟨g', hg', s1, s2, s3⟩ | ⟨i, hi6, s1, s2, s3, s4⟩
      · left; exact ⟨by rw [e3, s1], by rw [hvl, s2]⟩
      · right
        obtain ⟨k, hk⟩ := List.getElem?_of_mem hg'
        obtain ⟨k1, k2, k3, k4⟩ := atG hk
        exact ⟨k, k1, by rw [k2]; exact s1, by rw [k3, e3]; exact s2, by rw [k4, hvl]; exact s3⟩
      · right
        obtain ⟨c1, c2, c3, c4, c5, c6⟩ := hO.cur i hi6 (by rw [s1]; decide)
        have hv0 : 0 ≤ M.v (s.cl i).beg := by rw [s2] at c5; exact of_decide_eq_true c5.symm
        have hval : (s.cl i).bv = M.v (s.cl i).beg := by
          rw [((h.p2 i hi6 s1).2.2 s2).2.2, c6]; omega
        obtain ⟨x, hx, hxb⟩ := hX.all (s.cl i).beg c1 c2 c4 hv0 (fun o ho ⟨q1, q2⟩ => by
          rw [hops] at ho
          obtain ⟨g2, hg2, rfl⟩ := List.mem_map.1 ho
          have hfr : g2.o.fr = i := by rw [c3] at q1; omega
          have := (h.cli i hi6 (by rw [s1]; decide)).2.2 g2 hg2 hfr
          have := h.fin g2 hg2
          omega) ⟨g.o, by rw [hops]; exact List.mem_map.2 ⟨g, memG e1, rfl⟩, hw, by rw [← s4, hval]⟩
        obtain ⟨a1, a2, a3, a4, a5, a6, a7, a8, a9⟩ := hX.is x hx
        have hfr : x.fr = i := by rw [hxb, c3] at a5; omega
        obtain ⟨k, hk⟩ := List.getElem?_of_mem hx
        have hkl := (List.getElem?_eq_some_iff.1 hk).1
        have hkn : G.length + k < (opO (G.map (·.o) ++ X)).n := by show _ < (G.map (·.o) ++ X).length; rw [List.length_append, List.length_map]; omega
        rcases at_cases (s := s) (B := B1 + B2) hkn with ⟨g2, e4, _⟩ | ⟨_, y, e4, e5, e6⟩
        · have := (List.getElem?_eq_some_iff.1 e4).1; omega
        · rw [Nat.add_sub_cancel_left, hk] at e4
          injection e4 with e4; subst e4
          refine ⟨_, hkn, by show ((G.map (·.o) ++ X).getD _ _).wr = true; rw [e5]; exact a7, ?_, ?_⟩
          · rw [e6, e3, hfr]; unfold stX; rw [if_pos s1]; exact s3
          · rw [hvl]; show ((G.map (·.o) ++ X).getD _ _).vl = _; rw [e5, a8, hxb, ← hval]; exact s4
    · rw [e2] at hw
      have := (hX.is x (memX e1)).2.2.2.2.2.2.1
      rw [this] at hw; cases hw
theorem Stamped.ok {o : Opl} {σ : Nat → Nat} {C : Nat} (h : Stamped o σ C) (h8 : o.n ≤ 8) : o.Ok :=
  ⟨h8, h.be, fun i j hi hj hne hfr ⟨h1, h2⟩ => by
    rcases Int.lt_trichotomy (o.bg i) (o.bg j) with h3 | h3 | h3
    · have := h.same i j hi hj hfr h3; omega
    · exact hne (h.one i j hi hj hfr h3)
    · have := h.same j i hj hi hfr.symm h3; omega⟩
theorem line_fin (h : LI n m s G) (hO : OI n m M s) (hX : Ex n m (m + 1) M s.ops X) (h8 : (s.ops ++ X).length ≤ 8) : (opO (s.ops ++ X)).Ok ∧ Fin (opO (s.ops ++ X)) (lineB (opO (s.ops ++ X))) 0 (-1) := by
  obtain ⟨σ, hσ⟩ := line_st h hO hX
  exact ⟨hσ.ok h8, stamped_fin hσ⟩
theorem Ex.zero (n e : Nat) (M : Mv) (ops : List Opr) : Ex n 0 e M ops [] := ⟨fun x hx => (by cases hx), List.Pairwise.nil, fun b hb => (by omega)⟩
theorem Ex.skip {e i : Nat} {ops : List Opr} (h : Ex n i e M ops X) (hno : M.k i = 1 → coC n M i = 0 → 0 ≤ M.v i → (∀ o ∈ ops, ¬ ((o.fr : Int) = M.f i ∧ o.bg = i)) → (∃ o ∈ ops, o.wr = false ∧ o.vl = M.v i) → False) : Ex n (i + 1) e M ops X := by
  refine ⟨fun x hx => ?_, h.up, fun b hb h1 h2 h3 h4 h5 => ?_⟩
  · obtain ⟨a, b⟩ := h.is x hx
    exact ⟨by omega, b⟩
  · rcases Nat.lt_or_ge b i with hl | hl
    · exact h.all b hl h1 h2 h3 h4 h5
    · obtain rfl : b = i := by omega
      exact (hno h1 h2 h3 h4 h5).elim
theorem Ex.more {e i f : Nat} {ops : List Opr} (h : Ex n i e M ops X) (h1 : M.k i = 1) (h2 : coC n M i = 0) (h3 : 0 ≤ M.v i) (hf : M.f i = (f : Nat)) (h4 : ∀ o ∈ ops, ¬ ((o.fr : Int) = M.f i ∧ o.bg = i)) : Ex n (i + 1) e M ops (X ++ [⟨f, i, e, true, M.v i⟩]) := by
  refine ⟨fun x hx => ?_, ?_, fun b hb g1 g2 g3 g4 g5 => ?_⟩
  · rcases List.mem_append.1 hx with hx | hx
    · obtain ⟨a, b⟩ := h.is x hx
      exact ⟨by omega, b⟩
    · obtain rfl : x = ⟨f, i, e, true, M.v i⟩ := by simpa using hx
      exact ⟨by show i < i + 1; omega, h1, h2, h3, hf, rfl, rfl, rfl, fun o ho ⟨p, q⟩ => h4 o ho ⟨by rw [hf, p], q⟩⟩
  · rw [List.pairwise_append]
    refine ⟨h.up, by simp, fun x hx y hy => ?_⟩
    obtain rfl : y = ⟨f, i, e, true, M.v i⟩ := by simpa using hy
    exact (h.is x hx).1
  · rcases Nat.lt_or_ge b i with hl | hl
    · obtain ⟨x, hx, hb⟩ := h.all b hl g1 g2 g3 g4 g5
      exact ⟨x, List.mem_append.2 (.inl hx), hb⟩
    · obtain rfl : b = i := by omega
      exact ⟨_, List.mem_append.2 (.inr (List.mem_singleton.2 rfl)), rfl⟩
end
end Go.Proofs.Ytoakgoigamigjaa
